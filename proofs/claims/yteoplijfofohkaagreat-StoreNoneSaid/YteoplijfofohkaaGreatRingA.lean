/- The contracts of package ring, said of the lists of keys alone. -/
import Derived.Test.YteoplijfofohkaaGreatRing
import Derived.Test.YteoplijfofohkaaGreatPRing3
namespace Go.Proofs.YteoplijfofohkaaGreat
open Go Go.Sx Go.Hw
variable [Env]

/-- lists of keys, that have so many places together -/
def ringAt (p places : Nat) (K : List (List Str)) : Asrt := fun h => ∃ R, (RInv R places K ∧ R.lists + places ≤ 5000) ∧ ringRaw p R h
theorem ringAt_open {w : World} {p places : Nat} {K : List (List Str)} {L : List Asrt} (hs : Sat w (ringAt p places K :: L)) : ∃ R, RInv R places K ∧ R.lists + places ≤ 5000 ∧ Sat w (ringRaw p R :: L) := by
  obtain ⟨R, hs⟩ := hs.exists
  obtain ⟨⟨h1, h2⟩, hs⟩ := hs.pure
  exact ⟨R, h1, h2, hs⟩
theorem ringAt_shut {w : World} {p places : Nat} {K : List (List Str)} {L : List Asrt} {R : Ring} (h1 : RInv R places K) (h2 : R.lists + places ≤ 5000) (hs : Sat w (ringRaw p R :: L)) : Sat w (ringAt p places K :: L) :=
  hs.impl fun _ hg => ⟨R, ⟨h1, h2⟩, hg⟩
section
variable {R : Ring} {places : Nat} {K : List (List Str)}
omit [Env] in
theorem _root_.Go.Hw.RInv.klen (h : RInv R places K) : K.length = R.lists := by obtain ⟨I, h⟩ := h; exact h.klen
omit [Env] in
theorem _root_.Go.Hw.RInv.manyLen (h : RInv R places K) : R.many.length = R.lists := by obtain ⟨I, h⟩ := h; rw [h.core.many, List.length_map, h.core.ilen]
omit [Env] in
theorem _root_.Go.Hw.RInv.slen (h : RInv R places K) : R.slots.length = R.lists + places := by obtain ⟨I, h⟩ := h; exact h.core.slen
omit [Env] in
theorem _root_.Go.Hw.RInv.manyD (h : RInv R places K) (l : Nat) : R.many.getD l 0 = (K.getD l []).length := by obtain ⟨I, h⟩ := h; exact h.manyD l
omit [Env] in
theorem _root_.Go.Hw.RInv.mem (h : RInv R places K) (k : Str) : k ∈ K.flatten ↔ (mget R.at k).isSome = true := by obtain ⟨I, h⟩ := h; exact h.mem k
omit [Env] in
theorem _root_.Go.Hw.RInv.nodup (h : RInv R places K) : K.flatten.Nodup := by obtain ⟨I, h⟩ := h; exact h.nodup
omit [Env] in
theorem _root_.Go.Hw.RInv.which (h : RInv R places K) {k : Str} {i : Nat} (hi : mget R.at k = some i) : k ∈ K.getD (sl R.slots i).list [] ∧ (sl R.slots i).list < R.lists ∧ i < R.slots.length := by
  obtain ⟨I, h⟩ := h
  obtain ⟨A, B, hAB, hk, hl⟩ := h.find hi
  have hm := mem_of_find hAB
  refine ⟨?_, hl, (h.core.inr hm).2⟩
  rw [h.getD, ← hk]
  exact List.mem_map_of_mem hm
omit [Env] in
theorem _root_.Go.Hw.RInv.cutOk (h : RInv R places K) (hb : R.lists + places ≤ 5000) {k : Str} {i : Nat} (hi : mget R.at k = some i) : CutOk R i := by
  have h1 := h.which hi
  have h2 := h.manyD (sl R.slots i).list
  have h3 := h.manyLen
  have h4 := h.free_len
  have h5 := len_le_flatten K (sl R.slots i).list
  have h6 := h.slen
  obtain ⟨I, hI⟩ := h
  obtain ⟨A, B, hAB, hk, hl⟩ := hI.find hi
  obtain ⟨hn, hp⟩ := hI.core.links_lt hl (.inr (mem_of_find hAB))
  have h7 : 1 ≤ (K.getD (sl R.slots i).list []).length := List.length_pos_of_mem h1.1
  exact ⟨h1.2.2, hp, hn, by omega, by omega, by omega, by omega⟩
omit [Env] in
theorem _root_.Go.Hw.RInv.linkOk (h : RInv R places K) (hb : R.lists + places ≤ 5000) {k : Str} {i l : Nat} (hi : mget R.at k = some i) (hl : l < R.lists) : LinkOk (R.cut i) i l := by
  have h2 := h.manyD l
  have h3 := h.manyLen
  have h4 := h.free_len
  have h5 := len_le_flatten K l
  have h6 := h.slen
  obtain ⟨I, hI⟩ := h
  obtain ⟨I', hc, hk, hkey, hperm⟩ := hI.cut hi
  have hir := hc.range i (by simp)
  obtain ⟨hn, hp⟩ := hc.links_lt hl (.inl rfl)
  have e1 : (R.cut i).slots.length = R.slots.length := cutS_len _ _
  have e2 : (R.cut i).many.length = R.many.length := List.length_set ..
  refine ⟨hir.2, by omega, hn, by omega, by omega, by omega, ?_⟩
  show (R.many.set _ _).getD l 0 ≤ 100000
  by_cases hll : (sl R.slots i).list = l
  · subst hll; rw [getD_set_eq _ _ (by omega)]; omega
  · rw [getD_set_ne' _ _ hll]; omega
omit [Env] in
theorem _root_.Go.Hw.RInv.takenOk (h : RInv R places K) (hf : R.free ≠ []) : R.lists ≤ R.taken ∧ R.taken < R.slots.length := by
  obtain ⟨I, h⟩ := h
  have : R.taken ∈ R.free := by
    have hn : R.free.length ≠ 0 := fun e => hf (List.length_eq_zero_iff.1 e)
    unfold Ring.taken
    rw [List.getD_eq_getElem?_getD, List.getElem?_eq_getElem (by omega)]
    exact List.getElem_mem _
  exact h.core.range _ (by simp [this])
omit [Env] in
theorem _root_.Go.Hw.RInv.linkOk1 (h : RInv R places K) (hb : R.lists + places ≤ 5000) {k : Str} {l : Nat} (hf : R.free ≠ []) (hl : l < R.lists) : LinkOk (R.take1 k) R.taken l := by
  have h2 := h.manyD l
  have h3 := h.manyLen
  have h4 := h.free_len
  have h5 := len_le_flatten K l
  have h6 := h.slen
  have h7 := h.takenOk hf
  obtain ⟨I, hI⟩ := h
  obtain ⟨hn, hp⟩ := hI.core.links_lt hl (.inl rfl)
  have e1 : (R.take1 k).slots.length = R.slots.length := setK_len _ _ _
  have hne : (sl (R.take1 k).slots l).next = (sl R.slots l).next := by
    show (sl (setK R.slots R.taken k) l).next = _
    rw [sl_setK _ _ h7.2]; split <;> rfl
  have e3 : (R.take1 k).many = R.many := rfl
  exact ⟨by omega, by omega, by rw [hne]; omega, by rw [e3]; omega, by omega, by omega, by rw [e3]; omega⟩
end
section
variable {w : World} {L : List Asrt} {p places : Nat} {K : List (List Str)} {k : Str}
theorem ringA_New {lists : Nat} (hs : Sat w L) (h1 : 1 ≤ lists) (h8 : lists ≤ 8) (hp : places ≤ 4096) :
    Does Tryz.prog 111 [natv lists, natv places] w fun v w' => ∃ p, v = .tuple #[rp p, .int .i64 0] ∧ Sat w' (ringAt p places (List.replicate lists []) :: L) :=
  (ring_New hs h1 h8 hp).mono fun v w' ⟨p, hv, hs⟩ => ⟨p, hv, ringAt_shut (RInv.new lists places) (by show lists + places ≤ 5000; omega) hs⟩
theorem ringA_In_no (hs : Sat w (ringAt p places K :: L)) (h : k ∉ K.flatten) : Does Tryz.prog 156 [rp p, str k] w fun v w' => v = .tuple #[natv 0, .bool false] ∧ Sat w' (ringAt p places K :: L) := by
  obtain ⟨R, h1, h2, hs⟩ := ringAt_open hs
  have : mget R.at k = none := by
    cases hm : mget R.at k with
    | none => rfl
    | some i => exact absurd ((h1.mem k).2 (by rw [hm]; rfl)) h
  exact (ring_In_no hs this).mono fun v w' ⟨hv, hs⟩ => ⟨hv, ringAt_shut h1 h2 hs⟩
theorem ringA_In_yes {l : Nat} (hs : Sat w (ringAt p places K :: L)) (h : k ∈ K.getD l []) : Does Tryz.prog 156 [rp p, str k] w fun v w' => v = .tuple #[natv l, .bool true] ∧ Sat w' (ringAt p places K :: L) := by
  obtain ⟨R, h1, h2, hs⟩ := ringAt_open hs
  obtain ⟨i, hi⟩ := Option.isSome_iff_exists.1 ((h1.mem k).1 (mem_flatten_getD h))
  have hw := h1.which hi
  have hl := flatten_apart h1.nodup hw.1 h
  exact (ring_In_yes hs hi hw.2.2).mono fun v w' ⟨hv, hs⟩ => ⟨by rw [hv, hl], ringAt_shut h1 h2 hs⟩
theorem ringA_Len {l : Nat} (hs : Sat w (ringAt p places K :: L)) (h : l < K.length) : Does Tryz.prog 160 [rp p, natv l] w fun v w' => v = natv (K.getD l []).length ∧ Sat w' (ringAt p places K :: L) := by
  obtain ⟨R, h1, h2, hs⟩ := ringAt_open hs
  exact (ring_Len hs (by rw [← h1.klen]; exact h) h1.manyLen).mono fun v w' ⟨hv, hs⟩ => ⟨by rw [hv, h1.manyD], ringAt_shut h1 h2 hs⟩
theorem ringA_Free (hs : Sat w (ringAt p places K :: L)) : Does Tryz.prog 199 [rp p] w fun v w' => v = natv (places - K.flatten.length) ∧ Sat w' (ringAt p places K :: L) := by
  obtain ⟨R, h1, h2, hs⟩ := ringAt_open hs
  have := h1.free_len
  exact (ring_Free hs).mono fun v w' ⟨hv, hs⟩ => ⟨by rw [hv]; congr 1; omega, ringAt_shut h1 h2 hs⟩
theorem ringA_Lists (hs : Sat w (ringAt p places K :: L)) : Does Tryz.prog 200 [rp p] w fun v w' => v = natv K.length ∧ Sat w' (ringAt p places K :: L) := by
  obtain ⟨R, h1, h2, hs⟩ := ringAt_open hs
  exact (ring_Lists hs).mono fun v w' ⟨hv, hs⟩ => ⟨by rw [hv, h1.klen], ringAt_shut h1 h2 hs⟩
theorem ringA_Back_no {l : Nat} (hs : Sat w (ringAt p places K :: L)) (h : l < K.length) (h0 : K.getD l [] = []) : Does Tryz.prog 162 [rp p, natv l] w fun v w' => v = .tuple #[str [], .bool false] ∧ Sat w' (ringAt p places K :: L) := by
  obtain ⟨R, h1, h2, hs⟩ := ringAt_open hs
  exact (ring_Back_no hs (by rw [← h1.klen]; exact h) h1.manyLen (by rw [h1.manyD, h0]; rfl)).mono fun v w' ⟨hv, hs⟩ => ⟨hv, ringAt_shut h1 h2 hs⟩
theorem ringA_Back_yes {l : Nat} (hs : Sat w (ringAt p places K :: L)) (h : l < K.length) (h0 : (K.getD l []).getLast? = some k) : Does Tryz.prog 162 [rp p, natv l] w fun v w' => v = .tuple #[str k, .bool true] ∧ Sat w' (ringAt p places K :: L) := by
  obtain ⟨R, h1, h2, hs⟩ := ringAt_open hs
  have hl : l < R.lists := by rw [← h1.klen]; exact h
  have hb := h1.back hl h0
  have hne : R.many.getD l 0 ≠ 0 := by
    rw [h1.manyD]
    intro e
    rw [List.length_eq_zero_iff] at e
    rw [e] at h0; cases h0
  exact (ring_Back_yes hs hl h1.manyLen hne (by have := h1.slen; omega) hb.2).mono fun v w' ⟨hv, hs⟩ => ⟨by rw [hv, hb.1], ringAt_shut h1 h2 hs⟩
theorem ringA_Front {l : Nat} (hs : Sat w (ringAt p places K :: L)) (h : l < K.length) (hk : k.length ≤ 64) (hroom : k ∈ K.flatten ∨ K.flatten.length < places) :
    Does Tryz.prog 159 [rp p, natv l, str k] w fun v w' => v = .bool true ∧ Sat w' (ringAt p places (frontK K l k) :: L) := by
  obtain ⟨R, h1, h2, hs⟩ := ringAt_open hs
  have hl : l < R.lists := by rw [← h1.klen]; exact h
  have hfl := h1.free_len
  cases hi : mget R.at k with
  | some i =>
    have hf := h1.front hl (k := k) (.inl ((h1.mem k).2 (by rw [hi]; rfl)))
    have e : R.front l k = (R.cut i).link i l := by unfold Ring.front; rw [hi]
    rw [e] at hf
    exact (ring_Front_old hs hl hk hi (h1.cutOk h2 hi) (h1.linkOk h2 hi hl)).mono fun v w' ⟨hv, hs⟩ => ⟨hv, ringAt_shut hf h2 hs⟩
  | none =>
    have hnk : k ∉ K.flatten := by rw [h1.mem, hi]; simp
    have hne : R.free ≠ [] := by
      intro e; rw [e] at hfl; simp only [List.length_nil] at hfl
      rcases hroom with h3 | h3
      · exact hnk h3
      · omega
    have hf := h1.front hl (k := k) (.inr hne)
    have e : R.front l k = (R.take1 k).link R.taken l := by unfold Ring.front; rw [hi]; rfl
    rw [e] at hf
    exact (ring_Front_new hs hl hk hi hne (by omega) (h1.takenOk hne).2 (h1.linkOk1 h2 hne hl)).mono fun v w' ⟨hv, hs⟩ => ⟨hv, ringAt_shut hf h2 hs⟩
theorem ringA_Front_full {l : Nat} (hs : Sat w (ringAt p places K :: L)) (h : l < K.length) (hk : k.length ≤ 64) (hn : k ∉ K.flatten) (hf : K.flatten.length = places) :
    Does Tryz.prog 159 [rp p, natv l, str k] w fun v w' => v = .bool false ∧ Sat w' (ringAt p places K :: L) := by
  obtain ⟨R, h1, h2, hs⟩ := ringAt_open hs
  have hfl := h1.free_len
  have hi : mget R.at k = none := by
    cases hm : mget R.at k with
    | none => rfl
    | some i => exact absurd ((h1.mem k).2 (by rw [hm]; rfl)) hn
  exact (ring_Front_full hs (by rw [← h1.klen]; exact h) hk hi (List.length_eq_zero_iff.1 (by omega))).mono fun v w' ⟨hv, hs⟩ => ⟨hv, ringAt_shut h1 h2 hs⟩
theorem ringA_Drop (hs : Sat w (ringAt p places K :: L)) : Does Tryz.prog 119 [rp p, str k] w fun v w' => v = .bool (decide (k ∈ K.flatten)) ∧ Sat w' (ringAt p places (dropK K k) :: L) := by
  obtain ⟨R, h1, h2, hs⟩ := ringAt_open hs
  have hd := h1.drop k
  have hfl := h1.free_len
  cases hi : mget R.at k with
  | none =>
    have e : R.drop k = R := by unfold Ring.drop; rw [hi]
    rw [e] at hd
    have hnk : k ∉ K.flatten := by rw [h1.mem, hi]; simp
    exact (ring_Drop_no hs hi).mono fun v w' ⟨hv, hs⟩ => ⟨by rw [hv, decide_eq_false hnk], ringAt_shut hd h2 hs⟩
  | some i =>
    have e : R.drop k = Ring.dropped R k i := by unfold Ring.drop; rw [hi]; rfl
    rw [e] at hd
    have hnk : k ∈ K.flatten := by rw [h1.mem, hi]; rfl
    exact (ring_Drop_yes hs hi (h1.cutOk h2 hi) (by omega)).mono fun v w' ⟨hv, hs⟩ => ⟨by rw [hv, decide_eq_true hnk], ringAt_shut hd h2 hs⟩
end
end Go.Proofs.YteoplijfofohkaaGreat
