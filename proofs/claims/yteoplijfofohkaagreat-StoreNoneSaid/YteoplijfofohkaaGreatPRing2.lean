/- The lists of keys that slots stand for: what front, drop and back do to them; plain. -/
import Derived.Test.YteoplijfofohkaaGreatPRing
namespace Go.Hw
open Go Go.Sx

theorem mget_mput_same {ν : Type} : ∀ (m : List (Str × ν)) (k : Str) (v : ν), mget (mput m k v) k = some v
  | [], k, v => by simp [mput, mget]
  | (a, u) :: r, k, v => by
    unfold mput
    split
    · simp [mget]
    · rename_i h; simp [mget, h, mget_mput_same r k v]
theorem mget_mput_ne {ν : Type} : ∀ (m : List (Str × ν)) (k k' : Str) (v : ν), k ≠ k' → mget (mput m k v) k' = mget m k'
  | [], k, k', v, h => by simp [mput, mget, h]
  | (a, u) :: r, k, k', v, h => by
    unfold mput
    split
    · rename_i e; subst e; simp [mget, h]
    · simp only [mget]; rw [mget_mput_ne r k k' v h]
theorem mget_none_notin {ν : Type} : ∀ (m : List (Str × ν)) (k : Str), mget m k = none ↔ k ∉ m.map (·.1)
  | [], k => by simp [mget]
  | (a, u) :: r, k => by
    unfold mget
    split
    · rename_i e; subst e; simp
    · rename_i h; rw [mget_none_notin r k]; simp; intro _ e; exact h e.symm
theorem mput_keys {ν : Type} : ∀ (m : List (Str × ν)) (k : Str) (v : ν), (mput m k v).map (·.1) = if k ∈ m.map (·.1) then m.map (·.1) else m.map (·.1) ++ [k]
  | [], k, v => by simp [mput]
  | (a, u) :: r, k, v => by
    unfold mput
    split
    · rename_i e; subst e; simp
    · rename_i h
      have h' : ¬ k = a := fun e => h e.symm
      simp only [List.map_cons, mput_keys r k v, List.mem_cons, h', false_or]
      split <;> simp
theorem mput_nodup {ν : Type} {m : List (Str × ν)} {k : Str} {v : ν} (h : (m.map (·.1)).Nodup) : ((mput m k v).map (·.1)).Nodup := by
  rw [mput_keys]
  split
  · exact h
  · rename_i hk
    rw [List.nodup_append]
    exact ⟨h, by simp, fun a ha b hb => by simp at hb; subst hb; exact fun e => hk (e ▸ ha)⟩
theorem mdel_keys {ν : Type} : ∀ (m : List (Str × ν)) (k : Str), (m.map (·.1)).Nodup → (mdel m k).map (·.1) = (m.map (·.1)).filter (fun x => decide (x ≠ k))
  | [], k, _ => rfl
  | (a, u) :: r, k, h => by
    unfold mdel
    simp only [List.map_cons, List.nodup_cons] at h
    split
    · rename_i e; subst e
      simp only [List.map_cons, List.filter_cons, ne_eq, not_true_eq_false, decide_false, Bool.false_eq_true, if_false]
      rw [List.filter_eq_self.2]
      intro x hx; simp; rintro rfl; exact h.1 hx
    · rename_i e
      have he : decide (a ≠ k) = true := by simpa using e
      simp only [List.map_cons, List.filter_cons, he, if_true, mdel_keys r k h.2]
theorem mget_mdel_same {ν : Type} {m : List (Str × ν)} {k : Str} (h : (m.map (·.1)).Nodup) : mget (mdel m k) k = none := by
  rw [mget_none_notin, mdel_keys m k h]; simp
theorem mget_mdel_ne {ν : Type} : ∀ (m : List (Str × ν)) (k k' : Str), k ≠ k' → mget (mdel m k) k' = mget m k'
  | [], k, k', h => rfl
  | (a, u) :: r, k, k', h => by
    unfold mdel
    split
    · rename_i e; subst e; simp [mget, h]
    · simp only [mget]; rw [mget_mdel_ne r k k' h]
theorem mdel_nodup {ν : Type} {m : List (Str × ν)} {k : Str} (h : (m.map (·.1)).Nodup) : ((mdel m k).map (·.1)).Nodup := by
  rw [mdel_keys m k h]; exact (List.filter_sublist).nodup h

def dropK (K : List (List Str)) (k : Str) : List (List Str) := K.map fun X => X.filter fun x => decide (x ≠ k)
def frontK (K : List (List Str)) (l : Nat) (k : Str) : List (List Str) := (dropK K k).modify l (k :: ·)

def Ring.cut (R : Ring) (i : Nat) : Ring := { R with slots := cutS R.slots i, many := R.many.set (sl R.slots i).list (R.many.getD (sl R.slots i).list 0 - 1) }
def Ring.link (R : Ring) (i l : Nat) : Ring := { R with slots := linkS R.slots i l, many := R.many.set l (R.many.getD l 0 + 1) }
def Ring.front (R : Ring) (l : Nat) (k : Str) : Ring :=
  match mget R.at k with
  | some i => (R.cut i).link i l
  | none => let i := R.free.getD (R.free.length - 1) 0
    ({ R with slots := setK R.slots i k, «at» := mput R.at k i, free := R.free.take (R.free.length - 1) } : Ring).link i l
def Ring.drop (R : Ring) (k : Str) : Ring :=
  match mget R.at k with
  | some i => { R.cut i with slots := (cutS R.slots i).set i Slot.zero, «at» := mdel R.at k, free := R.free ++ [i] }
  | none => R

/-- the slot that is taken, and the lists as they are ahead of the link -/
def Ring.taken (R : Ring) : Nat := R.free.getD (R.free.length - 1) 0
def Ring.take1 (R : Ring) (k : Str) : Ring := { R with slots := setK R.slots R.taken k, «at» := mput R.at k R.taken, free := R.free.take (R.free.length - 1) }
theorem take1_free (R : Ring) (k : Str) : (R.take1 k).free.length = R.free.length - 1 := by simp [Ring.take1]
/-- What the slots stand for: so many places together, and the lists' keys from the front on. -/
structure RInvI (R : Ring) (places : Nat) (K : List (List Str)) (I : List (List Nat)) : Prop where
  core : Core R.lists places R.slots R.free R.many I []
  keys : K = I.map fun X => X.map fun i => (sl R.slots i).key
  «at» : ∀ k i, mget R.at k = some i ↔ i ∈ I.flatten ∧ (sl R.slots i).key = k
  nd : (R.at.map (·.1)).Nodup
def RInv (R : Ring) (places : Nat) (K : List (List Str)) : Prop := ∃ I, RInvI R places K I

section
variable {R : Ring} {places : Nat} {K : List (List Str)} {I : List (List Nat)}
theorem RInvI.uniq (h : RInvI R places K I) {i j : Nat} (hi : i ∈ I.flatten) (hj : j ∈ I.flatten) (he : (sl R.slots i).key = (sl R.slots j).key) : i = j := by
  have h1 := (h.at _ i).2 ⟨hi, rfl⟩
  have h2 := (h.at _ j).2 ⟨hj, rfl⟩
  rw [he, h2] at h1
  exact (Option.some.inj h1).symm
theorem RInvI.klen (h : RInvI R places K I) : K.length = R.lists := by rw [h.keys, List.length_map, h.core.ilen]
theorem RInvI.flat (h : RInvI R places K I) : K.flatten = I.flatten.map fun i => (sl R.slots i).key := by rw [h.keys, List.map_flatten]
theorem RInvI.mem (h : RInvI R places K I) (k : Str) : k ∈ K.flatten ↔ (mget R.at k).isSome = true := by
  rw [h.flat, List.mem_map, Option.isSome_iff_exists]
  exact ⟨fun ⟨i, hi, hk⟩ => ⟨i, (h.at k i).2 ⟨hi, hk⟩⟩, fun ⟨i, hi⟩ => ⟨i, (h.at k i).1 hi⟩⟩
theorem RInvI.getD (h : RInvI R places K I) (l : Nat) : K.getD l [] = (I.getD l []).map fun i => (sl R.slots i).key := by
  rw [h.keys, List.getD_eq_getElem?_getD, List.getElem?_map, List.getD_eq_getElem?_getD]
  cases I[l]? <;> rfl
theorem RInvI.manyD (h : RInvI R places K I) (l : Nat) : R.many.getD l 0 = (K.getD l []).length := by
  rw [h.getD, List.length_map, h.core.many, List.getD_eq_getElem?_getD, List.getElem?_map, List.getD_eq_getElem?_getD]
  cases I[l]? <;> rfl
theorem RInvI.nodup (h : RInvI R places K I) : K.flatten.Nodup := by
  rw [h.flat]
  have hn := (List.nodup_append.1 h.core.nodup).1
  refine (List.pairwise_map.2 ?_)
  refine (List.Pairwise.imp_of_mem ?_ hn)
  intro a b ha hb hne e
  exact hne (h.uniq ha hb e)

theorem cut_keys {S : List Slot} {i : Nat} (hp : (sl S i).prev < S.length) (hn : (sl S i).next < S.length) : (fun x => (sl (cutS S i) x).key) = fun x => (sl S x).key := funext fun x => (cutS_key hp hn).1
/-- the key's slot goes out of its list -/
theorem drop_map (h : RInvI R places K I) {l i : Nat} {A B : List Nat} (hI : I.getD l [] = A ++ i :: B) : (I.set l (A ++ B)).map (fun X => X.map fun j => (sl R.slots j).key) = dropK K (sl R.slots i).key := by
  have hi : i ∈ I.getD l [] := by rw [hI]; simp
  have hl : l < I.length := by rw [h.core.ilen]; exact h.core.lt hi
  have hnd := (List.nodup_append.1 h.core.nodup).1
  have key : ∀ X : List Nat, (∀ x ∈ X, x ∈ I.flatten) → (X.map fun j => (sl R.slots j).key).filter (fun x => decide (x ≠ (sl R.slots i).key)) = (X.filter fun j => decide (j ≠ i)).map fun j => (sl R.slots j).key := by
    intro X hX
    rw [List.filter_map]
    congr 1
    apply List.filter_congr
    intro x hx
    simp only [Function.comp]
    congr 1
    simp only [eq_iff_iff]
    exact not_congr ⟨fun e => h.uniq (hX x hx) (mem_flatten_getD hi) e, fun e => by rw [e]⟩
  unfold dropK
  rw [h.keys, List.map_map]
  apply List.ext_getElem?
  intro k
  rw [List.getElem?_map, List.getElem?_map, List.getElem?_set]
  by_cases hk : l = k
  · subst hk
    simp only [if_true, if_pos hl, Option.map_some]
    have hg : I[l]? = some (A ++ i :: B) := by
      rw [List.getD_eq_getElem?_getD, List.getElem?_eq_getElem hl] at hI
      rw [List.getElem?_eq_getElem hl]; simpa using hI
    rw [hg]
    simp only [Option.map_some, Function.comp]
    rw [key _ (fun x hx => mem_flatten_getD (l := l) (by rw [hI]; exact hx))]
    have hnl : (A ++ i :: B).Nodup := by
      have := (flatten_erase I l hl).nodup_iff.1 hnd
      rw [hI] at this
      exact (List.nodup_append.1 this).1
    congr 2
    rw [List.nodup_append] at hnl
    simp only [List.nodup_cons] at hnl
    rw [List.filter_append, List.filter_cons]
    simp only [ne_eq, not_true_eq_false, decide_false, Bool.false_eq_true, if_false]
    rw [List.filter_eq_self.2 (fun x hx => by simp; rintro rfl; exact hnl.2.2 x hx x (.head _) rfl), List.filter_eq_self.2 (fun x hx => by simp; rintro rfl; exact hnl.2.1.1 hx)]
  · simp only [hk, if_false]
    cases hX : I[k]? with
    | none => rfl
    | some X =>
      have hXk : I.getD k [] = X := by rw [List.getD_eq_getElem?_getD, hX]; rfl
      simp only [Option.map_some, Function.comp]
      rw [key _ (fun x hx => mem_flatten_getD (l := k) (by rw [hXk]; exact hx))]
      congr 2
      refine (List.filter_eq_self.2 (fun x hx => ?_)).symm
      simp
      rintro rfl
      exact hk (flatten_apart hnd hi (by rw [hXk]; exact hx))

theorem RInvI.find (h : RInvI R places K I) {k : Str} {i : Nat} (hi : mget R.at k = some i) : ∃ A B, I.getD (sl R.slots i).list [] = A ++ i :: B ∧ (sl R.slots i).key = k ∧ (sl R.slots i).list < R.lists := by
  obtain ⟨h1, h2⟩ := (h.at k i).1 hi
  obtain ⟨l, hl, hil⟩ := flatten_getD h1
  obtain ⟨A, B, hAB⟩ := List.append_of_mem hil
  have := h.core.lst l i hil
  exact ⟨A, B, by rw [this]; exact hAB, h2, by rw [this]; exact h.core.lt hil⟩
theorem mem_of_find {α : Type} {I : List (List α)} {l : Nat} {A B : List α} {i : α} (h : I.getD l [] = A ++ i :: B) : i ∈ I.getD l [] := by rw [h]; simp

theorem RInvI.cut (h : RInvI R places K I) {k : Str} {i : Nat} (hi : mget R.at k = some i) :
    ∃ I', Core R.lists places (R.cut i).slots R.free (R.cut i).many I' [i] ∧ (I'.map fun X => X.map fun j => (sl (R.cut i).slots j).key) = dropK K k ∧ (∀ x, (sl (R.cut i).slots x).key = (sl R.slots x).key) ∧ I.flatten.Perm (i :: I'.flatten) := by
  obtain ⟨A, B, hAB, hk, hl⟩ := h.find hi
  have hm := mem_of_find hAB
  obtain ⟨hn, hp⟩ := h.core.links_lt hl (.inr hm)
  have hc := h.core.cut hAB
  refine ⟨_, hc, ?_, fun x => (cutS_key hp hn).1, ?_⟩
  · show (List.map (fun X => List.map (fun j => (sl (cutS R.slots i) j).key) X) _) = _
    rw [cut_keys hp hn, drop_map h hAB, hk]
  · have hlI : (sl R.slots i).list < I.length := by rw [h.core.ilen]; exact hl
    have p1 := flatten_erase I _ hlI
    have p2 := flatten_set I _ (A ++ B) hlI
    rw [hAB] at p1
    refine p1.trans (List.Perm.trans ?_ (p2.cons i).symm)
    exact (List.perm_middle (a := i) (l₁ := A) (l₂ := B)).append_right _

theorem link_keys {lists : Nat} {S : List Slot} {free many : List Nat} {i : Nat} {H : List Nat} (hc : Core lists places S free many I (i :: H)) {l : Nat} (hl : l < lists) (x : Nat) : (sl (linkS S i l) x).key = (sl S x).key := by
  have hls := hc.slen
  have hnd := List.nodup_append.1 hc.nodup
  have hir := hc.range i (by simp)
  obtain ⟨hn, hp⟩ := hc.links_lt hl (.inl rfl)
  have hin : (sl S l).next ≠ i := by
    rcases (hc.links hl (.inl rfl)).1 with h1 | h1
    · omega
    · exact fun e => hnd.2.2 i (mem_flatten_getD (e ▸ h1)) i (by simp) rfl
  rw [linkS_sl hir.2 (by omega) hn (by omega) hin]
  split
  · rename_i e; rw [e]
  · rfl
theorem set_map {α β : Type} {f : α → β} {I : List α} {K : List β} {l : Nat} {Y : α} (hK : I.map f = K) {y : β} (hy : f Y = y) : (I.set l Y).map f = K.set l y := by rw [List.map_set, hK, hy]
theorem modify_set {α : Type} {K : List (List α)} {l : Nat} (k : α) : K.modify l (k :: ·) = K.set l (k :: K.getD l []) := by
  apply List.ext_getElem?
  intro j
  rw [List.getElem?_modify, List.getElem?_set]
  by_cases h : l = j
  · subst h
    simp only [if_true]
    split
    · rename_i hl; simp [hl]
    · rename_i hl; simp [List.getElem?_eq_none (Nat.le_of_not_lt hl)]
  · simp [h]

/-- A key to the front. -/
theorem RInv.front (h : RInv R places K) {l : Nat} {k : Str} (hl : l < R.lists) (hroom : k ∈ K.flatten ∨ R.free ≠ []) : RInv (R.front l k) places (frontK K l k) := by
  obtain ⟨I, h⟩ := h
  unfold Ring.front
  cases hi : mget R.at k with
  | some i =>
    simp only []
    obtain ⟨I', hc, hk, hkey, hperm⟩ := h.cut hi
    have hlnk := hc.link hl
    have hlk : ∀ x, (sl (linkS (R.cut i).slots i l) x).key = (sl (R.cut i).slots x).key := link_keys hc hl
    refine ⟨_, hlnk, ?_, fun k' j => ?_, h.nd⟩
    · show frontK K l k = List.map (fun X => List.map (fun j => (sl (linkS (R.cut i).slots i l) j).key) X) _
      simp only [hlk]
      unfold frontK
      rw [modify_set, ← hk, List.map_set]
      congr 1
      rw [List.map_cons]
      congr 1
      · rw [hkey]; exact ((h.at k i).1 hi).2.symm
      · rw [List.getD_eq_getElem?_getD, List.getElem?_map, List.getD_eq_getElem?_getD]; cases I'[l]? <;> rfl
    · show mget R.at k' = some j ↔ _ ∧ (sl (linkS (R.cut i).slots i l) j).key = k'
      rw [hlk, hkey, h.at]
      have hmem : j ∈ (I'.set l (i :: I'.getD l [])).flatten ↔ j ∈ I.flatten := by
        have hlI : l < I'.length := by rw [hc.ilen]; exact hl
        rw [(flatten_set I' l _ hlI).mem_iff, hperm.mem_iff, List.cons_append, List.mem_cons, List.mem_cons, ← (flatten_erase I' l hlI).mem_iff]
      rw [hmem]
  | none =>
    simp only []
    have hnk : k ∉ K.flatten := by rw [h.mem, hi]; simp
    have hfree : R.free ≠ [] := hroom.resolve_left hnk
    obtain ⟨F, i, hF⟩ : ∃ F i, R.free = F ++ [i] := ⟨_, _, (List.dropLast_concat_getLast hfree).symm⟩
    have e1 : R.free.getD (R.free.length - 1) 0 = i := by rw [hF]; simp
    have e2 : R.free.take (R.free.length - 1) = F := by rw [hF]; simp
    rw [e1, e2]
    have hc0 := h.core
    rw [hF] at hc0
    have hir := hc0.range i (by simp)
    have hnd0 := List.nodup_append.1 hc0.nodup
    have hiI : i ∉ I.flatten := fun e => hnd0.2.2 i e i (by simp) rfl
    have hsk := fun x => sl_setK k x hir.2
    have hperm : (I.flatten ++ ([] ++ (F ++ [i]))).Perm (I.flatten ++ ([i] ++ F)) := List.Perm.append_left _ (List.perm_append_comm (l₁ := F) (l₂ := [i]))
    have hnx : ∀ x, (sl (setK R.slots i k) x).next = (sl R.slots x).next ∧ (sl (setK R.slots i k) x).prev = (sl R.slots x).prev ∧ (sl (setK R.slots i k) x).list = (sl R.slots x).list := fun x => by rw [hsk]; split <;> exact ⟨rfl, rfl, rfl⟩
    have hc : Core R.lists places (setK R.slots i k) F R.many I [i] := by
      refine ⟨hc0.ilen, hc0.many, by rw [setK_len]; exact hc0.slen, fun m hm => (hc0.seg m hm).frame (fun x _ => (hnx x).1) (fun x _ => (hnx x).2.1), fun m j hj => by rw [(hnx j).2.2]; exact hc0.lst m j hj, hperm.nodup_iff.1 hc0.nodup, fun j hj => by rw [setK_len]; exact hc0.range j (hperm.mem_iff.2 hj), ?_⟩
      have := hc0.cnt
      simp at this ⊢; omega
    have hlnk := hc.link hl
    have hlk : ∀ x, (sl (linkS (setK R.slots i k) i l) x).key = (sl (setK R.slots i k) x).key := link_keys hc hl
    have hkx : ∀ x, x ≠ i → (sl (setK R.slots i k) x).key = (sl R.slots x).key := fun x hx => by rw [hsk, if_neg (fun e => hx e.symm)]
    have hki : (sl (setK R.slots i k) i).key = k := by rw [hsk, if_pos rfl]
    have hlI : l < I.length := by rw [hc0.ilen]; exact hl
    refine ⟨_, hlnk, ?_, fun k' j => ?_, mput_nodup h.nd⟩
    · show frontK K l k = List.map (fun X => List.map (fun j => (sl (linkS (setK R.slots i k) i l) j).key) X) _
      simp only [hlk]
      have hdrop : dropK K k = K := by
        unfold dropK
        conv => rhs; rw [← List.map_id K]
        apply List.map_congr_left
        intro X hX
        refine List.filter_eq_self.2 fun x hx => ?_
        simp
        rintro rfl
        exact hnk (List.mem_flatten.2 ⟨X, hX, hx⟩)
      have hK : K = I.map fun X => X.map fun j => (sl (setK R.slots i k) j).key := by
        rw [h.keys]
        apply List.map_congr_left
        intro X hX
        apply List.map_congr_left
        intro x hx
        exact (hkx x (fun e => hiI (e ▸ List.mem_flatten.2 ⟨X, hX, hx⟩))).symm
      unfold frontK
      rw [hdrop, modify_set, List.map_set, ← hK]
      congr 1
      rw [List.map_cons, hki]
      congr 1
      rw [hK, List.getD_eq_getElem?_getD, List.getElem?_map, List.getD_eq_getElem?_getD]; cases I[l]? <;> rfl
    · show mget (mput R.at k i) k' = some j ↔ _ ∧ (sl (linkS (setK R.slots i k) i l) j).key = k'
      rw [hlk]
      have hmem : j ∈ (I.set l (i :: I.getD l [])).flatten ↔ j = i ∨ j ∈ I.flatten := by
        rw [(flatten_set I l _ hlI).mem_iff, List.cons_append, List.mem_cons, ← (flatten_erase I l hlI).mem_iff]
      rw [hmem]
      by_cases hkk : k = k'
      · subst hkk
        rw [mget_mput_same]
        constructor
        · intro e; cases e; exact ⟨.inl rfl, hki⟩
        · rintro ⟨rfl | hj, hjk⟩
          · rfl
          · exfalso
            rw [hkx j (fun e => hiI (e ▸ hj))] at hjk
            have := (h.at k j).2 ⟨hj, hjk⟩
            rw [hi] at this; cases this
      · rw [mget_mput_ne _ _ _ _ hkk, h.at]
        constructor
        · rintro ⟨hj, hjk⟩
          exact ⟨.inr hj, by rw [hkx j (fun e => hiI (e ▸ hj))]; exact hjk⟩
        · rintro ⟨rfl | hj, hjk⟩
          · exact absurd (hki.symm.trans hjk) hkk
          · exact ⟨hj, by rw [hkx j (fun e => hiI (e ▸ hj))] at hjk; exact hjk⟩

/-- A key out. -/
theorem RInv.drop (h : RInv R places K) (k : Str) : RInv (R.drop k) places (dropK K k) := by
  obtain ⟨I, h⟩ := h
  unfold Ring.drop
  cases hi : mget R.at k with
  | none =>
    simp only []
    have hnk : k ∉ K.flatten := by rw [h.mem, hi]; simp
    have hdrop : dropK K k = K := by
      unfold dropK
      conv => rhs; rw [← List.map_id K]
      apply List.map_congr_left
      intro X hX
      refine List.filter_eq_self.2 fun x hx => ?_
      simp
      rintro rfl
      exact hnk (List.mem_flatten.2 ⟨X, hX, hx⟩)
    rw [hdrop]; exact ⟨I, h⟩
  | some i =>
    simp only []
    obtain ⟨I', hc, hk, hkey, hperm⟩ := h.cut hi
    have hir := hc.range i (by simp)
    have hnd0 := List.nodup_append.1 hc.nodup
    have hiI : i ∉ I'.flatten := fun e => hnd0.2.2 i e i (by simp) rfl
    have hls := hc.slen
    have hsx : ∀ x, x ≠ i → sl ((cutS R.slots i).set i Slot.zero) x = sl (cutS R.slots i) x := fun x hx => by
      unfold sl
      rw [List.getD_eq_getElem?_getD, List.getElem?_set_ne (Ne.symm hx), ← List.getD_eq_getElem?_getD]
    have hperm2 : (I'.flatten ++ ([i] ++ R.free)).Perm (I'.flatten ++ ([] ++ (R.free ++ [i]))) := List.Perm.append_left _ (by simpa using List.perm_append_comm (l₁ := [i]) (l₂ := R.free))
    refine ⟨I', ⟨hc.ilen, hc.many, by rw [List.length_set]; exact hls, fun m hm => ?_, fun m j hj => ?_, hperm2.nodup_iff.1 hc.nodup, fun j hj => by rw [List.length_set]; exact hc.range j (hperm2.mem_iff.2 hj), ?_⟩, ?_, fun k' j => ?_, mdel_nodup h.nd⟩
    · have hm1 : ∀ x, x = m ∨ x ∈ I'.getD m [] → x ≠ i := by
        rintro x (rfl | hx) rfl
        · have := hir.1; have hm' : x < R.lists := hm; omega
        · exact hiI (mem_flatten_getD hx)
      refine (hc.seg m hm).frame (fun x hx => by rw [hsx x (hm1 x hx)]; rfl) (fun x hx => by rw [hsx x (hm1 x hx.symm)]; rfl)
    · rw [hsx j (fun e => hiI (e ▸ mem_flatten_getD hj))]; exact hc.lst m j hj
    · have := hc.cnt
      simp at this ⊢; omega
    · rw [← hk]
      apply List.map_congr_left
      intro X hX
      apply List.map_congr_left
      intro x hx
      have : x ≠ i := fun e => hiI (e ▸ List.mem_flatten.2 ⟨X, hX, hx⟩)
      show _ = (sl ((cutS R.slots i).set i Slot.zero) x).key
      rw [hsx x this]; rfl
    · show mget (mdel R.at k) k' = some j ↔ j ∈ I'.flatten ∧ (sl ((cutS R.slots i).set i Slot.zero) j).key = k'
      have hik := ((h.at k i).1 hi).2
      by_cases hkk : k = k'
      · subst hkk
        rw [mget_mdel_same h.nd]
        constructor
        · intro e; cases e
        · rintro ⟨hj, hjk⟩
          have hji : j ≠ i := fun e => hiI (e ▸ hj)
          rw [hsx j hji, show (sl (cutS R.slots i) j).key = _ from hkey j] at hjk
          exact absurd (h.uniq (hperm.mem_iff.2 (.tail _ hj)) (hperm.mem_iff.2 (.head _)) (hjk.trans hik.symm)) hji
      · rw [mget_mdel_ne _ _ _ hkk, h.at]
        constructor
        · rintro ⟨hj, hjk⟩
          have hji : j ≠ i := by rintro rfl; exact hkk (hik.symm.trans hjk)
          refine ⟨?_, by rw [hsx j hji, show (sl (cutS R.slots i) j).key = _ from hkey j]; exact hjk⟩
          rcases List.mem_cons.1 (hperm.mem_iff.1 hj) with e | hj
          · exact absurd e hji
          · exact hj
        · rintro ⟨hj, hjk⟩
          have hji : j ≠ i := fun e => hiI (e ▸ hj)
          rw [hsx j hji, show (sl (cutS R.slots i) j).key = _ from hkey j] at hjk
          exact ⟨hperm.mem_iff.2 (.tail _ hj), hjk⟩

/-- The last key of a list. -/
theorem RInv.back (h : RInv R places K) {l : Nat} (hl : l < R.lists) {k : Str} (hk : (K.getD l []).getLast? = some k) : (sl R.slots (sl R.slots l).prev).key = k ∧ (sl R.slots l).prev < R.slots.length := by
  obtain ⟨I, h⟩ := h
  have hs := h.core.seg l hl
  rw [h.getD, List.getLast?_map] at hk
  cases hX : (I.getD l []).getLast? with
  | none => rw [hX] at hk; cases hk
  | some i =>
    rw [hX] at hk
    obtain ⟨A, hA⟩ := List.getLast?_eq_some_iff.1 hX
    rw [hA] at hs
    have h1 := (Seg.append.1 hs).2
    have h2 : (sl R.slots l).prev = i := h1.2
    have hi : i ∈ I.getD l [] := by rw [hA]; simp
    rw [h2]
    exact ⟨by simpa using hk, (h.core.inr hi).2⟩
theorem RInv.free_len (h : RInv R places K) : R.free.length + K.flatten.length = places := by
  obtain ⟨I, h⟩ := h
  have := h.core.cnt
  rw [h.flat, List.length_map]
  simp only [List.length_nil] at this; omega
end

/-- the slots as New lays them: i lists' own ends are laid -/
def initS (n i : Nat) : List Slot := (List.range i).map (fun j => ⟨[], j, j, j⟩) ++ List.replicate (n - i) Slot.zero
def freeInit (lists places k : Nat) : List Nat := (List.range k).map fun j => lists + places - 1 - j
theorem initS_len {n i : Nat} (h : i ≤ n) : (initS n i).length = n := by simp [initS]; omega
theorem initS_set {n i : Nat} (h : i < n) : (initS n i).set i ⟨[], i, i, i⟩ = initS n (i + 1) := by
  unfold initS
  rw [List.set_append_right _ _ (by simp), List.length_map, List.length_range, Nat.sub_self, List.range_succ, List.map_append, List.append_assoc]
  congr 1
  rw [show n - i = (n - (i + 1)) + 1 by omega, List.replicate_succ]; rfl
theorem initS_sl {n i j : Nat} (h : j < i) : sl (initS n i) j = ⟨[], j, j, j⟩ := by
  unfold sl initS
  rw [List.getD_eq_getElem?_getD, List.getElem?_append_left (by simpa using h)]
  simp [h]
def Ring.new (lists places : Nat) : Ring := ⟨lists, initS (lists + places) lists, freeInit lists places places, [], List.replicate lists 0⟩
theorem RInv.new (lists places : Nat) : RInv (Ring.new lists places) places (List.replicate lists []) := by
  have hI : ∀ l, (List.replicate lists ([] : List Nat)).getD l [] = [] := fun l => by
    rw [List.getD_eq_getElem?_getD, List.getElem?_replicate]; split <;> rfl
  have hf : (List.replicate lists ([] : List Nat)).flatten = [] := by
    apply List.eq_nil_iff_forall_not_mem.2
    intro x hx
    obtain ⟨X, hX, hx⟩ := List.mem_flatten.1 hx
    rw [List.eq_of_mem_replicate hX] at hx; cases hx
  refine ⟨List.replicate lists [], ⟨by simp [Ring.new], by simp [Ring.new], by simp [Ring.new, initS], fun l hl => ?_, fun l i hi => ?_, ?_, fun i hi => ?_, ?_⟩, by simp, fun k i => ?_, by simp [Ring.new]⟩
  · rw [hI]
    have : sl (Ring.new lists places).slots l = ⟨[], l, l, l⟩ := initS_sl hl
    exact ⟨by rw [this], by rw [this]⟩
  · rw [hI] at hi; cases hi
  · rw [hf]
    show ([] ++ ([] ++ freeInit lists places places)).Nodup
    simp only [List.nil_append, freeInit]
    refine List.pairwise_map.2 (List.Pairwise.imp_of_mem ?_ List.nodup_range)
    intro a b ha hb hne e
    simp at ha hb
    omega
  · rw [hf] at hi
    have hi : i ∈ freeInit lists places places := by simpa [Ring.new] using hi
    obtain ⟨j, hj, rfl⟩ := List.mem_map.1 hi
    simp at hj
    show lists ≤ _ ∧ _ < (initS (lists + places) lists).length
    rw [initS_len (by omega)]; omega
  · rw [hf]; simp [Ring.new, freeInit]
  · rw [hf]; simp [Ring.new, mget]
end Go.Hw
