/- Worlds that grew; a map as the kit's contracts want it; the keys of a table, in order. -/
import Derived.Test.YteoplijfofohkaaGreatKeys
import Derived.Test.YteoplijfofohkaaGreatShelf
import Derived.Sort.OwnSorted
import Derived.StringKeys
import Derived.Test.YteoplijfofohkaaGreatOp3
import Derived.Test.YteoplijfofohkaaGreatPRing2
namespace Go.Sx
open Go Go.RowKit
variable [Env]
omit [Env] in
theorem Sub.lt {h : HS} {w : World} (hs : Sub h w) {b : Nat} {o : Obj} (hb : h b = some o) : b < w.heap.size := (Array.getElem?_eq_some_iff.1 (hs b o hb)).1
theorem Same.below {w w' : World} {B : Nat} (h : Same w) (hB : Below B w w') : Same w' := ⟨hB.os.trans h.1, hB.output.trans h.2⟩
theorem Sat.below {w w' : World} {L : List Asrt} (h : Sat w L) (hB : Below w.heap.size w w') : Sat w' L := by
  refine ⟨h.1.below hB, ?_⟩
  obtain ⟨_, l, hl, hS⟩ := h
  exact ⟨l, hl, hS.same fun p hp b o hb => hB.block b ((hS.1 p hp).2.lt hb)⟩
theorem Sat.belowNew {w w' : World} {L : List Asrt} {g : Nat} {o : Obj} (h : Sat w L) (hB : Below w.heap.size w w') (hg : w.heap.size ≤ g) (ho : w'.heap[g]? = some o) : Sat w' (pt g o :: L) := by
  refine ⟨h.1.below hB, ?_⟩
  obtain ⟨_, l, rfl, hS⟩ := h
  have hS' := hS.same (w' := w') fun p hp b o hb => hB.block b ((hS.1 p hp).2.lt hb)
  refine ⟨(pt g o, fun c => if c = g then some o else none) :: l, rfl, ?_, ?_⟩
  · intro p hp
    rcases List.mem_cons.1 hp with rfl | hp
    · refine ⟨rfl, fun b o' hb => ?_⟩
      simp only at hb
      split at hb
      · rename_i e; subst e; cases hb; exact ho
      · cases hb
    · exact hS'.1 p hp
  · simp only [List.map_cons, List.pairwise_cons]
    refine ⟨fun h' hh b => ?_, hS.2⟩
    obtain ⟨p, hp, rfl⟩ := List.mem_map.1 hh
    by_cases e : b = g
    · right
      cases hb : p.2 b with
      | none => rfl
      | some o' => have := (hS.1 p hp).2.lt hb; omega
    · left; simp [e]
/-- one block is written anew, others are as they were -/
theorem Sat.turned {w w' : World} {L : List Asrt} {g : Nat} {o o' : Obj} (h : Sat w (pt g o :: L)) (hk : ∀ k, k < w.heap.size → k ≠ g → w'.heap[k]? = w.heap[k]?) (ho : w'.heap[g]? = some o') (hm : Same w') : Sat w' (pt g o' :: L) := by
  refine ⟨hm, ?_⟩
  obtain ⟨_, l, hl, hS⟩ := h
  cases l with
  | nil => cases hl
  | cons p l =>
    simp only [List.map_cons, List.cons.injEq] at hl
    obtain ⟨h1, rfl⟩ := hl
    have hp := hS.1 p (.head _)
    have hpe : p.2 = fun c => if c = g then some o else none := by have := hp.1; rw [h1] at this; exact this
    have hd := hS.2
    simp only [List.map_cons, List.pairwise_cons] at hd
    have hng : ∀ q ∈ l, q.2 g = none := fun q hq => by
      have := hd.1 q.2 (List.mem_map_of_mem hq) g
      rw [hpe] at this
      simpa using this
    refine ⟨(pt g o', fun c => if c = g then some o' else none) :: l, rfl, ?_, ?_⟩
    · intro q hq
      rcases List.mem_cons.1 hq with rfl | hq'
      · refine ⟨rfl, fun b o'' hb => ?_⟩
        simp only at hb
        split at hb
        · rename_i e; subst e; cases hb; exact ho
        · cases hb
      · have h2 := hS.1 q (.tail _ hq')
        refine ⟨h2.1, fun b o'' hb => ?_⟩
        have hbg : b ≠ g := fun e => by subst e; rw [hng q hq'] at hb; cases hb
        rw [hk b (h2.2.lt hb) hbg]; exact h2.2 b o'' hb
    · simp only [List.map_cons, List.pairwise_cons]
      refine ⟨fun h' hh b => ?_, hd.2⟩
      obtain ⟨q, hq, rfl⟩ := List.mem_map.1 hh
      by_cases e : b = g
      · right; rw [e]; exact hng q hq
      · left; simp [e]
omit [Env] in
theorem alloc_wnew (w : World) (o : Obj) : w.alloc o = wnew w o := rfl
/-- a slice that a contract of the kit hands back -/
theorem Sat.ownsRow {w w' : World} {L : List Asrt} {E n : Nat} {v : Value} {xs : List Value} (h : Sat w L) (hB : Below w.heap.size w w') (hr : w'.ownsRow w.heap.size E 1 v n xs) : Sat w' (sliceAt E 1 v n xs :: L) := by
  obtain ⟨hl, ⟨rfl, rfl⟩ | ⟨g, cap, cur, rfl, hg, ho, h1, h2, h3, h4⟩⟩ := hr
  · have : xs = [] := List.length_eq_zero_iff.1 (by simpa using hl)
    subst this
    exact (h.below hB).emp.implAt 0 rfl (sliceAt_nil E 1)
  · have hs := h.belowNew hB hg ho
    refine hs.implAt 0 rfl ?_
    have e : cur = ([] ++ xs ++ cur.toList.drop (n * 1)).toArray := by
      apply Array.ext'
      simp only [List.nil_append]
      conv => lhs; rw [← List.take_append_drop (n * 1) cur.toList]
      rw [h4]
    intro q hq
    rw [e] at hq
    refine sliceAt_intro (pre := []) (cs := xs) (spare := cur.toList.drop (n * 1)) hl ?_ q hq
    have h5 : cur.toList.length = cap * 1 := by simpa using h3
    rw [List.length_drop, h5]; omega
end Go.Sx
namespace Go.Proofs.YteoplijfofohkaaGreat
open Go Go.Sx Go.Hw Go.Maps Go.Sort Go.RowKit
variable [Env]
section
variable {w : World} {L : List Asrt} {ν : Type} {en : ν → Value} {b : Nat} {m : List (Str × ν)}
open Go.WideElems (Fit rd rg)
def noR : Value → Option (DataW Unit × List MemPlace) := fun _ => some (.nil, [])
omit [Env] in
theorem insert_perm {H : Type} (x : Lit × DataW H) : ∀ l, (DataW.insert x l).Perm (x :: l)
  | [] => .refl _
  | y :: r => by
    unfold DataW.insert
    split
    · exact .refl _
    · exact ((insert_perm x r).cons y).trans (.swap _ _ _)
omit [Env] in
theorem foldr_perm {H : Type} : ∀ l : List (Lit × DataW H), (l.foldr DataW.insert []).Perm l
  | [] => .refl _
  | x :: l => (insert_perm x _).trans ((foldr_perm l).cons x)
theorem own_of (hs : Sat w (mapAt str en b m :: L)) (hn : (m.map (·.1)).Nodup) (hl : m.length ≤ 5000) (hk : ∀ k ∈ m.map (·.1), k.length ≤ 5000) :
    ∃ nn D0, w.ownsMap Tryz.prog 9 noR b nn D0 ∧ (strKeys D0).Perm (m.map (·.1)) ∧ Maps.size D0 = m.length := by
  obtain ⟨es, c, h1, h2, h3, h4⟩ := hs.map 0 rfl
  have hkey : es.toList.map (·.key) = m.map (fun p => str p.1) := by
    have := congrArg (List.map Prod.fst) h2
    simpa [Function.comp_def] using this
  have hlen : es.size = m.length := by have := congrArg List.length h2; simpa using this
  have hmax : (5000 : Nat) ≤ maxLen := by decide
  have hread : ∀ x ∈ es.toList, ∃ k, k ∈ m.map (·.1) ∧ x.key = str k ∧ rd Tryz.prog 9 noR x = some (.string k, .nil) := fun x hx => by
    have : x.key ∈ m.map (fun p => str p.1) := by rw [← hkey]; exact List.mem_map_of_mem hx
    obtain ⟨p, hp, he⟩ := List.mem_map.1 this
    refine ⟨p.1, List.mem_map_of_mem hp, he.symm, ?_⟩
    have hb := hk p.1 (List.mem_map_of_mem hp)
    unfold Go.WideElems.rd
    rw [← he]
    unfold str
    rw [Go.WideMaps.keyOf_string_mk Tryz.underlying9 (by rw [str_size]; omega)]
    simp [noR]
  have hF : Fit Tryz.prog 9 noR es c := by
    refine ⟨by omega, ⟨h4, h3, ?_⟩, fun x hx => ?_⟩
    · rw [hkey]
      have : (m.map fun p => str p.1) = (m.map (·.1)).map str := by simp
      rw [this]
      refine hn.map _ (fun x y hxy he => hxy ?_)
      simpa [str] using he
    · obtain ⟨k, _, _, h⟩ := hread x hx; exact ⟨_, h⟩
  refine ⟨es.size, _, ⟨es, c, h1, hF, Nat.le_refl _, rfl⟩, ?_, ?_⟩
  · show ((((es.toList.map (rg Tryz.prog 9 noR)).foldr DataW.insert [])).map fun p => strOf p.1).Perm _
    refine ((foldr_perm _).map _).trans ?_
    rw [List.map_map]
    have e : es.toList.map ((fun p => strOf p.1) ∘ rg Tryz.prog 9 noR) = m.map (·.1) := by
      have hstr : ∀ x ∈ es.toList, str (((fun p => strOf p.1) ∘ rg Tryz.prog 9 noR) x) = x.key := fun x hx => by
        obtain ⟨k, _, h5, h6⟩ := hread x hx
        simp only [Function.comp_apply, rg, h6, Option.getD_some, strOf, h5]
      have h7 : (es.toList.map ((fun p => strOf p.1) ∘ rg Tryz.prog 9 noR)).map str = (m.map (·.1)).map str := by
        rw [List.map_map, List.map_map]
        refine (List.map_congr_left fun x hx => hstr x hx).trans ?_
        rw [hkey]; rfl
      exact List.map_inj_right (f := str) (fun x y h => by simpa [str] using h) |>.1 h7
    rw [e]
  · show ((es.toList.map (rg Tryz.prog 9 noR)).foldr DataW.insert []).length = _
    rw [(foldr_perm _).length_eq, List.length_map, Array.length_toList, hlen]
/-- maps.Keys -/
theorem maps_Keys (hs : Sat w L) : Does Tryz.prog 95 [.map (some b)] w fun v w' => ∃ q, v = .func (.func 147) #[] #[.pointer (some ⟨q, 0, none⟩)] ∧ Sat w' (pt q (.cells #[.map (some b)] 140 (0, 0)) :: L) := by
  refine Calls.mono (callsIn_wide.1 (Ky.keys_in Fence.wide 5 trivial rfl (some b) w)) ?_
  rintro e w' ⟨rfl, rfl⟩
  exact ⟨w.heap.size, rfl, hs.alloc _⟩
/-- slices.Collect of what maps.Keys gave -/
theorem slices_Collect {q : Nat} (hs : Sat w (pt q (.cells #[.map (some b)] 140 (0, 0)) :: mapAt str en b m :: L)) (hn : (m.map (·.1)).Nodup) (hl : m.length ≤ 5000) (hk : ∀ k ∈ m.map (·.1), k.length ≤ 5000) :
    Does Tryz.prog 145 [.func (.func 147) #[] #[.pointer (some ⟨q, 0, none⟩)]] w fun v w' => ∃ ks : List Str, ks.Perm (m.map (·.1)) ∧ Sat w' (sliceAt 9 1 v ks.length (ks.map str) :: pt q (.cells #[.map (some b)] 140 (0, 0)) :: mapAt str en b m :: L) := by
  obtain ⟨nn, D0, hown, hp, hsz⟩ := own_of hs.tail hn hl hk
  have hb := hs.get 0 rfl
  have hq : q < w.heap.size := (Array.getElem?_eq_some_iff.1 hb).1
  have hmax : (5000 : Nat) ≤ maxLen := by decide
  have hseq := Ky.keys_gives (R := noR) Fence.wide 3 trivial rfl (by omega) q b nn D0 w hq (by simp [World.cell?, hb]) hown
  refine Calls.mono (callsIn_wide.1 (Ky.collect_in Fence.wide 5 trivial trivial rfl (by omega) 147 _ trivial (enters_of Tryz.func147 (by kernel_rfl) rfl) _ _ (by omega) (by omega) w hseq)) ?_
  rintro e w' ⟨v, ss, rfl, hS, hrow, _, hB⟩
  exact ⟨ss, hS.trans hp, hs.ownsRow hB hrow⟩
omit [Env] in
theorem putCells_mid {pre spare : List Value} {ks ts : List Str} (hl : ts.length = ks.length) : putCells encStr pre.length ts.toArray (pre ++ ks.map str ++ spare).toArray = (pre ++ ts.map str ++ spare).toArray := by
  apply Array.ext'
  apply List.ext_getElem?
  intro j
  simp only [putCells, Array.getElem?_toList, Array.getElem?_mapIdx, List.getElem?_toArray]
  by_cases h1 : j < pre.length
  · rw [List.append_assoc, List.append_assoc, List.getElem?_append_left h1, List.getElem?_append_left h1, List.getElem?_eq_getElem h1]
    simp [Nat.not_le.2 h1]
  · by_cases h2 : j < pre.length + ks.length
    · have g1 : (pre ++ ks.map str ++ spare)[j]? = (ks.map str)[j - pre.length]? := by
        rw [List.append_assoc, List.getElem?_append_right (by omega), List.getElem?_append_left (by rw [List.length_map]; omega)]
      have g2 : (pre ++ ts.map str ++ spare)[j]? = (ts.map str)[j - pre.length]? := by
        rw [List.append_assoc, List.getElem?_append_right (by omega), List.getElem?_append_left (by rw [List.length_map]; omega)]
      rw [g1, g2]
      have h3 : j - pre.length < ks.length := by omega
      have h4 : j - pre.length < ts.length := by omega
      simp [h3, h4, Nat.not_lt.1 h1, show j < pre.length + ts.length by omega, str]
    · rw [List.getElem?_append_right (by simp; omega), List.getElem?_append_right (by simp; omega)]
      have e : j - (pre ++ ks.map str).length = j - (pre ++ ts.map str).length := by simp [hl]
      rw [e]
      cases hx : spare[j - (pre ++ ts.map str).length]? with
      | none => rfl
      | some x => simp [show ¬ j < pre.length + ts.length by omega]
/-- slices.Sort of strings -/
theorem slices_Sort {v : Value} {ks : List Str} (hs : Sat w (sliceAt 9 1 v ks.length (ks.map str) :: L)) (hl : ks.length ≤ 5000) :
    Does Tryz.prog 146 [v] w fun r w' => r = .tuple #[] ∧ Sat w' (sliceAt 9 1 v ks.length ((ks.mergeSort fun x y => decide (x ≤ y)).map str) :: L) := by
  by_cases h0 : ks = []
  · subst h0
    obtain ⟨p, c, rfl⟩ := hs.lenS 0 rfl
    refine Calls.mono (Tryz.slices_Sort_string_none p c w) ?_
    rintro e w' ⟨rfl, rfl⟩
    exact ⟨rfl, by simpa using hs⟩
  · obtain ⟨g, pre, spare, cap, rfl, h1, h2, hs2⟩ := hs.openS 0 rfl (by simpa using h0)
    have hb := hs2.get 0 rfl
    have hlt : g < w.heap.size := (Array.getElem?_eq_some_iff.1 hb).1
    have hH : Holds encStr w g pre.length ks.toArray := by
      intro j hj
      have hj' : j < ks.length := by simpa using hj
      refine ⟨?_, by simp [World.frozen?, hb]⟩
      simp only [World.cell?, hb]
      simp [List.getElem?_append, hj', str]
    refine Calls.mono (Tryz.slices_Sort_string g pre.length cap ks w hH hlt (by omega)) ?_
    rintro e w' ⟨rfl, n, os, rfl⟩
    refine ⟨rfl, ?_⟩
    have hlen : (ks.mergeSort fun x y => decide (x ≤ y)).length = ks.length := List.length_mergeSort ..
    refine (Sat.turned (o' := .cells (pre ++ (ks.mergeSort fun x y => decide (x ≤ y)).map str ++ spare).toArray 9 (0, 0)) hs2 (fun k hk hne => ?_) ?_ (by exact ⟨hs2.1.1, hs2.1.2⟩)).implAt 0 rfl (sliceAt_intro (by simp [hlen]) (by simp [hlen] at h2 ⊢; exact h2))
    · rw [heap_grow_old _ _ (by simpa using hk)]
      simp [putRow, mapBlock, Sort.ahead, Array.getElem?_modify, Ne.symm hne]
    · rw [heap_grow_old _ _ (by simpa using hlt)]
      simp only [putRow, mapBlock, Sort.ahead, Array.getElem?_modify, hb, onCells]
      simp only [Option.map_some, if_pos]
      show some (Obj.cells (putCells encStr pre.length (ks.mergeSort fun x y => decide (x ≤ y)).toArray (pre ++ ks.map str ++ spare).toArray) 9 (0, 0)) = _
      rw [putCells_mid hlen]
end
end Go.Proofs.YteoplijfofohkaaGreat
