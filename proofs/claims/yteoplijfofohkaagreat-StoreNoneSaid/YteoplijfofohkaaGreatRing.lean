/- The contracts of package ring: what each function does to the lists of keys. -/
import Derived.Test.YteoplijfofohkaaGreatRows
import Derived.Test.YteoplijfofohkaaGreatOp2
import Derived.Test.YteoplijfofohkaaGreatPRing2
namespace Go.Proofs.YteoplijfofohkaaGreat
open Go Go.Sx Go.Hw
theorem by234 : tBytes Tryz.prog 234 40 = true := by kernel_rfl
theorem by3 : tBytes Tryz.prog 3 8 = true := by kernel_rfl
theorem fl232_0 : tFld Tryz.prog 232 0 0 = true := by kernel_rfl
theorem fl232_1 : tFld Tryz.prog 232 1 1 = true := by kernel_rfl
theorem fl232_2 : tFld Tryz.prog 232 2 2 = true := by kernel_rfl
theorem fl232_3 : tFld Tryz.prog 232 3 3 = true := by kernel_rfl
theorem fl232_4 : tFld Tryz.prog 232 4 4 = true := by kernel_rfl
theorem fl234_0 : tFld Tryz.prog 234 0 0 = true := by kernel_rfl
theorem fl234_1 : tFld Tryz.prog 234 1 1 = true := by kernel_rfl
theorem fl234_2 : tFld Tryz.prog 234 2 2 = true := by kernel_rfl
theorem fl234_3 : tFld Tryz.prog 234 3 3 = true := by kernel_rfl
theorem mp228 : tMap Tryz.prog 228 9 3 = true := by kernel_rfl
theorem pt187 : tPtr Tryz.prog 187 = true := by kernel_rfl
theorem sc228 : tScal Tryz.prog 228 = true := by kernel_rfl
theorem sc229 : tScal Tryz.prog 229 = true := by kernel_rfl
theorem sc230 : tScal Tryz.prog 230 = true := by kernel_rfl
theorem sc3 : tScal Tryz.prog 3 = true := by kernel_rfl
theorem sc9 : tScal Tryz.prog 9 = true := by kernel_rfl
theorem sl229 : tSlice Tryz.prog 229 3 1 = true := by kernel_rfl
theorem sl230 : tSlice Tryz.prog 230 234 4 = true := by kernel_rfl
theorem st9 : tStr Tryz.prog 9 = true := by kernel_rfl
theorem sz229 : tSize Tryz.prog 229 1 = true := by kernel_rfl
theorem sz234 : tSize Tryz.prog 234 4 = true := by kernel_rfl
theorem sz3 : tSize Tryz.prog 3 1 = true := by kernel_rfl
theorem sz9 : tSize Tryz.prog 9 1 = true := by kernel_rfl
theorem zr232 : tZero Tryz.prog 232 (.agg #[(.int .i64 0), (.slice none 0 0), (.slice none 0 0), (.map none), (.slice none 0 0)]) := tZero_of (by kernel_rfl)
theorem zr234 : tZero Tryz.prog 234 (.agg #[(str []), (.int .i64 0), (.int .i64 0), (.int .i64 0)]) := tZero_of (by kernel_rfl)
theorem zr3 : tZero Tryz.prog 3 (.int .i64 0) := tZero_of (by kernel_rfl)
theorem pl232 : tPlaces Tryz.prog 232 #[(0, 1), (1, 1), (2, 1), (3, 1), (4, 1)] := tPlaces_of (by kernel_rfl)
theorem pl234 : tPlaces Tryz.prog 234 #[(0, 1), (1, 1), (2, 1), (3, 1)] := tPlaces_of (by kernel_rfl)
theorem zs3 : ∃ z, tZero Tryz.prog 3 z ∧ z.cells.size = 1 := ⟨_, zr3, rfl⟩
variable [Env]
omit [Env] in
theorem Tryz.mixed : Tryz.prog.follows .mixedOrders = true := by kernel_rfl
def natv (i : Nat) : Value := .int .i64 i
def natCells (l : List Nat) : List Value := l.map natv
def Slot.cells (s : Slot) : List Value := [str s.key, natv s.list, natv s.prev, natv s.next]
def slotCells (l : List Slot) : List Value := l.flatMap Slot.cells
omit [Env] in
theorem slotCells_len (l : List Slot) : (slotCells l).length = l.length * 4 := by
  induction l with
  | nil => rfl
  | cons s l ih => simp only [slotCells, List.flatMap_cons, List.length_append, List.length_cons] at *; rw [ih]; simp [Slot.cells]; omega
omit [Env] in
theorem slotCells_get (l : List Slot) : ∀ (i j : Nat), i < l.length → j < 4 → (slotCells l)[i * 4 + j]? = (Slot.cells (sl l i))[j]? := by
  induction l with
  | nil => intro i j h; simp at h
  | cons s l ih =>
    intro i j h hj
    have hc : (Slot.cells s).length = 4 := rfl
    cases i with
    | zero => simp only [slotCells, List.flatMap_cons, sl, List.getD_cons_zero]; rw [List.getElem?_append_left (by omega)]; simp
    | succ i =>
      simp only [slotCells, List.flatMap_cons, sl, List.getD_cons_succ]
      rw [List.getElem?_append_right (by omega), hc, show (i + 1) * 4 + j - 4 = i * 4 + j by omega]
      exact ih i j (by simpa using h) hj
omit [Env] in
theorem slot_get {l : List Slot} {i : Nat} (j : Nat) (h : i < l.length) (hj : j < 4) {v : Value} (hv : (Slot.cells (sl l i))[j]? = some v) : (slotCells l).toArray[i * 4 + j]? = some v := by
  rw [List.getElem?_toArray, slotCells_get l i j h hj, hv]
omit [Env] in
theorem slotCells_set (f : Slot → Slot) (j : Nat) (v : Value) (hj : j < 4) (hf : ∀ s, (Slot.cells s).set j v = Slot.cells (f s)) (l : List Slot) : ∀ i, i < l.length → (slotCells l).set (i * 4 + j) v = slotCells (l.modify i f) := by
  induction l with
  | nil => intro i h; simp at h
  | cons s l ih =>
    intro i h
    have hc : ∀ s, (Slot.cells s).length = 4 := fun _ => rfl
    cases i with
    | zero => simp only [slotCells, List.flatMap_cons, List.modify_zero_cons]; rw [List.set_append_left _ _ (by rw [hc]; omega)]; simp [hf]
    | succ i =>
      simp only [slotCells, List.flatMap_cons, List.modify_succ_cons]
      rw [List.set_append_right _ _ (by rw [hc]; omega), hc, show (i + 1) * 4 + j - 4 = i * 4 + j by omega]
      congr 1
      exact ih i (by simpa using h)
omit [Env] in
theorem slot_setN {l : List Slot} {i n : Nat} (h : i < l.length) : (slotCells l).toArray.setIfInBounds (i * 4 + 3) (natv n) = (slotCells (setN l i n)).toArray := by
  rw [List.setIfInBounds_toArray, slotCells_set (fun s => { s with next := n }) 3 _ (by omega) (fun _ => rfl) l i h]; rfl
omit [Env] in
theorem slot_setP {l : List Slot} {i n : Nat} (h : i < l.length) : (slotCells l).toArray.setIfInBounds (i * 4 + 2) (natv n) = (slotCells (setP l i n)).toArray := by
  rw [List.setIfInBounds_toArray, slotCells_set (fun s => { s with prev := n }) 2 _ (by omega) (fun _ => rfl) l i h]; rfl
omit [Env] in
theorem slot_setL {l : List Slot} {i n : Nat} (h : i < l.length) : (slotCells l).toArray.setIfInBounds (i * 4 + 1) (natv n) = (slotCells (setL l i n)).toArray := by
  rw [List.setIfInBounds_toArray, slotCells_set (fun s => { s with list := n }) 1 _ (by omega) (fun _ => rfl) l i h]; rfl
omit [Env] in
theorem slot_setK {l : List Slot} {i : Nat} {k : Str} (h : i < l.length) : (slotCells l).toArray.setIfInBounds (i * 4 + 0) (str k) = (slotCells (setK l i k)).toArray := by
  rw [List.setIfInBounds_toArray, slotCells_set (fun s => { s with key := k }) 0 _ (by omega) (fun _ => rfl) l i h]; rfl
omit [Env] in
theorem slot_sz {l : List Slot} {i : Nat} (j : Nat) (h : i < l.length) (hj : j < 4) : i * 4 + j < (slotCells l).toArray.size := by
  rw [List.size_toArray, slotCells_len]; omega
omit [Env] in
theorem nat_get {l : List Nat} {i : Nat} (h : i < l.length) : (natCells l).toArray[i]? = some (natv (l.getD i 0)) := by
  simp [natCells, h]
omit [Env] in
theorem nat_set {l : List Nat} {i n : Nat} : (natCells l).toArray.setIfInBounds i (natv n) = (natCells (l.set i n)).toArray := by
  simp [natCells, List.map_set]
omit [Env] in
theorem nat_sz {l : List Nat} {i : Nat} (h : i < l.length) : i < (natCells l).toArray.size := by simpa [natCells] using h

/-- the memory of lists: the struct, the slots, the free ones, the map, the counts -/
def ringParts (p : Nat) (R : Ring) (bs bat bm : Nat) (fv : Value) : List Asrt :=
  [pt p (.cells #[natv R.lists, .slice (some ⟨bs, 0, none⟩) R.slots.length R.slots.length, fv, .map (some bat), .slice (some ⟨bm, 0, none⟩) R.many.length R.many.length] 232 (0, 0)),
   pt bs (.cells (slotCells R.slots).toArray 234 (0, 0)), sliceAt 3 1 fv R.free.length (natCells R.free), mapAt str natv bat R.at, pt bm (.cells (natCells R.many).toArray 3 (0, 0))]
def ringRaw (p : Nat) (R : Ring) : Asrt := fun h => ∃ x : Nat × Nat × Nat × Value, sepL (ringParts p R x.1 x.2.1 x.2.2.1 x.2.2.2) h
theorem ringRaw_close {w : World} {p : Nat} {R : Ring} {bs bat bm : Nat} {fv : Value} {L : List Asrt} (h : Sat w (ringParts p R bs bat bm fv ++ L)) : Sat w (ringRaw p R :: L) :=
  h.join.impl fun _ hg => ⟨(bs, bat, bm, fv), hg⟩
/-- the parts of R' where the lengths are as they were -/
theorem ringRaw_shut {w : World} {p : Nat} {R : Ring} {ns nm bs bat bm : Nat} {fv : Value} {L : List Asrt} (h : Sat w ([pt p (.cells #[natv R.lists, .slice (some ⟨bs, 0, none⟩) ns ns, fv, .map (some bat), .slice (some ⟨bm, 0, none⟩) nm nm] 232 (0, 0)),
   pt bs (.cells (slotCells R.slots).toArray 234 (0, 0)), sliceAt 3 1 fv R.free.length (natCells R.free), mapAt str natv bat R.at, pt bm (.cells (natCells R.many).toArray 3 (0, 0))] ++ L)) (h1 : R.slots.length = ns) (h2 : R.many.length = nm) : Sat w (ringRaw p R :: L) := by
  subst h1; subst h2; exact ringRaw_close h
abbrev rp (p : Nat) : Value := .pointer (some ⟨p, 0, none⟩)

theorem ring_is_nil {w : World} {L : List Asrt} (hs : Sat w L) (l : Int) : Does Tryz.prog 206 [.pointer none, .int .i64 l] w fun v w' => v = .bool false ∧ Sat w' L := by
  refine Does.enters hs (n := 19) Tryz.func206 rfl rfl rfl rfl ?_
  refine WCs.seq ?_
  refine WCs.region ?_
  refine WLs.val (y_asgn rfl) rfl <| ?_
  refine WLs.nil ?_
  refine WEs.then_n ?_
  refine WCs.seq ?_
  refine WCs.region ?_
  refine WLs.val (y_move rfl) rfl <| WLs.val (y_pne rfl rfl pt187) rfl <| WLs.val (y_move rfl) rfl <| WLs.skipped rfl rfl rfl <| WLs.skipped rfl rfl rfl <| WLs.val (y_pick rfl rfl) rfl <| WLs.val (y_move rfl) rfl <| WLs.skipped rfl rfl rfl <| WLs.skipped rfl rfl rfl <| WLs.skipped rfl rfl rfl <| WLs.skipped rfl rfl rfl <| WLs.skipped rfl rfl rfl <| WLs.skipped rfl rfl rfl <| WLs.val (y_pick rfl rfl) rfl <| WLs.val (y_asgn rfl) rfl <| ?_
  refine WLs.nil ?_
  refine WEs.then_n ?_
  refine WCs.ret ?_
  refine WEs.ret1 (.inr rfl) rfl rfl ?_
  exact fun w hs => ⟨rfl, hs⟩

theorem ring_is_neg {w : World} {L : List Asrt} {p : Nat} {R : Ring} {l : Int} (hs : Sat w (ringRaw p R :: L)) (h : l < 0) : Does Tryz.prog 206 [rp p, .int .i64 l] w fun v w' => v = .bool false ∧ Sat w' (ringRaw p R :: L) := by
  obtain ⟨⟨bs, bat, bm, fv⟩, hs0⟩ := hs.exists
  have hs1 : Sat w (ringParts p R bs bat bm fv ++ L) := hs0.split
  clear hs hs0
  refine Does.enters hs1 (n := 19) Tryz.func206 rfl rfl rfl rfl ?_
  refine WCs.seq ?_
  refine WCs.region ?_
  refine WLs.val (y_asgn rfl) rfl <| ?_
  refine WLs.nil ?_
  refine WEs.then_n ?_
  refine WCs.seq ?_
  refine WCs.region ?_
  refine WLs.val (y_move rfl) rfl <| WLs.val (y_pne rfl rfl pt187) rfl <| WLs.val (y_move rfl) rfl <| WLs.guarded rfl rfl <| WLs.val (y_move rfl) rfl <| WLs.guarded rfl rfl <| WLs.val (y_ge rfl rfl (decide_eq_false (by omega))) rfl <| ?_
  refine WLs.val (y_pick rfl rfl) rfl <| WLs.val (y_move rfl) rfl <| WLs.skipped rfl rfl rfl <| WLs.skipped rfl rfl rfl <| WLs.skipped rfl rfl rfl <| WLs.skipped rfl rfl rfl <| WLs.skipped rfl rfl rfl <| WLs.skipped rfl rfl rfl <| WLs.val (y_pick rfl rfl) rfl <| WLs.val (y_asgn rfl) rfl <| ?_
  refine WLs.nil ?_
  refine WEs.then_n ?_
  refine WCs.ret ?_
  refine WEs.ret1 (.inr rfl) rfl rfl ?_
  exact fun w hs => ⟨rfl, ringRaw_close hs⟩

theorem ring_is_no {w : World} {L : List Asrt} {p : Nat} {R : Ring} {l : Int} (hs : Sat w (ringRaw p R :: L)) (h : (R.lists : Int) ≤ l) : Does Tryz.prog 206 [rp p, .int .i64 l] w fun v w' => v = .bool false ∧ Sat w' (ringRaw p R :: L) := by
  obtain ⟨⟨bs, bat, bm, fv⟩, hs0⟩ := hs.exists
  have hs1 : Sat w (ringParts p R bs bat bm fv ++ L) := hs0.split
  clear hs hs0
  refine Does.enters hs1 (n := 19) Tryz.func206 rfl rfl rfl rfl ?_
  refine WCs.seq ?_
  refine WCs.region ?_
  refine WLs.val (y_asgn rfl) rfl <| ?_
  refine WLs.nil ?_
  refine WEs.then_n ?_
  refine WCs.seq ?_
  refine WCs.region ?_
  refine WLs.val (y_move rfl) rfl <| WLs.val (y_pne rfl rfl pt187) rfl <| WLs.val (y_move rfl) rfl <| WLs.guarded rfl rfl <| WLs.val (y_move rfl) rfl <| WLs.guarded rfl rfl <| WLs.val (y_ge rfl rfl (decide_eq_true (by omega))) rfl <| ?_
  refine WLs.val (y_pick rfl rfl) rfl <| WLs.val (y_move rfl) rfl <| WLs.guarded rfl rfl <| WLs.val (y_move rfl) rfl <| WLs.guarded rfl rfl <| WLs.val (y_move rfl) rfl <| WLs.guarded rfl rfl <| WLs.val (y_nil rfl) rfl <| WLs.guarded rfl rfl <| WLs.val (y_fld rfl fl232_0) rfl <| WLs.guarded rfl rfl <| WLs.val (y_ld rfl sc3 (by first | exact Sat.at 0 rfl | exact Sat.at 1 rfl | exact Sat.at 2 rfl | exact Sat.at 3 rfl | exact Sat.at 4 rfl | exact Sat.at 5 rfl | exact Sat.at 6 rfl) (by rfl)) rfl <| ?_
  refine WLs.guarded rfl rfl <| WLs.val (y_lt rfl rfl (decide_eq_false (by omega))) rfl <| ?_
  refine WLs.val (y_pick rfl rfl) rfl <| WLs.val (y_asgn rfl) rfl <| ?_
  refine WLs.nil ?_
  refine WEs.then_n ?_
  refine WCs.ret ?_
  refine WEs.ret1 (.inr rfl) rfl rfl ?_
  exact fun w hs => ⟨rfl, ringRaw_close hs⟩

theorem ring_is_yes {w : World} {L : List Asrt} {p : Nat} {R : Ring} {l : Int} (hs : Sat w (ringRaw p R :: L)) (h0 : 0 ≤ l) (h : l < (R.lists : Int)) : Does Tryz.prog 206 [rp p, .int .i64 l] w fun v w' => v = .bool true ∧ Sat w' (ringRaw p R :: L) := by
  obtain ⟨⟨bs, bat, bm, fv⟩, hs0⟩ := hs.exists
  have hs1 : Sat w (ringParts p R bs bat bm fv ++ L) := hs0.split
  clear hs hs0
  refine Does.enters hs1 (n := 19) Tryz.func206 rfl rfl rfl rfl ?_
  refine WCs.seq ?_
  refine WCs.region ?_
  refine WLs.val (y_asgn rfl) rfl <| ?_
  refine WLs.nil ?_
  refine WEs.then_n ?_
  refine WCs.seq ?_
  refine WCs.region ?_
  refine WLs.val (y_move rfl) rfl <| WLs.val (y_pne rfl rfl pt187) rfl <| WLs.val (y_move rfl) rfl <| WLs.guarded rfl rfl <| WLs.val (y_move rfl) rfl <| WLs.guarded rfl rfl <| WLs.val (y_ge rfl rfl (decide_eq_true (by omega))) rfl <| ?_
  refine WLs.val (y_pick rfl rfl) rfl <| WLs.val (y_move rfl) rfl <| WLs.guarded rfl rfl <| WLs.val (y_move rfl) rfl <| WLs.guarded rfl rfl <| WLs.val (y_move rfl) rfl <| WLs.guarded rfl rfl <| WLs.val (y_nil rfl) rfl <| WLs.guarded rfl rfl <| WLs.val (y_fld rfl fl232_0) rfl <| WLs.guarded rfl rfl <| WLs.val (y_ld rfl sc3 (by first | exact Sat.at 0 rfl | exact Sat.at 1 rfl | exact Sat.at 2 rfl | exact Sat.at 3 rfl | exact Sat.at 4 rfl | exact Sat.at 5 rfl | exact Sat.at 6 rfl) (by rfl)) rfl <| ?_
  refine WLs.guarded rfl rfl <| WLs.val (y_lt rfl rfl (decide_eq_true (by omega))) rfl <| ?_
  refine WLs.val (y_pick rfl rfl) rfl <| WLs.val (y_asgn rfl) rfl <| ?_
  refine WLs.nil ?_
  refine WEs.then_n ?_
  refine WCs.ret ?_
  refine WEs.ret1 (.inr rfl) rfl rfl ?_
  exact fun w hs => ⟨rfl, ringRaw_close hs⟩

/-- what cut and link ask: all names are places -/
structure CutOk (R : Ring) (i : Nat) : Prop where
  hi : i < R.slots.length
  hp : (sl R.slots i).prev < R.slots.length
  hn : (sl R.slots i).next < R.slots.length
  hl : (sl R.slots i).list < R.many.length
  hm : 1 ≤ R.many.getD (sl R.slots i).list 0
  hb : R.slots.length ≤ 100000
  hc : R.many.getD (sl R.slots i).list 0 ≤ 100000
structure LinkOk (R : Ring) (i l : Nat) : Prop where
  hi : i < R.slots.length
  hl : l < R.slots.length
  hn : (sl R.slots l).next < R.slots.length
  hm : l < R.many.length
  hil : i ≠ l
  hb : R.slots.length ≤ 100000
  hc : R.many.getD l 0 ≤ 100000
omit [Env] in
theorem natv_pred {k : Nat} (h : 1 ≤ k ∧ k ≤ 100000) : IntKind.i64.wrap ((k : Int) - 1) = ((k - 1 : Nat) : Int) := by
  rw [wrap_i64 (by omega)]; omega
omit [Env] in
theorem natv_succ {k : Nat} (h : k ≤ 100000) : IntKind.i64.wrap ((k : Int) + 1) = ((k + 1 : Nat) : Int) := by
  rw [wrap_i64 (by omega)]; omega

theorem ring_cut {w : World} {L : List Asrt} {p : Nat} {R : Ring} {i : Nat} (hs : Sat w (ringRaw p R :: L)) (ok : CutOk R i) : Does Tryz.prog 157 [rp p, natv i] w fun v w' => v = .tuple #[] ∧ Sat w' (ringRaw p (R.cut i) :: L) := by
  obtain ⟨⟨bs, bat, bm, fv⟩, hs0⟩ := hs.exists
  have hs1 : Sat w (ringParts p R bs bat bm fv ++ L) := hs0.split
  clear hs hs0
  refine Does.enters hs1 (n := 51) Tryz.func157 rfl rfl rfl rfl ?_
  refine WCs.seq ?_
  refine WCs.region ?_
  refine WLs.val (y_move rfl) rfl <| WLs.val (y_nil rfl) rfl <| WLs.val (y_fld rfl fl232_1) rfl <| WLs.val (y_ld rfl sc230 (Sat.at 0 rfl) (by rfl)) rfl <| ?_
  refine WLs.val (y_move rfl) rfl <| WLs.val (y_ix0 rfl rfl sl230 ok.hi) rfl <| ?_
  refine WLs.val (y_asgn rfl) rfl <| ?_
  refine WLs.nil ?_
  refine WEs.then_n ?_
  refine WCs.seq ?_
  refine WCs.draw (.one 0 3 (.one 1 3 (.one 2 3 (.one 3 0 (.one 4 3 (.one 5 3 (.one 6 3 (.one 7 0 (.one 8 3 (.one 9 3 (.one 10 3 (.one 11 0 (.one 12 3 (.one 13 3 (.one 14 3 (.one 15 0 (.one 16 3 (.one 17 3 (.one 18 3 (.one 19 0 (.one 20 3 (.one 21 3 (.one 22 3 (.one 23 0 (.one 24 3 (.one 25 3 (.one 26 2 (.one 27 3 (.one 28 3 (.one 29 2 .nil)))))))))))))))))))))))))))))) [26, 29] Tryz.mixed (by kernel_rfl) (by kernel_rfl) rfl (Pf.then Pf.body) (fun _ h => h) ?_
  refine WSs.pure rfl (y_move rfl) rfl ?_
  refine WSs.pure rfl (y_nil rfl) rfl ?_
  refine WSs.pure rfl (y_fld rfl fl232_1) rfl ?_
  refine WSs.val rfl (y_ld rfl sc230 (Sat.at 0 rfl) (by rfl)) rfl ?_
  refine WSs.pure rfl (y_move rfl) rfl ?_
  refine WSs.pure rfl (y_nil rfl) rfl ?_
  refine WSs.pure rfl (y_fld rfl fl234_2) rfl ?_
  refine WSs.val rfl (y_ld rfl sc3 (Sat.at 1 rfl) (by exact slot_get 2 ok.hi (by omega) rfl)) rfl ?_
  refine WSs.pure rfl (y_move rfl) rfl ?_
  refine WSs.pure rfl (y_nil rfl) rfl ?_
  refine WSs.pure rfl (y_fld rfl fl232_1) rfl ?_
  refine WSs.val rfl (y_ld rfl sc230 (Sat.at 0 rfl) (by rfl)) rfl ?_
  refine WSs.pure rfl (y_move rfl) rfl ?_
  refine WSs.pure rfl (y_nil rfl) rfl ?_
  refine WSs.pure rfl (y_fld rfl fl234_3) rfl ?_
  refine WSs.val rfl (y_ld rfl sc3 (Sat.at 1 rfl) (by exact slot_get 3 ok.hi (by omega) rfl)) rfl ?_
  refine WSs.pure rfl (y_move rfl) rfl ?_
  refine WSs.pure rfl (y_nil rfl) rfl ?_
  refine WSs.pure rfl (y_fld rfl fl234_3) rfl ?_
  refine WSs.val rfl (y_ld rfl sc3 (Sat.at 1 rfl) (by exact slot_get 3 ok.hi (by omega) rfl)) rfl ?_
  refine WSs.pure rfl (y_move rfl) rfl ?_
  refine WSs.pure rfl (y_nil rfl) rfl ?_
  refine WSs.pure rfl (y_fld rfl fl234_2) rfl ?_
  refine WSs.val rfl (y_ld rfl sc3 (Sat.at 1 rfl) (by exact slot_get 2 ok.hi (by omega) rfl)) rfl ?_
  refine WSs.pure rfl (y_ix0 rfl rfl sl230 ok.hp) rfl ?_
  refine WSs.pure rfl (y_fld rfl fl234_3) rfl ?_
  refine WSs.store 1 rfl rfl rfl sz3 rfl (slot_sz 3 ok.hp (by omega)) rfl (slot_setN ok.hp) ?_
  refine WSs.pure rfl (y_ix0 rfl rfl sl230 ok.hn) rfl ?_
  refine WSs.pure rfl (y_fld rfl fl234_2) rfl ?_
  refine WSs.store 1 rfl rfl rfl sz3 rfl (slot_sz 2 (by rw [setN_len]; exact ok.hn) (by omega)) rfl (slot_setP (by rw [setN_len]; exact ok.hn)) ?_
  refine WSs.nil ?_
  refine WEs.then_n ?_
  refine WCs.draw (.one 0 3 (.one 1 3 (.one 2 3 (.one 3 0 (.one 4 3 (.one 5 3 (.one 6 3 (.one 7 0 (.one 8 3 (.one 9 0 (.one 10 3 (.one 11 3 (.one 12 2 .nil))))))))))))) [12] Tryz.mixed (by kernel_rfl) (by kernel_rfl) rfl Pf.body (fun _ h => h) ?_
  refine WSs.pure rfl (y_move rfl) rfl ?_
  refine WSs.pure rfl (y_nil rfl) rfl ?_
  refine WSs.pure rfl (y_fld rfl fl232_4) rfl ?_
  refine WSs.val rfl (y_ld rfl sc229 (Sat.at 0 rfl) (by rfl)) rfl ?_
  refine WSs.pure rfl (y_move rfl) rfl ?_
  refine WSs.pure rfl (y_nil rfl) rfl ?_
  refine WSs.pure rfl (y_fld rfl fl234_1) rfl ?_
  refine WSs.val rfl (y_ld rfl sc3 (Sat.at 1 rfl) (by exact slot_get 1 (by rw [setP_len, setN_len]; exact ok.hi) (by omega) (by rw [show (Slot.cells (sl (setP (setN R.slots (sl R.slots i).prev (sl R.slots i).next) (sl R.slots i).next (sl R.slots i).prev) i))[1]? = some (natv (sl (cutS R.slots i) i).list) from rfl, (cutS_key ok.hp ok.hn).2]))) rfl ?_
  refine WSs.pure rfl (y_ix1 rfl rfl sl229 ok.hl) rfl ?_
  refine WSs.val rfl (y_ld rfl sc3 (Sat.at 4 rfl) (nat_get ok.hl)) rfl ?_
  refine WSs.pure rfl (y_sub rfl rfl (natv_pred ⟨ok.hm, ok.hc⟩)) rfl ?_
  refine WSs.pure rfl (y_ix1 rfl rfl sl229 ok.hl) rfl ?_
  refine WSs.store 4 rfl rfl rfl sz3 rfl (nat_sz ok.hl) rfl nat_set ?_
  refine WSs.nil ?_
  refine WEs.ret0 (.inl rfl) rfl ?_
  exact fun w hs => ⟨rfl, ringRaw_shut (R := R.cut i) hs (cutS_len _ _) (List.length_set ..)⟩

theorem ring_link {w : World} {L : List Asrt} {p : Nat} {R : Ring} {i l : Nat} (hs : Sat w (ringRaw p R :: L)) (ok : LinkOk R i l) : Does Tryz.prog 207 [rp p, natv i, natv l] w fun v w' => v = .tuple #[] ∧ Sat w' (ringRaw p (R.link i l) :: L) := by
  obtain ⟨⟨bs, bat, bm, fv⟩, hs0⟩ := hs.exists
  have hs1 : Sat w (ringParts p R bs bat bm fv ++ L) := hs0.split
  clear hs hs0
  refine Does.enters hs1 (n := 60) Tryz.func207 rfl rfl rfl rfl ?_
  refine WCs.seq ?_
  refine WCs.region ?_
  refine WLs.val (y_move rfl) rfl <| WLs.val (y_nil rfl) rfl <| WLs.val (y_fld rfl fl232_1) rfl <| WLs.val (y_ld rfl sc230 (Sat.at 0 rfl) (by rfl)) rfl <| ?_
  refine WLs.val (y_move rfl) rfl <| WLs.val (y_ix0 rfl rfl sl230 ok.hi) rfl <| ?_
  refine WLs.val (y_asgn rfl) rfl <| ?_
  refine WLs.nil ?_
  refine WEs.then_n ?_
  refine WCs.seq ?_
  refine WCs.region ?_
  refine WLs.val (y_move rfl) rfl <| WLs.val (y_move rfl) rfl <| WLs.val (y_move rfl) rfl <| WLs.val (y_move rfl) rfl <| WLs.val (y_move rfl) rfl <| WLs.val (y_move rfl) rfl <| WLs.val (y_nil rfl) rfl <| WLs.val (y_fld rfl fl232_1) rfl <| WLs.val (y_ld rfl sc230 (Sat.at 0 rfl) (by rfl)) rfl <| ?_
  refine WLs.val (y_move rfl) rfl <| WLs.val (y_ix0 rfl rfl sl230 ok.hl) rfl <| ?_
  refine WLs.val (y_fld rfl fl234_3) rfl <| WLs.val (y_ld rfl sc3 (Sat.at 1 rfl) (by exact slot_get 3 ok.hl (by omega) rfl)) rfl <| ?_
  refine WLs.val (y_nil rfl) rfl <| WLs.val (y_fld rfl fl234_1) rfl <| ?_
  refine WLs.store 1 rfl rfl sz3 rfl (slot_sz 1 ok.hi (by omega)) rfl (slot_setL ok.hi) ?_
  refine WLs.val (y_nil rfl) rfl <| WLs.val (y_fld rfl fl234_2) rfl <| ?_
  refine WLs.store 1 rfl rfl sz3 rfl (slot_sz 2 (by rw [setL_len]; exact ok.hi) (by omega)) rfl (slot_setP (by rw [setL_len]; exact ok.hi)) ?_
  refine WLs.val (y_nil rfl) rfl <| WLs.val (y_fld rfl fl234_3) rfl <| ?_
  refine WLs.store 1 rfl rfl sz3 rfl (slot_sz 3 (by rw [setP_len, setL_len]; exact ok.hi) (by omega)) rfl (slot_setN (by rw [setP_len, setL_len]; exact ok.hi)) ?_
  refine WLs.nil ?_
  refine WEs.then_n ?_
  refine WCs.seq ?_
  refine WCs.draw (.one 0 3 (.one 1 3 (.one 2 3 (.one 3 0 (.one 4 3 (.one 5 3 (.one 6 3 (.one 7 0 (.one 8 3 (.one 9 3 (.one 10 3 (.one 11 0 (.one 12 3 (.one 13 3 (.one 14 3 (.one 15 3 (.one 16 3 (.one 17 2 (.one 18 3 (.one 19 3 (.one 20 2 .nil))))))))))))))))))))) [17, 20] Tryz.mixed (by kernel_rfl) (by kernel_rfl) rfl (Pf.then Pf.body) (fun _ h => h) ?_
  refine WSs.pure rfl (y_move rfl) rfl ?_
  refine WSs.pure rfl (y_nil rfl) rfl ?_
  refine WSs.pure rfl (y_fld rfl fl232_1) rfl ?_
  refine WSs.val rfl (y_ld rfl sc230 (Sat.at 0 rfl) (by rfl)) rfl ?_
  refine WSs.pure rfl (y_move rfl) rfl ?_
  refine WSs.pure rfl (y_nil rfl) rfl ?_
  refine WSs.pure rfl (y_fld rfl fl234_3) rfl ?_
  refine WSs.val rfl (y_ld rfl sc3 (Sat.at 1 rfl) (by exact slot_get 3 (by rw [setN_len, setP_len, setL_len]; exact ok.hi) (by omega) (by rw [sl_setN _ _ (by rw [setP_len, setL_len]; exact ok.hi), if_pos rfl]; rfl))) rfl ?_
  refine WSs.pure rfl (y_move rfl) rfl ?_
  refine WSs.pure rfl (y_nil rfl) rfl ?_
  refine WSs.pure rfl (y_fld rfl fl232_1) rfl ?_
  refine WSs.val rfl (y_ld rfl sc230 (Sat.at 0 rfl) (by rfl)) rfl ?_
  refine WSs.pure rfl (y_move rfl) rfl ?_
  refine WSs.pure rfl (y_move rfl) rfl ?_
  refine WSs.pure rfl (y_move rfl) rfl ?_
  refine WSs.pure rfl (y_ix0 rfl rfl sl230 ok.hn) rfl ?_
  refine WSs.pure rfl (y_fld rfl fl234_2) rfl ?_
  refine WSs.store 1 rfl rfl rfl sz3 rfl (slot_sz 2 (by rw [setN_len, setP_len, setL_len]; exact ok.hn) (by omega)) rfl (slot_setP (by rw [setN_len, setP_len, setL_len]; exact ok.hn)) ?_
  refine WSs.pure rfl (y_ix0 rfl rfl sl230 ok.hl) rfl ?_
  refine WSs.pure rfl (y_fld rfl fl234_3) rfl ?_
  refine WSs.store 1 rfl rfl rfl sz3 rfl (slot_sz 3 (by rw [setP_len, setN_len, setP_len, setL_len]; exact ok.hl) (by omega)) rfl (slot_setN (by rw [setP_len, setN_len, setP_len, setL_len]; exact ok.hl)) ?_
  refine WSs.nil ?_
  refine WEs.then_n ?_
  refine WCs.region ?_
  refine WLs.val (y_move rfl) rfl <| WLs.val (y_nil rfl) rfl <| WLs.val (y_fld rfl fl232_4) rfl <| WLs.val (y_ld rfl sc229 (Sat.at 0 rfl) (by rfl)) rfl <| ?_
  refine WLs.val (y_move rfl) rfl <| WLs.val (y_ix1 rfl rfl sl229 ok.hm) rfl <| ?_
  refine WLs.val (y_ld rfl sc3 (Sat.at 4 rfl) (nat_get ok.hm)) rfl <| ?_
  refine WLs.val (y_add rfl rfl (natv_succ ok.hc)) rfl <| ?_
  refine WLs.val (y_ix1 rfl rfl sl229 ok.hm) rfl <| ?_
  refine WLs.store 4 rfl rfl sz3 rfl (nat_sz ok.hm) rfl nat_set ?_
  refine WLs.nil ?_
  refine WEs.ret0 (.inl rfl) rfl ?_
  exact fun w hs => ⟨rfl, ringRaw_shut (R := R.link i l) hs (linkS_len _ _ _) (List.length_set ..)⟩

theorem ring_In_no {w : World} {L : List Asrt} {p : Nat} {R : Ring} {k : Str} (hs : Sat w (ringRaw p R :: L)) (h : mget R.at k = none) : Does Tryz.prog 156 [rp p, str k] w fun v w' => v = .tuple #[natv 0, .bool false] ∧ Sat w' (ringRaw p R :: L) := by
  obtain ⟨⟨bs, bat, bm, fv⟩, hs0⟩ := hs.exists
  have hs1 : Sat w (ringParts p R bs bat bm fv ++ L) := hs0.split
  clear hs hs0
  refine Does.enters hs1 (n := 29) Tryz.func156 rfl rfl rfl rfl ?_
  refine WCs.seq ?_
  refine WCs.region ?_
  refine WLs.val (y_asgn rfl) rfl <| WLs.val (y_asgn rfl) rfl <| ?_
  refine WLs.nil ?_
  refine WEs.then_n ?_
  refine WCs.seq ?_
  refine WCs.seq ?_
  refine WCs.region ?_
  refine WLs.val (y_move rfl) rfl <| WLs.val (y_peq rfl rfl pt187) rfl <| ?_
  refine WLs.nil ?_
  refine WEs.then_n ?_
  refine WCs.cond_f rfl rfl ?_
  refine WCs.skip ?_
  refine WEs.then_n ?_
  refine WCs.seq ?_
  refine WCs.region ?_
  refine WLs.val (y_move rfl) rfl <| WLs.val (y_nil rfl) rfl <| WLs.val (y_fld rfl fl232_3) rfl <| WLs.val (y_ld rfl sc228 (Sat.at 0 rfl) (by rfl)) rfl <| ?_
  refine WLs.val (y_move rfl) rfl <| WLs.val (y_look (enc := str) (en := natv) rfl rfl (keyStr st9) mp228 zr3 (Sat.atM 3 rfl) h) rfl <| ?_
  refine WLs.val (y_move rfl) rfl <| WLs.val (y_ext rfl rfl) rfl <| WLs.val (y_ext rfl rfl) rfl <| WLs.val (y_asgn rfl) rfl <| WLs.val (y_asgn rfl) rfl <| ?_
  refine WLs.nil ?_
  refine WEs.then_n ?_
  refine WCs.seq ?_
  refine WCs.seq ?_
  refine WCs.region ?_
  refine WLs.val (y_move rfl) rfl <| WLs.val (y_not rfl) rfl <| ?_
  refine WLs.nil ?_
  refine WEs.then_n ?_
  refine WCs.cond_t rfl rfl ?_
  refine WCs.seq ?_
  refine WCs.region ?_
  refine WLs.val (y_asgn rfl) rfl <| WLs.val (y_asgn rfl) rfl <| ?_
  refine WLs.nil ?_
  refine WEs.then_n ?_
  refine WCs.ret ?_
  refine WEs.then_ret ?_
  refine WEs.ret2 (.inr rfl) rfl rfl rfl ?_
  exact fun w hs => ⟨rfl, ringRaw_close hs⟩

theorem ring_In_yes {w : World} {L : List Asrt} {p : Nat} {R : Ring} {k : Str} {i : Nat} (hs : Sat w (ringRaw p R :: L)) (h : mget R.at k = some i) (hi : i < R.slots.length) : Does Tryz.prog 156 [rp p, str k] w fun v w' => v = .tuple #[natv (sl R.slots i).list, .bool true] ∧ Sat w' (ringRaw p R :: L) := by
  obtain ⟨⟨bs, bat, bm, fv⟩, hs0⟩ := hs.exists
  have hs1 : Sat w (ringParts p R bs bat bm fv ++ L) := hs0.split
  clear hs hs0
  refine Does.enters hs1 (n := 29) Tryz.func156 rfl rfl rfl rfl ?_
  refine WCs.seq ?_
  refine WCs.region ?_
  refine WLs.val (y_asgn rfl) rfl <| WLs.val (y_asgn rfl) rfl <| ?_
  refine WLs.nil ?_
  refine WEs.then_n ?_
  refine WCs.seq ?_
  refine WCs.seq ?_
  refine WCs.region ?_
  refine WLs.val (y_move rfl) rfl <| WLs.val (y_peq rfl rfl pt187) rfl <| ?_
  refine WLs.nil ?_
  refine WEs.then_n ?_
  refine WCs.cond_f rfl rfl ?_
  refine WCs.skip ?_
  refine WEs.then_n ?_
  refine WCs.seq ?_
  refine WCs.region ?_
  refine WLs.val (y_move rfl) rfl <| WLs.val (y_nil rfl) rfl <| WLs.val (y_fld rfl fl232_3) rfl <| WLs.val (y_ld rfl sc228 (Sat.at 0 rfl) (by rfl)) rfl <| ?_
  refine WLs.val (y_move rfl) rfl <| WLs.val (y_look (enc := str) (en := natv) rfl rfl (keyStr st9) mp228 zr3 (Sat.atM 3 rfl) h) rfl <| ?_
  refine WLs.val (y_move rfl) rfl <| WLs.val (y_ext rfl rfl) rfl <| WLs.val (y_ext rfl rfl) rfl <| WLs.val (y_asgn rfl) rfl <| WLs.val (y_asgn rfl) rfl <| ?_
  refine WLs.nil ?_
  refine WEs.then_n ?_
  refine WCs.seq ?_
  refine WCs.seq ?_
  refine WCs.region ?_
  refine WLs.val (y_move rfl) rfl <| WLs.val (y_not rfl) rfl <| ?_
  refine WLs.nil ?_
  refine WEs.then_n ?_
  refine WCs.cond_f rfl rfl ?_
  refine WCs.skip ?_
  refine WEs.then_n ?_
  refine WCs.seq ?_
  refine WCs.region ?_
  refine WLs.val (y_move rfl) rfl <| WLs.val (y_nil rfl) rfl <| WLs.val (y_fld rfl fl232_1) rfl <| WLs.val (y_ld rfl sc230 (Sat.at 0 rfl) (by rfl)) rfl <| ?_
  refine WLs.val (y_move rfl) rfl <| WLs.val (y_ix0 rfl rfl sl230 hi) rfl <| ?_
  refine WLs.val (y_fld rfl fl234_1) rfl <| WLs.val (y_ld rfl sc3 (Sat.at 1 rfl) (by exact slot_get 1 hi (by omega) rfl)) rfl <| ?_
  refine WLs.val (y_asgn rfl) rfl <| WLs.val (y_asgn rfl) rfl <| ?_
  refine WLs.nil ?_
  refine WEs.then_n ?_
  refine WCs.ret ?_
  refine WEs.ret2 (.inr rfl) rfl rfl rfl ?_
  exact fun w hs => ⟨rfl, ringRaw_close hs⟩

theorem ring_Len {w : World} {L : List Asrt} {p : Nat} {R : Ring} {l : Nat} (hs : Sat w (ringRaw p R :: L)) (h : l < R.lists) (hm : R.many.length = R.lists) : Does Tryz.prog 160 [rp p, natv l] w fun v w' => v = natv (R.many.getD l 0) ∧ Sat w' (ringRaw p R :: L) := by
  refine Does.enters hs (n := 16) Tryz.func160 rfl rfl rfl rfl ?_
  refine WCs.seq ?_
  refine WCs.region ?_
  refine WLs.val (y_asgn rfl) rfl <| ?_
  refine WLs.nil ?_
  refine WEs.then_n ?_
  refine WCs.seq ?_
  refine WCs.seq ?_
  refine WCs.region ?_
  refine WLs.val (y_move rfl) rfl <| WLs.val (y_move rfl) rfl <| ?_
  refine WLs.call Tryz.func206 rfl rfl rfl rfl (fun w hs => ring_is_yes hs (by omega) (by omega)) ?_
  rintro v w1 ⟨rfl, hs2⟩
  obtain ⟨⟨bs, bat, bm, fv⟩, hs3⟩ := hs2.exists
  have hm0 : l < R.many.length := by omega
  refine WLs.go (hs3.split : Sat w1 (ringParts p R bs bat bm fv ++ L)) ?_
  refine WLs.val (y_not rfl) rfl <| ?_
  refine WLs.nil ?_
  refine WEs.then_n ?_
  refine WCs.cond_f rfl rfl ?_
  refine WCs.skip ?_
  refine WEs.then_n ?_
  refine WCs.seq ?_
  refine WCs.region ?_
  refine WLs.val (y_move rfl) rfl <| WLs.val (y_nil rfl) rfl <| WLs.val (y_fld rfl fl232_4) rfl <| WLs.val (y_ld rfl sc229 (Sat.at 0 rfl) (by rfl)) rfl <| ?_
  refine WLs.val (y_move rfl) rfl <| WLs.val (y_ix1 rfl rfl sl229 hm0) rfl <| ?_
  refine WLs.val (y_ld rfl sc3 (Sat.at 4 rfl) (nat_get hm0)) rfl <| ?_
  refine WLs.val (y_asgn rfl) rfl <| ?_
  refine WLs.nil ?_
  refine WEs.then_n ?_
  refine WCs.ret ?_
  refine WEs.ret1 (.inr rfl) rfl rfl ?_
  exact fun w hs => ⟨rfl, ringRaw_close hs⟩

theorem ring_Free {w : World} {L : List Asrt} {p : Nat} {R : Ring} (hs : Sat w (ringRaw p R :: L)) : Does Tryz.prog 199 [rp p] w fun v w' => v = natv R.free.length ∧ Sat w' (ringRaw p R :: L) := by
  obtain ⟨⟨bs, bat, bm, fv⟩, hs0⟩ := hs.exists
  have hs1 : Sat w (ringParts p R bs bat bm fv ++ L) := hs0.split
  clear hs hs0
  obtain ⟨fa, fc, rfl⟩ := hs1.lenS 2 rfl
  refine Does.enters hs1 (n := 10) Tryz.func199 rfl rfl rfl rfl ?_
  refine WCs.seq ?_
  refine WCs.region ?_
  refine WLs.val (y_asgn rfl) rfl <| ?_
  refine WLs.nil ?_
  refine WEs.then_n ?_
  refine WCs.seq ?_
  refine WCs.seq ?_
  refine WCs.region ?_
  refine WLs.val (y_move rfl) rfl <| WLs.val (y_peq rfl rfl pt187) rfl <| ?_
  refine WLs.nil ?_
  refine WEs.then_n ?_
  refine WCs.cond_f rfl rfl ?_
  refine WCs.skip ?_
  refine WEs.then_n ?_
  refine WCs.seq ?_
  refine WCs.region ?_
  refine WLs.val (y_move rfl) rfl <| WLs.val (y_nil rfl) rfl <| WLs.val (y_fld rfl fl232_2) rfl <| WLs.val (y_ld rfl sc229 (by first | exact Sat.at 0 rfl | exact Sat.at 1 rfl | exact Sat.at 2 rfl | exact Sat.at 3 rfl | exact Sat.at 4 rfl | exact Sat.at 5 rfl | exact Sat.at 6 rfl) (by rfl)) rfl <| ?_
  refine WLs.val (y_lenL rfl sl229) rfl <| WLs.val (y_asgn rfl) rfl <| ?_
  refine WLs.nil ?_
  refine WEs.then_n ?_
  refine WCs.ret ?_
  refine WEs.ret1 (.inr rfl) rfl rfl ?_
  exact fun w hs => ⟨rfl, ringRaw_close hs⟩

theorem ring_Lists {w : World} {L : List Asrt} {p : Nat} {R : Ring} (hs : Sat w (ringRaw p R :: L)) : Does Tryz.prog 200 [rp p] w fun v w' => v = natv R.lists ∧ Sat w' (ringRaw p R :: L) := by
  obtain ⟨⟨bs, bat, bm, fv⟩, hs0⟩ := hs.exists
  have hs1 : Sat w (ringParts p R bs bat bm fv ++ L) := hs0.split
  clear hs hs0
  refine Does.enters hs1 (n := 9) Tryz.func200 rfl rfl rfl rfl ?_
  refine WCs.seq ?_
  refine WCs.region ?_
  refine WLs.val (y_asgn rfl) rfl <| ?_
  refine WLs.nil ?_
  refine WEs.then_n ?_
  refine WCs.seq ?_
  refine WCs.seq ?_
  refine WCs.region ?_
  refine WLs.val (y_move rfl) rfl <| WLs.val (y_peq rfl rfl pt187) rfl <| ?_
  refine WLs.nil ?_
  refine WEs.then_n ?_
  refine WCs.cond_f rfl rfl ?_
  refine WCs.skip ?_
  refine WEs.then_n ?_
  refine WCs.seq ?_
  refine WCs.region ?_
  refine WLs.val (y_move rfl) rfl <| WLs.val (y_nil rfl) rfl <| WLs.val (y_fld rfl fl232_0) rfl <| WLs.val (y_ld rfl sc3 (by first | exact Sat.at 0 rfl | exact Sat.at 1 rfl | exact Sat.at 2 rfl | exact Sat.at 3 rfl | exact Sat.at 4 rfl | exact Sat.at 5 rfl | exact Sat.at 6 rfl) (by rfl)) rfl <| ?_
  refine WLs.val (y_asgn rfl) rfl <| ?_
  refine WLs.nil ?_
  refine WEs.then_n ?_
  refine WCs.ret ?_
  refine WEs.ret1 (.inr rfl) rfl rfl ?_
  exact fun w hs => ⟨rfl, ringRaw_close hs⟩

theorem ring_Back_no {w : World} {L : List Asrt} {p : Nat} {R : Ring} {l : Nat} (hs : Sat w (ringRaw p R :: L)) (h : l < R.lists) (hm : R.many.length = R.lists) (h0 : R.many.getD l 0 = 0) : Does Tryz.prog 162 [rp p, natv l] w fun v w' => v = .tuple #[str [], .bool false] ∧ Sat w' (ringRaw p R :: L) := by
  refine Does.enters hs (n := 25) Tryz.func162 rfl rfl rfl rfl ?_
  refine WCs.seq ?_
  refine WCs.region ?_
  refine WLs.val (y_asgn rfl) rfl <| WLs.val (y_asgn rfl) rfl <| ?_
  refine WLs.nil ?_
  refine WEs.then_n ?_
  refine WCs.seq ?_
  refine WCs.seq ?_
  refine WCs.region ?_
  refine WLs.val (y_move rfl) rfl <| WLs.val (y_move rfl) rfl <| ?_
  refine WLs.call Tryz.func160 rfl rfl rfl rfl (fun w hs => ring_Len hs h hm) ?_
  rintro v w1 ⟨rfl, hs2⟩
  refine WLs.go hs2 ?_
  refine WLs.val (y_eq rfl rfl (decide_eq_true (by omega))) rfl <| ?_
  refine WLs.nil ?_
  refine WEs.then_n ?_
  refine WCs.cond_t rfl rfl ?_
  refine WCs.seq ?_
  refine WCs.region ?_
  refine WLs.val (y_asgn rfl) rfl <| WLs.val (y_asgn rfl) rfl <| ?_
  refine WLs.nil ?_
  refine WEs.then_n ?_
  refine WCs.ret ?_
  refine WEs.then_ret ?_
  refine WEs.ret2 (.inr rfl) rfl rfl rfl ?_
  exact fun w hs => ⟨rfl, hs⟩

theorem ring_Back_yes {w : World} {L : List Asrt} {p : Nat} {R : Ring} {l : Nat} (hs : Sat w (ringRaw p R :: L)) (h : l < R.lists) (hm : R.many.length = R.lists) (h0 : R.many.getD l 0 ≠ 0) (hls : l < R.slots.length) (hp : (sl R.slots l).prev < R.slots.length) :
    Does Tryz.prog 162 [rp p, natv l] w fun v w' => v = .tuple #[str (sl R.slots (sl R.slots l).prev).key, .bool true] ∧ Sat w' (ringRaw p R :: L) := by
  refine Does.enters hs (n := 25) Tryz.func162 rfl rfl rfl rfl ?_
  refine WCs.seq ?_
  refine WCs.region ?_
  refine WLs.val (y_asgn rfl) rfl <| WLs.val (y_asgn rfl) rfl <| ?_
  refine WLs.nil ?_
  refine WEs.then_n ?_
  refine WCs.seq ?_
  refine WCs.seq ?_
  refine WCs.region ?_
  refine WLs.val (y_move rfl) rfl <| WLs.val (y_move rfl) rfl <| ?_
  refine WLs.call Tryz.func160 rfl rfl rfl rfl (fun w hs => ring_Len hs h hm) ?_
  rintro v w1 ⟨rfl, hs2⟩
  obtain ⟨⟨bs, bat, bm, fv⟩, hs3⟩ := hs2.exists
  refine WLs.go (hs3.split : Sat w1 (ringParts p R bs bat bm fv ++ L)) ?_
  refine WLs.val (y_eq rfl rfl (decide_eq_false (by omega))) rfl <| ?_
  refine WLs.nil ?_
  refine WEs.then_n ?_
  refine WCs.cond_f rfl rfl ?_
  refine WCs.skip ?_
  refine WEs.then_n ?_
  refine WCs.seq ?_
  refine WCs.draw (.one 0 3 (.one 1 3 (.one 2 3 (.one 3 0 (.one 4 3 (.one 5 3 (.one 6 3 (.one 7 0 (.one 8 3 (.one 9 3 (.one 10 3 (.one 11 0 (.one 12 3 (.one 13 3 (.one 14 0 (.one 15 3 (.one 16 3 .nil))))))))))))))))) [] Tryz.mixed (by kernel_rfl) (by kernel_rfl) rfl (Pf.then Pf.body) (fun _ h => h) ?_
  refine WSs.pure rfl (y_move rfl) rfl ?_
  refine WSs.pure rfl (y_nil rfl) rfl ?_
  refine WSs.pure rfl (y_fld rfl fl232_1) rfl ?_
  refine WSs.val rfl (y_ld rfl sc230 (Sat.at 0 rfl) (by rfl)) rfl ?_
  refine WSs.pure rfl (y_move rfl) rfl ?_
  refine WSs.pure rfl (y_nil rfl) rfl ?_
  refine WSs.pure rfl (y_fld rfl fl232_1) rfl ?_
  refine WSs.val rfl (y_ld rfl sc230 (Sat.at 0 rfl) (by rfl)) rfl ?_
  refine WSs.pure rfl (y_move rfl) rfl ?_
  refine WSs.pure rfl (y_ix0 rfl rfl sl230 hls) rfl ?_
  refine WSs.pure rfl (y_fld rfl fl234_2) rfl ?_
  refine WSs.val rfl (y_ld rfl sc3 (Sat.at 1 rfl) (by exact slot_get 2 hls (by omega) rfl)) rfl ?_
  refine WSs.pure rfl (y_ix0 rfl rfl sl230 hp) rfl ?_
  refine WSs.pure rfl (y_fld rfl fl234_0) rfl ?_
  refine WSs.val rfl (y_ld rfl sc9 (Sat.at 1 rfl) (by exact slot_get 0 hp (by omega) rfl)) rfl ?_
  refine WSs.pure rfl (y_asgn rfl) rfl ?_
  refine WSs.pure rfl (y_asgn rfl) rfl ?_
  refine WSs.nil ?_
  refine WEs.then_n ?_
  refine WCs.ret ?_
  refine WEs.ret2 (.inr rfl) rfl rfl rfl ?_
  exact fun w hs => ⟨rfl, ringRaw_close hs⟩

theorem ring_Front_old {w : World} {L : List Asrt} {p : Nat} {R : Ring} {l i : Nat} {k : Str} (hs : Sat w (ringRaw p R :: L)) (h : l < R.lists) (hk : k.length ≤ 64) (hi : mget R.at k = some i) (ok : CutOk R i) (ok2 : LinkOk (R.cut i) i l) :
    Does Tryz.prog 159 [rp p, natv l, str k] w fun v w' => v = .bool true ∧ Sat w' (ringRaw p ((R.cut i).link i l) :: L) := by
  refine Does.enters hs (n := 80) Tryz.func159 rfl rfl rfl rfl ?_
  refine WCs.seq ?_
  refine WCs.region ?_
  refine WLs.val (y_asgn rfl) rfl <| ?_
  refine WLs.nil ?_
  refine WEs.then_n ?_
  refine WCs.seq ?_
  refine WCs.seq ?_
  refine WCs.region ?_
  refine WLs.val (y_move rfl) rfl <| WLs.val (y_move rfl) rfl <| ?_
  refine WLs.call Tryz.func206 rfl rfl rfl rfl (fun w hs => ring_is_yes hs (by omega) (by omega)) ?_
  rintro v w1 ⟨rfl, hs2⟩
  obtain ⟨⟨bs, bat, bm, fv⟩, hs3⟩ := hs2.exists
  refine WLs.go (hs3.split : Sat w1 (ringParts p R bs bat bm fv ++ L)) ?_
  refine WLs.val (y_not rfl) rfl <| WLs.val (y_move rfl) rfl <| WLs.guarded rfl rfl <| WLs.val (y_move rfl) rfl <| WLs.guarded rfl rfl <| WLs.val (y_lenS rfl st9) rfl <| WLs.guarded rfl rfl <| WLs.val (y_gt rfl rfl (decide_eq_false (by omega))) rfl <| ?_
  refine WLs.val (y_pick rfl rfl) rfl <| ?_
  refine WLs.nil ?_
  refine WEs.then_n ?_
  refine WCs.cond_f rfl rfl ?_
  refine WCs.skip ?_
  refine WEs.then_n ?_
  refine WCs.seq ?_
  refine WCs.seq ?_
  refine WCs.region ?_
  refine WLs.val (y_move rfl) rfl <| WLs.val (y_nil rfl) rfl <| WLs.val (y_fld rfl fl232_3) rfl <| WLs.val (y_ld rfl sc228 (Sat.at 0 rfl) (by rfl)) rfl <| ?_
  refine WLs.val (y_move rfl) rfl <| WLs.val (y_look (enc := str) (en := natv) rfl rfl (keyStr st9) mp228 zr3 (Sat.atM 3 rfl) hi) rfl <| ?_
  refine WLs.val (y_move rfl) rfl <| WLs.val (y_ext rfl rfl) rfl <| WLs.val (y_ext rfl rfl) rfl <| WLs.val (y_asgn rfl) rfl <| WLs.val (y_asgn rfl) rfl <| ?_
  refine WLs.nil ?_
  refine WEs.then_n ?_
  refine WCs.seq ?_
  refine WCs.region ?_
  refine WLs.val (y_move rfl) rfl <| ?_
  refine WLs.nil ?_
  refine WEs.then_n ?_
  refine WCs.cond_t rfl rfl ?_
  refine WCs.seq ?_
  refine WCs.region ?_
  refine WLs.val (y_move rfl) rfl <| WLs.val (y_move rfl) rfl <| ?_
  refine WLs.call Tryz.func157 rfl rfl rfl rfl (fun w hs => ring_cut (ringRaw_close hs) ok) ?_
  rintro v w1 ⟨rfl, hs2⟩
  refine WLs.go hs2 ?_
  refine WLs.nil ?_
  refine WEs.then_n ?_
  refine WCs.seq ?_
  refine WCs.region ?_
  refine WLs.val (y_move rfl) rfl <| WLs.val (y_move rfl) rfl <| WLs.val (y_move rfl) rfl <| ?_
  refine WLs.call Tryz.func207 rfl rfl rfl rfl (fun w hs => ring_link hs ok2) ?_
  rintro v w1 ⟨rfl, hs2⟩
  refine WLs.go hs2 ?_
  refine WLs.nil ?_
  refine WEs.then_n ?_
  refine WCs.seq ?_
  refine WCs.region ?_
  refine WLs.val (y_asgn rfl) rfl <| ?_
  refine WLs.nil ?_
  refine WEs.then_n ?_
  refine WCs.ret ?_
  refine WEs.then_ret ?_
  refine WEs.ret1 (.inr rfl) rfl rfl ?_
  exact fun w hs => ⟨rfl, hs⟩

theorem ring_Front_full {w : World} {L : List Asrt} {p : Nat} {R : Ring} {l : Nat} {k : Str} (hs : Sat w (ringRaw p R :: L)) (h : l < R.lists) (hk : k.length ≤ 64) (hi : mget R.at k = none) (hf : R.free = []) :
    Does Tryz.prog 159 [rp p, natv l, str k] w fun v w' => v = .bool false ∧ Sat w' (ringRaw p R :: L) := by
  refine Does.enters hs (n := 80) Tryz.func159 rfl rfl rfl rfl ?_
  refine WCs.seq ?_
  refine WCs.region ?_
  refine WLs.val (y_asgn rfl) rfl <| ?_
  refine WLs.nil ?_
  refine WEs.then_n ?_
  refine WCs.seq ?_
  refine WCs.seq ?_
  refine WCs.region ?_
  refine WLs.val (y_move rfl) rfl <| WLs.val (y_move rfl) rfl <| ?_
  refine WLs.call Tryz.func206 rfl rfl rfl rfl (fun w hs => ring_is_yes hs (by omega) (by omega)) ?_
  rintro v w1 ⟨rfl, hs2⟩
  obtain ⟨⟨bs, bat, bm, fv⟩, hs3⟩ := hs2.exists
  have hs4 : Sat w1 (ringParts p R bs bat bm fv ++ L) := hs3.split
  obtain ⟨fa, fc, rfl⟩ := hs4.lenS 2 rfl
  refine WLs.go hs4 ?_
  refine WLs.val (y_not rfl) rfl <| WLs.val (y_move rfl) rfl <| WLs.guarded rfl rfl <| WLs.val (y_move rfl) rfl <| WLs.guarded rfl rfl <| WLs.val (y_lenS rfl st9) rfl <| WLs.guarded rfl rfl <| WLs.val (y_gt rfl rfl (decide_eq_false (by omega))) rfl <| ?_
  refine WLs.val (y_pick rfl rfl) rfl <| ?_
  refine WLs.nil ?_
  refine WEs.then_n ?_
  refine WCs.cond_f rfl rfl ?_
  refine WCs.skip ?_
  refine WEs.then_n ?_
  refine WCs.seq ?_
  refine WCs.seq ?_
  refine WCs.region ?_
  refine WLs.val (y_move rfl) rfl <| WLs.val (y_nil rfl) rfl <| WLs.val (y_fld rfl fl232_3) rfl <| WLs.val (y_ld rfl sc228 (Sat.at 0 rfl) (by rfl)) rfl <| ?_
  refine WLs.val (y_move rfl) rfl <| WLs.val (y_look (enc := str) (en := natv) rfl rfl (keyStr st9) mp228 zr3 (Sat.atM 3 rfl) hi) rfl <| ?_
  refine WLs.val (y_move rfl) rfl <| WLs.val (y_ext rfl rfl) rfl <| WLs.val (y_ext rfl rfl) rfl <| WLs.val (y_asgn rfl) rfl <| WLs.val (y_asgn rfl) rfl <| ?_
  refine WLs.nil ?_
  refine WEs.then_n ?_
  refine WCs.seq ?_
  refine WCs.region ?_
  refine WLs.val (y_move rfl) rfl <| ?_
  refine WLs.nil ?_
  refine WEs.then_n ?_
  refine WCs.cond_f rfl rfl ?_
  refine WCs.skip ?_
  refine WEs.then_n ?_
  refine WCs.seq ?_
  refine WCs.region ?_
  refine WLs.val (y_move rfl) rfl <| WLs.val (y_nil rfl) rfl <| WLs.val (y_fld rfl fl232_2) rfl <| WLs.val (y_ld rfl sc229 (by first | exact Sat.at 0 rfl | exact Sat.at 1 rfl | exact Sat.at 2 rfl | exact Sat.at 3 rfl | exact Sat.at 4 rfl | exact Sat.at 5 rfl | exact Sat.at 6 rfl) (by rfl)) rfl <| ?_
  refine WLs.val (y_lenL rfl sl229) rfl <| WLs.val (y_asgn rfl) rfl <| ?_
  refine WLs.nil ?_
  refine WEs.then_n ?_
  refine WCs.seq ?_
  refine WCs.seq ?_
  refine WCs.region ?_
  refine WLs.val (y_move rfl) rfl <| WLs.val (y_eq rfl rfl (by rw [hf])) rfl <| ?_
  refine WLs.nil ?_
  refine WEs.then_n ?_
  refine WCs.cond_t rfl rfl ?_
  refine WCs.seq ?_
  refine WCs.region ?_
  refine WLs.val (y_asgn rfl) rfl <| ?_
  refine WLs.nil ?_
  refine WEs.then_n ?_
  refine WCs.ret ?_
  refine WEs.then_ret ?_
  refine WEs.ret1 (.inr rfl) rfl rfl ?_
  exact fun w hs => ⟨rfl, ringRaw_close hs⟩

omit [Env] in
theorem free_split {R : Ring} (hf : R.free ≠ []) (pre spare : List Value) : pre ++ natCells R.free ++ spare = pre ++ natCells (R.free.take (R.free.length - 1)) ++ (natv R.taken :: spare) := by
  obtain ⟨F, i, hF⟩ : ∃ F i, R.free = F ++ [i] := ⟨_, _, (List.dropLast_concat_getLast hf).symm⟩
  have h1 : R.taken = i := by simp [Ring.taken, hF]
  have h2 : R.free.take (R.free.length - 1) = F := by simp [hF]
  rw [h1, h2, hF]; simp [natCells, List.map_append]
omit [Env] in
theorem free_last {R : Ring} (hf : R.free ≠ []) (pre spare : List Value) : (pre ++ natCells R.free ++ spare).toArray[pre.length + (R.free.length - 1)]? = some (natv R.taken) := by
  rw [free_split hf, List.getElem?_toArray]
  have : (pre ++ natCells (R.free.take (R.free.length - 1))).length = pre.length + (R.free.length - 1) := by simp [natCells]
  rw [← this, List.getElem?_append_right (Nat.le_refl _)]; simp
omit [Env] in
theorem free_shut {R : Ring} (hf : R.free ≠ []) (k : Str) {b cap : Nat} {pre spare : List Value} (h : (natCells R.free).length + spare.length = cap * 1) : ∀ g, pt b (.cells (pre ++ natCells R.free ++ spare).toArray 3 (0, 0)) g →
    sliceAt 3 1 (.slice (some ⟨b, pre.length, none⟩) (R.free.length - 1) cap) (R.take1 k).free.length (natCells (R.take1 k).free) g := by
  intro g hg
  have hn : R.free.length ≠ 0 := fun e => hf (List.length_eq_zero_iff.1 e)
  rw [take1_free]
  refine sliceAt_intro (spare := natv R.taken :: spare) (by rw [show (natCells (R.take1 k).free).length = (R.take1 k).free.length by simp [natCells], take1_free]; simp) ?_ g (by rw [free_split hf] at hg; exact hg)
  rw [show (natCells (R.take1 k).free).length = (R.take1 k).free.length by simp [natCells], take1_free]
  simp only [natCells, List.length_map] at h
  simp only [List.length_cons]; omega

theorem ring_Front_new {w : World} {L : List Asrt} {p : Nat} {R : Ring} {l : Nat} {k : Str} (hs : Sat w (ringRaw p R :: L)) (h : l < R.lists) (hk : k.length ≤ 64) (hi : mget R.at k = none) (hf : R.free ≠ []) (hfl : R.free.length ≤ 100000) (htk : R.taken < R.slots.length) (ok : LinkOk (R.take1 k) R.taken l) :
    Does Tryz.prog 159 [rp p, natv l, str k] w fun v w' => v = .bool true ∧ Sat w' (ringRaw p ((R.take1 k).link R.taken l) :: L) := by
  refine Does.enters hs (n := 80) Tryz.func159 rfl rfl rfl rfl ?_
  refine WCs.seq ?_
  refine WCs.region ?_
  refine WLs.val (y_asgn rfl) rfl <| ?_
  refine WLs.nil ?_
  refine WEs.then_n ?_
  refine WCs.seq ?_
  refine WCs.seq ?_
  refine WCs.region ?_
  refine WLs.val (y_move rfl) rfl <| WLs.val (y_move rfl) rfl <| ?_
  refine WLs.call Tryz.func206 rfl rfl rfl rfl (fun w hs => ring_is_yes hs (by omega) (by omega)) ?_
  rintro v w1 ⟨rfl, hs2⟩
  obtain ⟨⟨bs, bat, bm, fv⟩, hs3⟩ := hs2.exists
  have hlen : R.free.length ≠ 0 := fun e => hf (List.length_eq_zero_iff.1 e)
  have hs4 : Sat w1 (ringParts p R bs bat bm fv ++ L) := hs3.split
  obtain ⟨fb, pre, spare, cap, rfl, hc1, hc2, hs5⟩ := hs4.openS 2 rfl hlen
  have hcl : (natCells R.free).length = R.free.length := by simp [natCells]
  clear hs2 hs3 hs4
  refine WLs.go hs5 ?_
  refine WLs.val (y_not rfl) rfl <| WLs.val (y_move rfl) rfl <| WLs.guarded rfl rfl <| WLs.val (y_move rfl) rfl <| WLs.guarded rfl rfl <| WLs.val (y_lenS rfl st9) rfl <| WLs.guarded rfl rfl <| WLs.val (y_gt rfl rfl (decide_eq_false (by omega))) rfl <| ?_
  refine WLs.val (y_pick rfl rfl) rfl <| ?_
  refine WLs.nil ?_
  refine WEs.then_n ?_
  refine WCs.cond_f rfl rfl ?_
  refine WCs.skip ?_
  refine WEs.then_n ?_
  refine WCs.seq ?_
  refine WCs.seq ?_
  refine WCs.region ?_
  refine WLs.val (y_move rfl) rfl <| WLs.val (y_nil rfl) rfl <| WLs.val (y_fld rfl fl232_3) rfl <| WLs.val (y_ld rfl sc228 (Sat.at 0 rfl) (by rfl)) rfl <| ?_
  refine WLs.val (y_move rfl) rfl <| WLs.val (y_look (enc := str) (en := natv) rfl rfl (keyStr st9) mp228 zr3 (Sat.atM 3 rfl) hi) rfl <| ?_
  refine WLs.val (y_move rfl) rfl <| WLs.val (y_ext rfl rfl) rfl <| WLs.val (y_ext rfl rfl) rfl <| WLs.val (y_asgn rfl) rfl <| WLs.val (y_asgn rfl) rfl <| ?_
  refine WLs.nil ?_
  refine WEs.then_n ?_
  refine WCs.seq ?_
  refine WCs.region ?_
  refine WLs.val (y_move rfl) rfl <| ?_
  refine WLs.nil ?_
  refine WEs.then_n ?_
  refine WCs.cond_f rfl rfl ?_
  refine WCs.skip ?_
  refine WEs.then_n ?_
  refine WCs.seq ?_
  refine WCs.region ?_
  refine WLs.val (y_move rfl) rfl <| WLs.val (y_nil rfl) rfl <| WLs.val (y_fld rfl fl232_2) rfl <| WLs.val (y_ld rfl sc229 (by first | exact Sat.at 0 rfl | exact Sat.at 1 rfl | exact Sat.at 2 rfl | exact Sat.at 3 rfl | exact Sat.at 4 rfl | exact Sat.at 5 rfl | exact Sat.at 6 rfl) (by rfl)) rfl <| ?_
  refine WLs.val (y_lenL rfl sl229) rfl <| WLs.val (y_asgn rfl) rfl <| ?_
  refine WLs.nil ?_
  refine WEs.then_n ?_
  refine WCs.seq ?_
  refine WCs.seq ?_
  refine WCs.region ?_
  refine WLs.val (y_move rfl) rfl <| WLs.val (y_eq rfl rfl (decide_eq_false (by omega))) rfl <| ?_
  refine WLs.nil ?_
  refine WEs.then_n ?_
  refine WCs.cond_f rfl rfl ?_
  refine WCs.skip ?_
  refine WEs.then_n ?_
  refine WCs.seq ?_
  refine WCs.region ?_
  refine WLs.val (y_move rfl) rfl <| WLs.val (y_nil rfl) rfl <| WLs.val (y_fld rfl fl232_2) rfl <| WLs.val (y_ld rfl sc229 (by first | exact Sat.at 0 rfl | exact Sat.at 1 rfl | exact Sat.at 2 rfl | exact Sat.at 3 rfl | exact Sat.at 4 rfl | exact Sat.at 5 rfl | exact Sat.at 6 rfl) (by rfl)) rfl <| ?_
  refine WLs.val (y_move rfl) rfl <| WLs.val (y_sub rfl rfl (natv_pred ⟨by omega, hfl⟩)) rfl <| ?_
  refine WLs.val (y_ix1o rfl rfl sl229 (by omega)) rfl <| ?_
  refine WLs.val (y_ld rfl sc3 (Sat.at 2 rfl) (free_last hf pre spare)) rfl <| ?_
  refine WLs.val (y_asgn rfl) rfl <| ?_
  refine WLs.nil ?_
  refine WEs.then_n ?_
  refine WCs.seq ?_
  refine WCs.region ?_
  refine WLs.val (y_move rfl) rfl <| WLs.val (y_move rfl) rfl <| WLs.val (y_nil rfl) rfl <| WLs.val (y_fld rfl fl232_2) rfl <| WLs.val (y_ld rfl sc229 (Sat.at 0 rfl) (by rfl)) rfl <| ?_
  refine WLs.val (y_move rfl) rfl <| WLs.val (y_sub rfl rfl (natv_pred ⟨by omega, hfl⟩)) rfl <| ?_
  refine WLs.val (y_lj rfl rfl sl229 (by omega)) rfl <| ?_
  refine WLs.val (y_nil rfl) rfl <| WLs.val (y_fld rfl fl232_2) rfl <| ?_
  refine WLs.store 0 rfl rfl sz229 rfl (by simp) rfl rfl ?_
  refine WLs.implAt 2 rfl (free_shut hf k hc2) ?_
  refine WLs.nil ?_
  refine WEs.then_n ?_
  refine WCs.seq ?_
  refine WCs.region ?_
  refine WLs.val (y_move rfl) rfl <| WLs.val (y_nil rfl) rfl <| WLs.val (y_fld rfl fl232_1) rfl <| WLs.val (y_ld rfl sc230 (Sat.at 0 rfl) (by rfl)) rfl <| ?_
  refine WLs.val (y_move rfl) rfl <| WLs.val (y_move rfl) rfl <| WLs.val (y_ix0 rfl rfl sl230 htk) rfl <| ?_
  refine WLs.val (y_fld rfl fl234_0) rfl <| ?_
  refine WLs.store 1 rfl rfl sz9 rfl (slot_sz 0 htk (by omega)) rfl (slot_setK htk) ?_
  refine WLs.nil ?_
  refine WEs.then_n ?_
  refine WCs.seq ?_
  refine WCs.region ?_
  refine WLs.val (y_move rfl) rfl <| WLs.val (y_nil rfl) rfl <| WLs.val (y_fld rfl fl232_3) rfl <| WLs.val (y_ld rfl sc228 (Sat.at 0 rfl) (by rfl)) rfl <| ?_
  refine WLs.val (y_move rfl) rfl <| WLs.val (y_move rfl) rfl <| ?_
  refine WLs.mapput (enc := str) (en := natv) 3 rfl rfl rfl (keyStr st9) mp228 rfl ?_
  refine WLs.nil ?_
  refine WEs.then_n ?_
  refine WCs.seq ?_
  refine WCs.region ?_
  refine WLs.val (y_move rfl) rfl <| WLs.val (y_move rfl) rfl <| WLs.val (y_move rfl) rfl <| ?_
  refine WLs.call Tryz.func207 rfl rfl rfl rfl (fun w hs => ring_link (R := R.take1 k) (ringRaw_shut (R := R.take1 k) hs (setK_len _ _ _) rfl) ok) ?_
  rintro v w1 ⟨rfl, hs2⟩
  refine WLs.go hs2 ?_
  refine WLs.nil ?_
  refine WEs.then_n ?_
  refine WCs.seq ?_
  refine WCs.region ?_
  refine WLs.val (y_asgn rfl) rfl <| ?_
  refine WLs.nil ?_
  refine WEs.then_n ?_
  refine WCs.ret ?_
  refine WEs.ret1 (.inr rfl) rfl rfl ?_
  exact fun w hs => ⟨rfl, hs⟩

theorem ring_Drop_no {w : World} {L : List Asrt} {p : Nat} {R : Ring} {k : Str} (hs : Sat w (ringRaw p R :: L)) (h : mget R.at k = none) : Does Tryz.prog 119 [rp p, str k] w fun v w' => v = .bool false ∧ Sat w' (ringRaw p R :: L) := by
  obtain ⟨⟨bs, bat, bm, fv⟩, hs0⟩ := hs.exists
  have hs1 : Sat w (ringParts p R bs bat bm fv ++ L) := hs0.split
  clear hs hs0
  refine Does.enters hs1 (n := 45) Tryz.func119 rfl rfl rfl rfl ?_
  refine WCs.seq ?_
  refine WCs.region ?_
  refine WLs.val (y_asgn rfl) rfl <| ?_
  refine WLs.nil ?_
  refine WEs.then_n ?_
  refine WCs.seq ?_
  refine WCs.seq ?_
  refine WCs.region ?_
  refine WLs.val (y_move rfl) rfl <| WLs.val (y_peq rfl rfl pt187) rfl <| ?_
  refine WLs.nil ?_
  refine WEs.then_n ?_
  refine WCs.cond_f rfl rfl ?_
  refine WCs.skip ?_
  refine WEs.then_n ?_
  refine WCs.seq ?_
  refine WCs.region ?_
  refine WLs.val (y_move rfl) rfl <| WLs.val (y_nil rfl) rfl <| WLs.val (y_fld rfl fl232_3) rfl <| WLs.val (y_ld rfl sc228 (Sat.at 0 rfl) (by rfl)) rfl <| ?_
  refine WLs.val (y_move rfl) rfl <| WLs.val (y_look (enc := str) (en := natv) rfl rfl (keyStr st9) mp228 zr3 (Sat.atM 3 rfl) h) rfl <| ?_
  refine WLs.val (y_move rfl) rfl <| WLs.val (y_ext rfl rfl) rfl <| WLs.val (y_ext rfl rfl) rfl <| WLs.val (y_asgn rfl) rfl <| WLs.val (y_asgn rfl) rfl <| ?_
  refine WLs.nil ?_
  refine WEs.then_n ?_
  refine WCs.seq ?_
  refine WCs.seq ?_
  refine WCs.region ?_
  refine WLs.val (y_move rfl) rfl <| ?_
  refine WLs.nil ?_
  refine WEs.then_n ?_
  refine WCs.cond_f rfl rfl ?_
  refine WCs.skip ?_
  refine WEs.then_n ?_
  refine WCs.seq ?_
  refine WCs.region ?_
  refine WLs.val (y_move rfl) rfl <| WLs.val (y_asgn rfl) rfl <| ?_
  refine WLs.nil ?_
  refine WEs.then_n ?_
  refine WCs.ret ?_
  refine WEs.ret1 (.inr rfl) rfl rfl ?_
  exact fun w hs => ⟨rfl, ringRaw_close hs⟩

omit [Env] in
theorem slot_put {l : List Slot} {i : Nat} (s : Slot) (h : i < l.length) : blit (slotCells l).toArray (i * 4) (Slot.cells s) = (slotCells (l.set i s)).toArray := by
  have h1 : slotCells l = slotCells (l.take i) ++ Slot.cells (sl l i) ++ slotCells (l.drop (i + 1)) := by
    have e := (List.take_append_drop i l).symm
    rw [List.drop_eq_getElem_cons h] at e
    refine (congrArg slotCells e).trans ?_
    unfold slotCells
    rw [List.flatMap_append, List.flatMap_cons, ← List.append_assoc]
    simp only [sl, List.getD_eq_getElem?_getD, List.getElem?_eq_getElem h, Option.getD_some]
  have h2 : slotCells (l.set i s) = slotCells (l.take i) ++ Slot.cells s ++ slotCells (l.drop (i + 1)) := by
    rw [List.set_eq_take_append_cons_drop, if_pos h]
    simp [slotCells]
  have h3 : i * 4 = (slotCells (l.take i)).length := by rw [slotCells_len, List.length_take]; omega
  rw [h1, h2, h3, blit_list (Slot.cells s) (slotCells (l.take i)) (slotCells (l.drop (i + 1))) (Slot.cells (sl l i)) rfl]
def Ring.dropped (R : Ring) (k : Str) (i : Nat) : Ring := { R.cut i with slots := (cutS R.slots i).set i Slot.zero, «at» := mdel R.at k, free := R.free ++ [i] }

theorem ring_Drop_yes {w : World} {L : List Asrt} {p : Nat} {R : Ring} {k : Str} {i : Nat} (hs : Sat w (ringRaw p R :: L)) (h : mget R.at k = some i) (ok : CutOk R i) (hfl : R.free.length ≤ 100000) : Does Tryz.prog 119 [rp p, str k] w fun v w' => v = .bool true ∧ Sat w' (ringRaw p (Ring.dropped R k i) :: L) := by
  obtain ⟨⟨bs, bat, bm, fv⟩, hs0⟩ := hs.exists
  have hs1 : Sat w (ringParts p R bs bat bm fv ++ L) := hs0.split
  clear hs hs0
  refine Does.enters hs1 (n := 45) Tryz.func119 rfl rfl rfl rfl ?_
  refine WCs.seq ?_
  refine WCs.region ?_
  refine WLs.val (y_asgn rfl) rfl <| ?_
  refine WLs.nil ?_
  refine WEs.then_n ?_
  refine WCs.seq ?_
  refine WCs.seq ?_
  refine WCs.region ?_
  refine WLs.val (y_move rfl) rfl <| WLs.val (y_peq rfl rfl pt187) rfl <| ?_
  refine WLs.nil ?_
  refine WEs.then_n ?_
  refine WCs.cond_f rfl rfl ?_
  refine WCs.skip ?_
  refine WEs.then_n ?_
  refine WCs.seq ?_
  refine WCs.region ?_
  refine WLs.val (y_move rfl) rfl <| WLs.val (y_nil rfl) rfl <| WLs.val (y_fld rfl fl232_3) rfl <| WLs.val (y_ld rfl sc228 (Sat.at 0 rfl) (by rfl)) rfl <| ?_
  refine WLs.val (y_move rfl) rfl <| WLs.val (y_look (enc := str) (en := natv) rfl rfl (keyStr st9) mp228 zr3 (Sat.atM 3 rfl) h) rfl <| ?_
  refine WLs.val (y_move rfl) rfl <| WLs.val (y_ext rfl rfl) rfl <| WLs.val (y_ext rfl rfl) rfl <| WLs.val (y_asgn rfl) rfl <| WLs.val (y_asgn rfl) rfl <| ?_
  refine WLs.nil ?_
  refine WEs.then_n ?_
  refine WCs.seq ?_
  refine WCs.seq ?_
  refine WCs.region ?_
  refine WLs.val (y_move rfl) rfl <| ?_
  refine WLs.nil ?_
  refine WEs.then_n ?_
  refine WCs.cond_t rfl rfl ?_
  refine WCs.seq ?_
  refine WCs.region ?_
  refine WLs.val (y_move rfl) rfl <| WLs.val (y_move rfl) rfl <| ?_
  refine WLs.call Tryz.func157 rfl rfl rfl rfl (fun w hs => ring_cut (ringRaw_close hs) ok) ?_
  rintro v w1 ⟨rfl, hs2⟩
  obtain ⟨⟨bs2, bat2, bm2, fv2⟩, hs3⟩ := hs2.exists
  have hs4 : Sat w1 (ringParts p (R.cut i) bs2 bat2 bm2 fv2 ++ L) := hs3.split
  clear hs2 hs3
  have hil : i < (R.cut i).slots.length := by rw [show (R.cut i).slots.length = R.slots.length from cutS_len _ _]; exact ok.hi
  have hfl2 : (R.cut i).free.length ≤ 100000 := hfl
  refine WLs.go hs4 ?_
  refine WLs.nil ?_
  refine WEs.then_n ?_
  refine WCs.seq ?_
  refine WCs.region ?_
  refine WLs.val (y_move rfl) rfl <| WLs.val (y_nil rfl) rfl <| WLs.val (y_fld rfl fl232_3) rfl <| WLs.val (y_ld rfl sc228 (Sat.at 0 rfl) (by rfl)) rfl <| ?_
  refine WLs.val (y_move rfl) rfl <| ?_
  refine WLs.mapdel0 (enc := str) (en := natv) 3 rfl rfl (keyStr st9) mp228 rfl ?_
  refine WLs.nil ?_
  refine WEs.then_n ?_
  refine WCs.seq ?_
  refine WCs.region ?_
  refine WLs.val (y_move rfl) rfl <| WLs.val (y_nil rfl) rfl <| WLs.val (y_fld rfl fl232_1) rfl <| WLs.val (y_ld rfl sc230 (Sat.at 0 rfl) (by rfl)) rfl <| ?_
  refine WLs.val (y_move rfl) rfl <| WLs.val (y_build (is := []) (xs := []) #[] rfl rfl pl234 zr234 rfl) rfl <| ?_
  refine WLs.val (y_ix0 rfl rfl sl230 hil) rfl <| ?_
  refine WLs.storeA 1 rfl rfl sz234 rfl rfl (by rw [List.size_toArray, slotCells_len]; omega) rfl (slot_put Slot.zero hil) ?_
  refine WLs.nil ?_
  refine WEs.then_n ?_
  refine WCs.region ?_
  refine WLs.val (y_move rfl) rfl <| WLs.val (y_move rfl) rfl <| WLs.val (y_nil rfl) rfl <| WLs.val (y_fld rfl fl232_2) rfl <| WLs.val (y_ld rfl sc229 (Sat.at 0 rfl) (by rfl)) rfl <| ?_
  refine WLs.val (y_move rfl) rfl <| ?_
  refine WLs.bslice1 rfl sl229 zr3 rfl rfl rfl rfl (fun b40 => ?_)
  refine WLs.append 3 rfl rfl rfl sl229 by3 zs3 (by omega) (by omega) (fun _ => Src.at (news := [natv i]) 0 rfl sl229 (Nat.le_refl 1) rfl rfl) rfl (fun fv3a fv3c => ?_)
  refine WLs.val (y_nil rfl) rfl <| WLs.val (y_fld rfl fl232_2) rfl <| ?_
  refine WLs.store 1 rfl rfl sz229 rfl (by simp) rfl rfl ?_
  refine WLs.nil ?_
  refine WEs.then_n ?_
  refine WCs.seq ?_
  refine WCs.region ?_
  refine WLs.val (y_move rfl) rfl <| WLs.val (y_asgn rfl) rfl <| ?_
  refine WLs.nil ?_
  refine WEs.then_n ?_
  refine WCs.ret ?_
  refine WEs.ret1 (.inr rfl) rfl rfl ?_
  exact fun w hs => ⟨rfl, ringRaw_shut (R := Ring.dropped R k i) (ns := (R.cut i).slots.length) (nm := (R.cut i).many.length) (by
    have e1 : (Ring.dropped R k i).free.length = R.free.length + 1 := by simp [Ring.dropped]
    have e2 : natCells (Ring.dropped R k i).free = natCells R.free ++ [natv i] := by simp [Ring.dropped, natCells]
    rw [e1, e2]
    exact hs.tail) (List.length_set ..) rfl⟩

omit [Env] in
theorem zero_nats (k : Nat) : (Array.range (k * 1)).map ((Value.int .i64 0).cells[· % (Value.int .i64 0).cells.size]!) = (natCells (List.replicate k 0)).toArray := by
  rw [show k * 1 = k * (Value.int .i64 0).cells.size from rfl, zero_row _ (by simp [Value.cells])]
  congr 1
  induction k with
  | zero => rfl
  | succ k ih => rw [List.replicate_succ, List.flatten_cons, ih]; rfl
omit [Env] in
theorem zero_slots (k : Nat) : (Array.range (k * 4)).map ((Value.agg #[str [], .int .i64 0, .int .i64 0, .int .i64 0]).cells[· % (Value.agg #[str [], .int .i64 0, .int .i64 0, .int .i64 0]).cells.size]!) = (slotCells (List.replicate k Slot.zero)).toArray := by
  rw [show k * 4 = k * (Value.agg #[str [], .int .i64 0, .int .i64 0, .int .i64 0]).cells.size from rfl, zero_row _ (by simp [Value.cells])]
  congr 1
  induction k with
  | zero => rfl
  | succ k ih => rw [List.replicate_succ, List.flatten_cons, ih]; rfl
/-- New's memory on its way -/
def newParts (lists n bs bat bm p k : Nat) (fv : Value) (free : List Nat) : List Asrt :=
  [pt p (.cells #[natv lists, .slice (some ⟨bs, 0, none⟩) n n, fv, .map (some bat), .slice (some ⟨bm, 0, none⟩) lists lists] 232 (0, 0)),
   pt bs (.cells (slotCells (initS n lists)).toArray 234 (0, 0)), sliceAt 3 1 fv k (natCells free), mapAt str natv bat [], pt bm (.cells (natCells (List.replicate lists 0)).toArray 3 (0, 0))]

theorem ring_New {w : World} {L : List Asrt} {lists places : Nat} (hs : Sat w L) (h1 : 1 ≤ lists) (h8 : lists ≤ 8) (hp : places ≤ 4096) :
    Does Tryz.prog 111 [natv lists, natv places] w fun v w' => ∃ p, v = .tuple #[rp p, .int .i64 0] ∧ Sat w' (ringRaw p (Ring.new lists places) :: L) := by
  refine Does.enters hs (n := 67) Tryz.func111 rfl rfl rfl rfl ?_
  refine WCs.seq ?_
  refine WCs.region ?_
  refine WLs.val (y_asgn rfl) rfl <| WLs.val (y_asgn rfl) rfl <| ?_
  refine WLs.nil ?_
  refine WEs.then_n ?_
  refine WCs.seq ?_
  refine WCs.seq ?_
  refine WCs.region ?_
  refine WLs.val (y_move rfl) rfl <| WLs.val (y_lt rfl rfl (decide_eq_false (by omega))) rfl <| ?_
  refine WLs.val (y_move rfl) rfl <| WLs.guarded rfl rfl <| WLs.val (y_move rfl) rfl <| WLs.guarded rfl rfl <| WLs.val (y_gt rfl rfl (decide_eq_false (by omega))) rfl <| ?_
  refine WLs.val (y_pick rfl rfl) rfl <| WLs.val (y_move rfl) rfl <| WLs.guarded rfl rfl <| WLs.val (y_move rfl) rfl <| WLs.guarded rfl rfl <| WLs.val (y_lt rfl rfl (decide_eq_false (by omega))) rfl <| ?_
  refine WLs.val (y_pick rfl rfl) rfl <| WLs.val (y_move rfl) rfl <| WLs.guarded rfl rfl <| WLs.val (y_move rfl) rfl <| WLs.guarded rfl rfl <| WLs.val (y_gt rfl rfl (decide_eq_false (by omega))) rfl <| ?_
  refine WLs.val (y_pick rfl rfl) rfl <| ?_
  refine WLs.nil ?_
  refine WEs.then_n ?_
  refine WCs.cond_f rfl rfl ?_
  refine WCs.skip ?_
  refine WEs.then_n ?_
  refine WCs.seq ?_
  refine WCs.cut (fun (s : Nat × Nat × Nat × Nat) => [(0, natv lists), (1, natv places), (6, rp s.1)]) (fun (s : Nat × Nat × Nat × Nat) => [pt s.1 (.cells #[natv lists, .slice (some ⟨s.2.1, 0, none⟩) (lists + places) (lists + places), .slice none 0 0, .map (some s.2.2.1), .slice (some ⟨s.2.2.2, 0, none⟩) lists lists] 232 (0, 0)), pt s.2.1 (.cells (slotCells (List.replicate (lists + places) Slot.zero)).toArray 234 (0, 0)), pt s.2.2.1 (.map #[] 0), pt s.2.2.2 (.cells (natCells (List.replicate lists 0)).toArray 3 (0, 0))] ++ L) ?_ ?_
  · refine WCs.draw (K := []) (.one 0 3 (.one 2 3 (.one 4 3 (.one 5 3 (.one 6 3 (.three 1 (.two 3 (.one 7 1 (.one 8 3 (.one 9 1 (.one 10 3 .nil)))) 7 (.one 3 1 (.one 8 3 (.one 9 1 (.one 10 3 .nil))))) 3 (.two 1 (.one 7 1 (.one 8 3 (.one 9 1 (.one 10 3 .nil)))) 7 (.one 1 1 (.one 8 3 (.one 9 1 (.one 10 3 .nil))))) 7 (.two 1 (.one 3 1 (.one 8 3 (.one 9 1 (.one 10 3 .nil)))) 3 (.one 1 1 (.one 8 3 (.one 9 1 (.one 10 3 .nil))))))))))) [] Tryz.mixed (by kernel_rfl) (by kernel_rfl) rfl Pf.mid (fun _ h => h.empt) ?_
    refine WSs.pure rfl (y_move rfl) rfl ?_
    refine WSs.pure rfl (y_move rfl) rfl ?_
    refine WSs.pure rfl (y_move rfl) rfl ?_
    refine WSs.pure rfl (y_move rfl) rfl ?_
    refine WSs.pure rfl (y_add rfl rfl ((wrap_i64 (by omega)).trans (Int.natCast_add lists places).symm)) rfl ?_
    refine WSs.three ?_ ?_ ?_ 
    · refine WSs.mkmap rfl rfl (fun _ h => h.empt) (fun b24 => ?_)
      refine WSs.two ?_ ?_ 
      · refine WSs.mkslice rfl rfl rfl sl229 zr3 rfl by3 (by omega) (by omega) rfl (fun _ h => h.empt) (zero_nats lists) (fun b26 => ?_)
        refine WSs.mkslice rfl rfl rfl sl230 zr234 rfl by234 (by omega) (by omega) rfl (fun _ h => h.empt) (zero_slots (lists + places)) (fun b30 => ?_)
        refine WSs.pure rfl (y_build (is := [0, 3, 4, 1]) (xs := [.tmp 23, .tmp 24, .tmp 26, .tmp 30]) #[(0, .tmp 23), (3, .tmp 24), (4, .tmp 26), (1, .tmp 30)] rfl rfl pl232 zr232 rfl) rfl ?_
        refine WSs.box rfl rfl rfl (fun _ h => h.empt) (fun b32 => ?_)
        refine WSs.pure rfl (y_asgn rfl) rfl ?_
        refine WSs.nil ?_
        exact WEs.mid (b32, b30, b24, b26) (by repeat (first | exact Cov.nil _ | refine Cov.cons rfl ?_)) (fun w hs => (hs.selN 4 [0, 1, 3, 2] (by decide)))
      · refine WSs.mkslice rfl rfl rfl sl230 zr234 rfl by234 (by omega) (by omega) rfl (fun _ h => h.empt) (zero_slots (lists + places)) (fun b30 => ?_)
        refine WSs.mkslice rfl rfl rfl sl229 zr3 rfl by3 (by omega) (by omega) rfl (fun _ h => h.empt) (zero_nats lists) (fun b26 => ?_)
        refine WSs.pure rfl (y_build (is := [0, 3, 4, 1]) (xs := [.tmp 23, .tmp 24, .tmp 26, .tmp 30]) #[(0, .tmp 23), (3, .tmp 24), (4, .tmp 26), (1, .tmp 30)] rfl rfl pl232 zr232 rfl) rfl ?_
        refine WSs.box rfl rfl rfl (fun _ h => h.empt) (fun b32 => ?_)
        refine WSs.pure rfl (y_asgn rfl) rfl ?_
        refine WSs.nil ?_
        exact WEs.mid (b32, b30, b24, b26) (by repeat (first | exact Cov.nil _ | refine Cov.cons rfl ?_)) (fun w hs => (hs.selN 4 [0, 2, 3, 1] (by decide)))
    · refine WSs.mkslice rfl rfl rfl sl229 zr3 rfl by3 (by omega) (by omega) rfl (fun _ h => h.empt) (zero_nats lists) (fun b26 => ?_)
      refine WSs.two ?_ ?_ 
      · refine WSs.mkmap rfl rfl (fun _ h => h.empt) (fun b24 => ?_)
        refine WSs.mkslice rfl rfl rfl sl230 zr234 rfl by234 (by omega) (by omega) rfl (fun _ h => h.empt) (zero_slots (lists + places)) (fun b30 => ?_)
        refine WSs.pure rfl (y_build (is := [0, 3, 4, 1]) (xs := [.tmp 23, .tmp 24, .tmp 26, .tmp 30]) #[(0, .tmp 23), (3, .tmp 24), (4, .tmp 26), (1, .tmp 30)] rfl rfl pl232 zr232 rfl) rfl ?_
        refine WSs.box rfl rfl rfl (fun _ h => h.empt) (fun b32 => ?_)
        refine WSs.pure rfl (y_asgn rfl) rfl ?_
        refine WSs.nil ?_
        exact WEs.mid (b32, b30, b24, b26) (by repeat (first | exact Cov.nil _ | refine Cov.cons rfl ?_)) (fun w hs => (hs.selN 4 [0, 1, 2, 3] (by decide)))
      · refine WSs.mkslice rfl rfl rfl sl230 zr234 rfl by234 (by omega) (by omega) rfl (fun _ h => h.empt) (zero_slots (lists + places)) (fun b30 => ?_)
        refine WSs.mkmap rfl rfl (fun _ h => h.empt) (fun b24 => ?_)
        refine WSs.pure rfl (y_build (is := [0, 3, 4, 1]) (xs := [.tmp 23, .tmp 24, .tmp 26, .tmp 30]) #[(0, .tmp 23), (3, .tmp 24), (4, .tmp 26), (1, .tmp 30)] rfl rfl pl232 zr232 rfl) rfl ?_
        refine WSs.box rfl rfl rfl (fun _ h => h.empt) (fun b32 => ?_)
        refine WSs.pure rfl (y_asgn rfl) rfl ?_
        refine WSs.nil ?_
        exact WEs.mid (b32, b30, b24, b26) (by repeat (first | exact Cov.nil _ | refine Cov.cons rfl ?_)) (fun w hs => (hs.selN 4 [0, 2, 1, 3] (by decide)))
    · refine WSs.mkslice rfl rfl rfl sl230 zr234 rfl by234 (by omega) (by omega) rfl (fun _ h => h.empt) (zero_slots (lists + places)) (fun b30 => ?_)
      refine WSs.two ?_ ?_ 
      · refine WSs.mkmap rfl rfl (fun _ h => h.empt) (fun b24 => ?_)
        refine WSs.mkslice rfl rfl rfl sl229 zr3 rfl by3 (by omega) (by omega) rfl (fun _ h => h.empt) (zero_nats lists) (fun b26 => ?_)
        refine WSs.pure rfl (y_build (is := [0, 3, 4, 1]) (xs := [.tmp 23, .tmp 24, .tmp 26, .tmp 30]) #[(0, .tmp 23), (3, .tmp 24), (4, .tmp 26), (1, .tmp 30)] rfl rfl pl232 zr232 rfl) rfl ?_
        refine WSs.box rfl rfl rfl (fun _ h => h.empt) (fun b32 => ?_)
        refine WSs.pure rfl (y_asgn rfl) rfl ?_
        refine WSs.nil ?_
        exact WEs.mid (b32, b30, b24, b26) (by repeat (first | exact Cov.nil _ | refine Cov.cons rfl ?_)) (fun w hs => (hs.selN 4 [0, 3, 2, 1] (by decide)))
      · refine WSs.mkslice rfl rfl rfl sl229 zr3 rfl by3 (by omega) (by omega) rfl (fun _ h => h.empt) (zero_nats lists) (fun b26 => ?_)
        refine WSs.mkmap rfl rfl (fun _ h => h.empt) (fun b24 => ?_)
        refine WSs.pure rfl (y_build (is := [0, 3, 4, 1]) (xs := [.tmp 23, .tmp 24, .tmp 26, .tmp 30]) #[(0, .tmp 23), (3, .tmp 24), (4, .tmp 26), (1, .tmp 30)] rfl rfl pl232 zr232 rfl) rfl ?_
        refine WSs.box rfl rfl rfl (fun _ h => h.empt) (fun b32 => ?_)
        refine WSs.pure rfl (y_asgn rfl) rfl ?_
        refine WSs.nil ?_
        exact WEs.mid (b32, b30, b24, b26) (by repeat (first | exact Cov.nil _ | refine Cov.cons rfl ?_)) (fun w hs => (hs.selN 4 [0, 3, 1, 2] (by decide)))
  · rintro ⟨p, bs, bat, bm⟩
    refine WEs.then_n ?_
    refine WCs.seq ?_
    refine WCs.seq ?_
    refine WCs.region ?_
    refine WLs.val (y_move rfl) rfl <| WLs.val (y_move rfl) rfl <| ?_
    refine WLs.nil ?_
    refine WEs.then_n ?_
    refine WCs.block ?_
    refine WCs.loop (fun i : Nat => [(0, natv lists), (1, natv places), (6, rp p), (33, natv lists), (34, natv i)]) (fun i => [pt p (.cells #[natv lists, .slice (some ⟨bs, 0, none⟩) (lists + places) (lists + places), .slice none 0 0, .map (some bat), .slice (some ⟨bm, 0, none⟩) lists lists] 232 (0, 0)), pt bs (.cells (slotCells (initS (lists + places) (min i lists))).toArray 234 (0, 0)), pt bat (.map #[] 0), pt bm (.cells (natCells (List.replicate lists 0)).toArray 3 (0, 0))] ++ L) (fun i => lists - i) 0 (fun w hs => hs) (by repeat (first | exact Cov.nil _ | refine Cov.cons rfl ?_)) ?_
    intro i
    refine WCs.seq ?_
    refine WCs.region ?_
    refine WLs.val (y_lt rfl rfl rfl) rfl <| ?_
    refine WLs.nil ?_
    refine WEs.then_n ?_
    refine WCs.seq ?_
    refine WCs.cond rfl (fun hc => ?_) (fun hc => ?_)
    · have hlt : (i : Int) < lists := of_decide_eq_true hc
      refine WCs.skip ?_
      refine WEs.then_n ?_
      refine WCs.seq ?_
      refine WCs.block ?_
      refine WCs.seq ?_
      refine WCs.region ?_
      refine WLs.val (y_move rfl) rfl <| WLs.val (y_asgn rfl) rfl <| ?_
      refine WLs.nil ?_
      refine WEs.then_n ?_
      refine WCs.region ?_
      refine WLs.val (y_move rfl) rfl <| WLs.val (y_nil rfl) rfl <| WLs.val (y_fld rfl fl232_1) rfl <| WLs.val (y_ld rfl sc230 (Sat.at 0 rfl) (by rfl)) rfl <| ?_
      refine WLs.val (y_move rfl) rfl <| WLs.val (y_move rfl) rfl <| WLs.val (y_move rfl) rfl <| WLs.val (y_move rfl) rfl <| WLs.val (y_build (is := [1, 2, 3]) (xs := [.tmp 42, .tmp 43, .tmp 44]) #[(1, .tmp 42), (2, .tmp 43), (3, .tmp 44)] rfl rfl pl234 zr234 rfl) rfl <| ?_
      refine WLs.val (y_ix0 rfl rfl sl230 (by omega)) rfl <| ?_
      refine WLs.storeA 1 rfl rfl sz234 rfl rfl (by rw [List.size_toArray, slotCells_len, initS_len (by omega)]; omega) rfl (slot_put ⟨[], i, i, i⟩ (by rw [initS_len (by omega)]; omega)) ?_
      refine WLs.nil ?_
      refine WEs.in_n ?_
      refine WEs.then_n ?_
      refine WCs.region ?_
      refine WLs.val (y_add rfl rfl (natv_succ (by omega))) rfl <| ?_
      refine WLs.val (y_move rfl) rfl <| ?_
      refine WLs.nil ?_
      refine WEs.round (i + 1) (by repeat (first | exact Cov.nil _ | refine Cov.cons rfl ?_)) (fun w hs => ?_) (by omega)
      have e1 : min i lists = i := by omega
      have e2 : min (i + 1) lists = i + 1 := by omega
      rw [e1] at hs
      rw [e2, ← initS_set (by omega)]; exact hs
    · refine WCs.exit ?_
      refine WEs.then_exit ?_
      refine WEs.then_exit ?_
      refine WEs.in_same ?_
      refine WEs.then_n ?_
      refine WCs.seq ?_
      refine WCs.seq ?_
      refine WCs.region ?_
      refine WLs.val (y_move rfl) rfl <| WLs.val (y_sub rfl rfl (by rw [wrap_i64 (by omega)])) rfl <| ?_
      refine WLs.val (y_asgn rfl) rfl <| ?_
      refine WLs.nil ?_
      refine WEs.then_n ?_
      refine WCs.block ?_
      have hil : min i lists = lists := by have := of_decide_eq_false hc; omega
      rw [hil]
      refine WCs.loop (σ := { s : Nat × Option Addr × Nat // s.1 ≤ places }) (fun s => [(0, natv lists), (6, rp p), (8, .int .i64 ((places : Int) - 1 - (s.1.1 : Nat)))]) (fun s => newParts lists (lists + places) bs bat bm p s.1.1 (.slice s.1.2.1 s.1.1 s.1.2.2) (freeInit lists places s.1.1) ++ L) (fun s => places + 1 - s.1.1) ⟨(0, none, 0), Nat.zero_le _⟩ (fun w hs => ?_) (by repeat (first | exact Cov.nil _ | refine Cov.cons (by first | rfl | (simp [RS.get]; done)) ?_)) ?_
      · exact ((hs.emp.selN 5 [1, 2, 0, 3, 4] (by decide)).implAt 2 rfl (sliceAt_nil 3 1)).implAt 3 rfl (mapAt_new str natv bat)
      rintro ⟨⟨k, a, c⟩, hk⟩
      refine WCs.seq ?_
      refine WCs.seq ?_
      refine WCs.region ?_
      refine WLs.val (y_move rfl) rfl <| WLs.val (y_ge rfl rfl rfl) rfl <| ?_
      refine WLs.nil ?_
      refine WEs.then_n ?_
      refine WCs.cond rfl (fun hc2 => ?_) (fun hc2 => ?_)
      · have h0 : 0 ≤ (places : Int) - 1 - (k : Nat) := of_decide_eq_true hc2
        refine WCs.skip ?_
        refine WEs.then_n ?_
        refine WCs.seq ?_
        refine WCs.block ?_
        refine WCs.region ?_
        refine WLs.val (y_move rfl) rfl <| WLs.val (y_move rfl) rfl <| WLs.val (y_nil rfl) rfl <| WLs.val (y_fld rfl fl232_2) rfl <| WLs.val (y_ld rfl sc229 (Sat.at 0 rfl) (by rfl)) rfl <| ?_
        refine WLs.val (y_move rfl) rfl <| WLs.val (y_move rfl) rfl <| WLs.val (y_add rfl rfl (show IntKind.i64.wrap ((lists : Int) + ((places : Int) - 1 - (k : Nat))) = ((lists + places - 1 - k : Nat) : Int) by rw [wrap_i64 (by omega)]; omega)) rfl <| ?_
        refine WLs.bslice1 rfl sl229 zr3 rfl rfl rfl rfl (fun b62 => ?_)
        refine WLs.append 3 rfl rfl rfl sl229 by3 zs3 (by simp only []; omega) (by simp only []; omega) (fun _ => Src.at (news := [natv (lists + places - 1 - k)]) 0 rfl sl229 (Nat.le_refl 1) rfl rfl) rfl (fun fva fvc => ?_)
        refine WLs.val (y_nil rfl) rfl <| WLs.val (y_fld rfl fl232_2) rfl <| ?_
        refine WLs.store 1 rfl rfl sz229 rfl (by simp) rfl rfl ?_
        refine WLs.nil ?_
        refine WEs.in_n ?_
        refine WEs.then_n ?_
        refine WCs.region ?_
        refine WLs.val (y_move rfl) rfl <| WLs.val (y_sub rfl rfl (show IntKind.i64.wrap ((places : Int) - 1 - (k : Nat) - 1) = (places : Int) - 1 - ((k + 1 : Nat) : Int) by rw [wrap_i64 (by omega)]; omega)) rfl <| ?_
        refine WLs.val (y_asgn rfl) rfl <| ?_
        refine WLs.nil ?_
        refine WEs.round ⟨(k + 1, fva, fvc), by simp only []; omega⟩ (by repeat (first | exact Cov.nil _ | refine Cov.cons rfl ?_)) (fun w hs => ?_) (by show places + 1 - (k + 1) < places + 1 - k; omega)
        have e : natCells (freeInit lists places (k + 1)) = natCells (freeInit lists places k) ++ [natv (lists + places - 1 - k)] := by simp [freeInit, natCells, List.range_succ]
        unfold newParts
        rw [e]; exact hs.tail
      · refine WCs.exit ?_
        refine WEs.then_exit ?_
        refine WEs.then_exit ?_
        refine WEs.in_same ?_
        refine WEs.then_n ?_
        refine WCs.seq ?_
        refine WCs.region ?_
        refine WLs.val (y_move rfl) rfl <| WLs.val (y_asgn rfl) rfl <| WLs.val (y_asgn rfl) rfl <| ?_
        refine WLs.nil ?_
        refine WEs.then_n ?_
        refine WCs.ret ?_
        refine WEs.ret2 (.inr rfl) rfl rfl rfl ?_
        have hkp : k = places := by
          have h9 : ¬ 0 ≤ (places : Int) - 1 - (k : Nat) := of_decide_eq_false hc2
          omega
        subst hkp
        exact fun w hs => ⟨p, rfl, ringRaw_shut (R := Ring.new lists k) (by
          have e : (Ring.new lists k).free.length = k := by simp [Ring.new, freeInit]
          rw [e]; exact hs) (initS_len (by omega)) (by simp [Ring.new])⟩
end Go.Proofs.YteoplijfofohkaaGreat
