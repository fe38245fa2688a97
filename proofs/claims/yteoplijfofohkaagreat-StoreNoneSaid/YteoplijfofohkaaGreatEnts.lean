/- The contract of Entries. -/
import Derived.Test.YteoplijfofohkaaGreatApply
import Derived.Test.YteoplijfofohkaaGreatOp5
namespace Go.Proofs.YteoplijfofohkaaGreat
open Go Go.Sx Go.Hw
theorem by105 : tBytes Tryz.prog 105 48 = true := by kernel_rfl
theorem sl31 : tSlice Tryz.prog 31 105 4 = true := by kernel_rfl
theorem zs105 : ∃ z, tZero Tryz.prog 105 z ∧ z.cells.size = 4 := ⟨_, zr105, rfl⟩
variable [Env]
def entOf (m : Tab) (k : Str) : Entry := (mget m k).getD Entry.zero
def entsC (l : List Entry) : List Value := l.flatMap fun e => (entC e).toList
/-- a table's entries, by their keys in order -/
def entsOf (m : Tab) : List Entry := (keysOf m).map (entOf m)
omit [Env] in
theorem entsC_len (l : List Entry) : (entsC l).length = l.length * 4 := by
  induction l with
  | nil => rfl
  | cons e l ih => simp only [entsC, List.flatMap_cons, List.length_append, List.length_cons] at *; rw [ih]; simp [entC]; omega
omit [Env] in
theorem entsC_snoc (l : List Entry) (e : Entry) : entsC (l ++ [e]) = entsC l ++ (entC e).toList := by simp [entsC]
omit [Env] in
theorem ents_take {m : Tab} {i : Nat} (hi : i < (keysOf m).length) : (entsOf m).take (i + 1) = (entsOf m).take i ++ [entOf m ((keysOf m).getD i [])] := by
  unfold entsOf
  rw [List.take_add_one, List.getElem?_map, List.getElem?_eq_getElem hi]
  simp [hi]

theorem store_Entries {w : World} {L : List Asrt} {bt pt' pp bs ps : Nat} {S : Sto} (hs : Sat w (stoL bt pt' pp bs ps S L)) (ht : TInv S.tab) (hne : 1 ≤ S.tab.length) : Does Tryz.prog 22 [rp ps] w fun v w' => Sat w' (sliceAt 105 4 v S.tab.length (entsC (entsOf S.tab)) :: stoL bt pt' pp bs ps S L) := by
  have hkl : (keysOf S.tab).length = S.tab.length := by unfold keysOf; rw [List.length_mergeSort, List.length_map]
  have hfew := ht.few
  refine Does.enters hs (n := 35) Tryz.func22 rfl rfl rfl rfl ?_
  refine WCs.seq ?_
  refine WCs.region ?_
  refine WLs.val (y_asgn rfl) rfl <| ?_
  refine WLs.nil ?_
  refine WEs.then_n ?_
  refine WCs.seq ?_
  refine WCs.seq ?_
  refine WCs.region ?_
  refine WLs.val (y_move rfl) rfl <| WLs.val (y_peq rfl rfl pt27) rfl <| ?_
  refine WLs.nil ?_
  refine WEs.then_n ?_
  refine WCs.cond_f rfl rfl ?_
  refine WCs.skip ?_
  refine WEs.then_n ?_
  refine WCs.seq ?_
  refine WCs.region ?_
  refine WLs.val (y_asgn rfl) rfl <| ?_
  refine WLs.nil ?_
  refine WEs.then_n ?_
  refine WCs.seq ?_
  refine WCs.seq ?_
  refine WCs.region ?_
  refine WLs.val (y_move rfl) rfl <| WLs.val (y_nil rfl) rfl <| WLs.val (y_fld rfl fl94_1) rfl <| WLs.val (y_ld rfl sc90 (Sat.at 4 rfl) (by rfl)) rfl <| ?_
  refine WLs.call Tryz.func53 rfl rfl rfl rfl (fun w hs => table_Keys hs ht) ?_
  rintro v14 w14 hs14
  obtain ⟨g, pre, spare, cap, rfl, he, hcap, hs14⟩ := hs14.openS 0 rfl (by omega)
  refine WLs.go hs14 ?_
  refine WLs.val (y_lenL rfl sl97) rfl <| WLs.val (y_move rfl) rfl <| ?_
  refine WLs.nil ?_
  refine WEs.then_n ?_
  refine WCs.block ?_
  refine WCs.loop (σ := { s : Nat × Option Addr × Nat // s.1 ≤ (keysOf S.tab).length }) (fun s => [(0, rp ps), (3, .slice s.1.2.1 s.1.1 s.1.2.2), (14, .slice (some ⟨g, pre.length, none⟩) S.tab.length cap), (15, .int .i64 S.tab.length), (16, natv s.1.1)]) (fun s => sliceAt 105 4 (.slice s.1.2.1 s.1.1 s.1.2.2) s.1.1 (entsC ((entsOf S.tab).take s.1.1)) :: pt g (.cells (pre ++ (keysOf S.tab).map str ++ spare).toArray 9 (0, 0)) :: stoL bt pt' pp bs ps S L) (fun s => S.tab.length - s.1.1) ⟨(0, none, 0), Nat.zero_le _⟩ (fun w hs => hs.emp.implAt 0 rfl (sliceAt_nil 105 4)) (by repeat (first | exact Cov.nil _ | refine Cov.cons rfl ?_)) ?_
  rintro ⟨⟨i, a, c⟩, hi⟩
  dsimp only at hi
  refine WCs.seq ?_
  refine WCs.region ?_
  refine WLs.val (y_lt rfl rfl rfl) rfl <| ?_
  refine WLs.nil ?_
  refine WEs.then_n ?_
  refine WCs.seq ?_
  refine WCs.cond rfl (fun hcc => ?_) (fun hcc => ?_)
  · have hlt : i < S.tab.length := Int.ofNat_lt.1 (of_decide_eq_true hcc)
    obtain ⟨y, hg⟩ := mget_of_mem (m := S.tab) (k := (keysOf S.tab).getD i []) (mem_keysOf.1 (by rw [List.getD_eq_getElem?_getD, List.getElem?_eq_getElem (by omega)]; simp))
    refine WCs.skip ?_
    refine WEs.then_n ?_
    refine WCs.seq ?_
    refine WCs.block ?_
    refine WCs.seq ?_
    refine WCs.region ?_
    refine WLs.val (y_ix rfl rfl sl97 (by dsimp only; omega)) rfl <| ?_
    refine WLs.val (y_ld rfl sc9 (Sat.at 1 rfl) (show _ = some (str ((keysOf S.tab).getD i [])) from cellGet (i := i) (by omega))) rfl <| ?_
    refine WLs.val (y_asgn rfl) rfl <| ?_
    refine WLs.nil ?_
    refine WEs.then_n ?_
    refine WCs.seq ?_
    refine WCs.region ?_
    refine WLs.val (y_move rfl) rfl <| WLs.val (y_nil rfl) rfl <| WLs.val (y_fld rfl fl94_1) rfl <| WLs.val (y_ld rfl sc90 (Sat.at 6 rfl) (by rfl)) rfl <| ?_
    refine WLs.val (y_move rfl) rfl <| ?_
    refine WLs.callE Tryz.func54 rfl rfl rfl rfl (fun w hs => (table_Get_yes (m := S.tab) (b := bt) (p := pt') (L := _ :: _ :: _ :: _ :: _ :: L) (hs.selN 7 [2, 3, 0, 1, 4, 5, 6] (by decide)) hg).mono fun v w h => ⟨h.1, h.2.selN 7 [2, 3, 0, 1, 4, 5, 6] (by decide)⟩) ?_
    refine WLs.val (y_move rfl) rfl <| WLs.val (y_ext rfl rfl) rfl <| WLs.val (y_ext rfl rfl) rfl <| ?_
    refine WLs.alloc zr105 rfl (fun e => ?_)
    refine WLs.storeA 0 rfl rfl sz105 rfl rfl (Nat.le_of_ble_eq_true rfl) rfl rfl ?_
    refine WLs.val (y_asgn rfl) rfl <| ?_
    refine WLs.nil ?_
    refine WEs.then_n ?_
    refine WCs.region ?_
    refine WLs.val (y_move rfl) rfl <| WLs.val (y_ldA rfl ag105 (Sat.at 0 rfl) (Nat.le_of_ble_eq_true rfl) (by rfl)) rfl <| ?_
    refine WLs.bslice1 rfl sl31 zr105 rfl rfl rfl rfl (fun x => ?_)
    refine WLs.append 2 rfl rfl rfl sl31 by105 zs105 (by dsimp only; omega) (by dsimp only; omega) (fun _ => Src.at (news := (entC y).toList) 0 rfl sl31 (Nat.le_refl 4) rfl rfl) rfl (fun fa fc => ?_)
    refine WLs.val (y_asgn rfl) rfl <| ?_
    refine WLs.nil ?_
    refine WEs.in_n ?_
    refine WEs.then_n ?_
    refine WCs.region ?_
    refine WLs.val (y_add rfl rfl (natv_succ (by dsimp only; omega))) rfl <| ?_
    refine WLs.val (y_move rfl) rfl <| ?_
    refine WLs.nil ?_
    refine WEs.round ⟨(i + 1, fa, fc), by dsimp only; omega⟩ (by repeat (first | exact Cov.nil _ | refine Cov.cons rfl ?_)) (fun w hs => ?_) (by show S.tab.length - (i + 1) < S.tab.length - i; omega)
    have e1 : entsC ((entsOf S.tab).take (i + 1)) = entsC ((entsOf S.tab).take i) ++ (entC y).toList := by rw [ents_take (by omega), entsC_snoc]; congr 2; unfold entOf; rw [hg]; rfl
    dsimp only
    rw [e1]
    exact hs.selN 9 [2, 3, 4, 5, 6, 7, 8] (by decide)
  · refine WCs.exit ?_
    refine WEs.then_exit ?_
    refine WEs.then_exit ?_
    refine WEs.in_same ?_
    refine WEs.then_n ?_
    refine WCs.seq ?_
    refine WCs.region ?_
    refine WLs.val (y_move rfl) rfl <| WLs.val (y_asgn rfl) rfl <| ?_
    refine WLs.nil ?_
    refine WEs.then_n ?_
    refine WCs.ret ?_
    refine WEs.ret1 (.inr rfl) rfl rfl ?_
    intro w hs
    have hin : i = S.tab.length := by have : ¬ i < S.tab.length := fun h => of_decide_eq_false hcc (Int.ofNat_lt.2 h)
                                      omega
    subst hin
    dsimp only at hs
    rw [List.take_of_length_le (by unfold entsOf; rw [List.length_map]; omega)] at hs
    exact hs.swap.tail
end Go.Proofs.YteoplijfofohkaaGreat
