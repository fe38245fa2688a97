/- No cache; and what a record may not be. -/
import Derived.Test.YteoplijfofohkaaGreatApply
import Derived.Test.YteoplijfofohkaaGreatOp5
namespace Go.Proofs.YteoplijfofohkaaGreat
open Go Go.Sx Go.Hw
theorem ag75 : tAgg Tryz.prog 75 2 = true := by kernel_rfl
theorem sz24 : tSize Tryz.prog 24 4 = true := by kernel_rfl
theorem sz75 : tSize Tryz.prog 75 2 = true := by kernel_rfl
theorem zr24 : tZero Tryz.prog 24 (.agg #[(.int .i64 0), (.int .i64 0), (.int .i64 0), (.int .u64 0)]) := tZero_of (by kernel_rfl)
theorem zr75 : tZero Tryz.prog 75 (.agg #[(.int .i64 0), (.int .i64 0)]) := tZero_of (by kernel_rfl)
theorem pl24 : tPlaces Tryz.prog 24 #[(0, 1), (1, 1), (2, 1), (3, 1)] := tPlaces_of (by kernel_rfl)
theorem pl75 : tPlaces Tryz.prog 75 #[(0, 1), (1, 1)] := tPlaces_of (by kernel_rfl)
variable [Env]
theorem none_Apply {w : World} {L : List Asrt} {xs : Array Value} (hs : Sat w L) : Does Tryz.prog 13 [.pointer none, .agg xs] w fun v w' => v = .tuple #[repv ⟨0, [], 0⟩, .int .i64 1] ∧ Sat w' L := by
  refine Does.enters hs (n := 143) Tryz.func13 rfl rfl rfl rfl ?_
  refine WCs.seq ?_
  refine WCs.region ?_
  refine WLs.box rfl rfl (fun q => ?_)
  refine WLs.alloc zr61 rfl (fun r => ?_)
  refine WLs.val (y_asgn rfl) rfl <| ?_
  refine WLs.nil ?_
  refine WEs.then_n ?_
  refine WCs.seq ?_
  refine WCs.block ?_
  refine WCs.seq ?_
  refine WCs.region ?_
  refine WLs.val (y_move rfl) rfl <| WLs.val (y_peq rfl rfl pt27) rfl <| WLs.val (y_move rfl) rfl <| WLs.skipped rfl rfl rfl <| WLs.skipped rfl rfl rfl <| WLs.skipped rfl rfl rfl <| WLs.skipped rfl rfl rfl <| WLs.val (y_pick rfl rfl) rfl <| WLs.val (y_asgn rfl) rfl <| ?_
  refine WLs.nil ?_
  refine WEs.then_n ?_
  refine WCs.cond_t rfl rfl ?_
  refine WCs.seq ?_
  refine WCs.region ?_
  refine WLs.val (y_build (is := []) (xs := []) #[] rfl rfl pl61 zr61 rfl) rfl <| ?_
  refine WLs.storeA 0 rfl rfl sz61 rfl rfl (Nat.le_of_ble_eq_true rfl) rfl rfl ?_
  refine WLs.val (y_asgn rfl) rfl <| ?_
  refine WLs.nil ?_
  refine WEs.then_n ?_
  refine WCs.ret ?_
  refine WEs.in_ret ?_
  refine WEs.then_ret ?_
  refine WEs.retCT (.inr rfl) rfl rfl rfl ag61 0 rfl (Nat.le_of_ble_eq_true rfl) rfl ?_
  exact fun w hs => ⟨rfl, hs.tail.tail⟩

theorem none_Told {w : World} {L : List Asrt} {n : Nat} (hs : Sat w L) : Does Tryz.prog 16 [.pointer none, u64v n] w fun v w' => v = .tuple #[u64v 0, repv ⟨0, [], 0⟩, .bool false] ∧ Sat w' L := by
  refine Does.enters hs (n := 26) Tryz.func16 rfl rfl rfl rfl ?_
  refine WCs.seq ?_
  refine WCs.region ?_
  refine WLs.val (y_asgn rfl) rfl <| ?_
  refine WLs.alloc zr61 rfl (fun r => ?_)
  refine WLs.val (y_asgn rfl) rfl <| ?_
  refine WLs.nil ?_
  refine WEs.then_n ?_
  refine WCs.seq ?_
  refine WCs.seq ?_
  refine WCs.region ?_
  refine WLs.val (y_move rfl) rfl <| WLs.val (y_peq rfl rfl pt27) rfl <| ?_
  refine WLs.nil ?_
  refine WEs.then_n ?_
  refine WCs.cond_t rfl rfl ?_
  refine WCs.seq ?_
  refine WCs.region ?_
  refine WLs.val (y_build (is := []) (xs := []) #[] rfl rfl pl61 zr61 rfl) rfl <| ?_
  refine WLs.val (y_asgn rfl) rfl <| ?_
  refine WLs.storeA 0 rfl rfl sz61 rfl rfl (Nat.le_of_ble_eq_true rfl) rfl rfl ?_
  refine WLs.val (y_asgn rfl) rfl <| ?_
  refine WLs.nil ?_
  refine WEs.then_n ?_
  refine WCs.ret ?_
  refine WEs.then_ret ?_
  refine WEs.ret3 (.inr rfl) rfl rfl rfl rfl ag61 0 rfl (Nat.le_of_ble_eq_true rfl) rfl ?_
  exact fun w hs => ⟨rfl, hs.tail⟩

theorem none_Seq {w : World} {L : List Asrt}  (hs : Sat w L) : Does Tryz.prog 12 [.pointer none] w fun v w' => v = u64v 0 ∧ Sat w' L := by
  refine Does.enters hs (n := 9) Tryz.func12 rfl rfl rfl rfl ?_
  refine WCs.seq ?_
  refine WCs.region ?_
  refine WLs.val (y_asgn rfl) rfl <| ?_
  refine WLs.nil ?_
  refine WEs.then_n ?_
  refine WCs.seq ?_
  refine WCs.seq ?_
  refine WCs.region ?_
  refine WLs.val (y_move rfl) rfl <| WLs.val (y_peq rfl rfl pt27) rfl <| ?_
  refine WLs.nil ?_
  refine WEs.then_n ?_
  refine WCs.cond_t rfl rfl ?_
  refine WCs.seq ?_
  refine WCs.region ?_
  refine WLs.val (y_asgn rfl) rfl <| ?_
  refine WLs.nil ?_
  refine WEs.then_n ?_
  refine WCs.ret ?_
  refine WEs.then_ret ?_
  refine WEs.ret1 (.inr rfl) rfl rfl ?_
  exact fun w hs => ⟨rfl, hs⟩

theorem none_Now {w : World} {L : List Asrt}  (hs : Sat w L) : Does Tryz.prog 20 [.pointer none] w fun v w' => v = u64v 0 ∧ Sat w' L := by
  refine Does.enters hs (n := 9) Tryz.func20 rfl rfl rfl rfl ?_
  refine WCs.seq ?_
  refine WCs.region ?_
  refine WLs.val (y_asgn rfl) rfl <| ?_
  refine WLs.nil ?_
  refine WEs.then_n ?_
  refine WCs.seq ?_
  refine WCs.seq ?_
  refine WCs.region ?_
  refine WLs.val (y_move rfl) rfl <| WLs.val (y_peq rfl rfl pt27) rfl <| ?_
  refine WLs.nil ?_
  refine WEs.then_n ?_
  refine WCs.cond_t rfl rfl ?_
  refine WCs.seq ?_
  refine WCs.region ?_
  refine WLs.val (y_asgn rfl) rfl <| ?_
  refine WLs.nil ?_
  refine WEs.then_n ?_
  refine WCs.ret ?_
  refine WEs.then_ret ?_
  refine WEs.ret1 (.inr rfl) rfl rfl ?_
  exact fun w hs => ⟨rfl, hs⟩

theorem none_Entries {w : World} {L : List Asrt}  (hs : Sat w L) : Does Tryz.prog 22 [.pointer none] w fun v w' => v = .slice none 0 0 ∧ Sat w' L := by
  refine Does.enters hs (n := 35) Tryz.func22 rfl rfl rfl rfl ?_
  refine WCs.seq ?_
  refine WCs.region ?_
  refine WLs.val (y_asgn rfl) rfl <| ?_
  refine WLs.nil ?_
  refine WEs.then_n ?_
  refine WCs.seq ?_
  refine WCs.seq ?_
  refine WCs.region ?_
  refine WLs.val (y_move rfl) rfl <| WLs.val (y_peq rfl rfl pt27) rfl <| ?_
  refine WLs.nil ?_
  refine WEs.then_n ?_
  refine WCs.cond_t rfl rfl ?_
  refine WCs.seq ?_
  refine WCs.region ?_
  refine WLs.val (y_asgn rfl) rfl <| ?_
  refine WLs.nil ?_
  refine WEs.then_n ?_
  refine WCs.ret ?_
  refine WEs.then_ret ?_
  refine WEs.ret1 (.inr rfl) rfl rfl ?_
  exact fun w hs => ⟨rfl, hs⟩

theorem none_Export {w : World} {L : List Asrt}  (hs : Sat w L) : Does Tryz.prog 17 [.pointer none] w fun v w' => v = str [] ∧ Sat w' L := by
  refine Does.enters hs (n := 126) Tryz.func17 rfl rfl rfl rfl ?_
  refine WCs.seq ?_
  refine WCs.region ?_
  refine WLs.val (y_asgn rfl) rfl <| ?_
  refine WLs.nil ?_
  refine WEs.then_n ?_
  refine WCs.seq ?_
  refine WCs.seq ?_
  refine WCs.region ?_
  refine WLs.val (y_move rfl) rfl <| WLs.val (y_peq rfl rfl pt27) rfl <| ?_
  refine WLs.nil ?_
  refine WEs.then_n ?_
  refine WCs.cond_t rfl rfl ?_
  refine WCs.seq ?_
  refine WCs.region ?_
  refine WLs.val (y_asgn rfl) rfl <| ?_
  refine WLs.nil ?_
  refine WEs.then_n ?_
  refine WCs.ret ?_
  refine WEs.then_ret ?_
  refine WEs.ret1 (.inr rfl) rfl rfl ?_
  exact fun w hs => ⟨rfl, hs⟩

theorem none_Copy {w : World} {L : List Asrt}  (hs : Sat w L) : Does Tryz.prog 23 [.pointer none] w fun v w' => v = .pointer none ∧ Sat w' L := by
  refine Does.enters hs (n := 14) Tryz.func23 rfl rfl rfl rfl ?_
  refine WCs.seq ?_
  refine WCs.region ?_
  refine WLs.val (y_asgn rfl) rfl <| ?_
  refine WLs.nil ?_
  refine WEs.then_n ?_
  refine WCs.seq ?_
  refine WCs.seq ?_
  refine WCs.region ?_
  refine WLs.val (y_move rfl) rfl <| WLs.val (y_peq rfl rfl pt27) rfl <| ?_
  refine WLs.nil ?_
  refine WEs.then_n ?_
  refine WCs.cond_t rfl rfl ?_
  refine WCs.seq ?_
  refine WCs.region ?_
  refine WLs.val (y_asgn rfl) rfl <| ?_
  refine WLs.nil ?_
  refine WEs.then_n ?_
  refine WCs.ret ?_
  refine WEs.then_ret ?_
  refine WEs.ret1 (.inr rfl) rfl rfl ?_
  exact fun w hs => ⟨rfl, hs⟩

theorem none_Tally {w : World} {L : List Asrt}  (hs : Sat w L) : Does Tryz.prog 21 [.pointer none] w fun v w' => v = .agg #[natv 0, natv 0] ∧ Sat w' L := by
  refine Does.enters hs (n := 10) Tryz.func21 rfl rfl rfl rfl ?_
  refine WCs.seq ?_
  refine WCs.region ?_
  refine WLs.alloc zr75 rfl (fun r => ?_)
  refine WLs.nil ?_
  refine WEs.then_n ?_
  refine WCs.seq ?_
  refine WCs.seq ?_
  refine WCs.region ?_
  refine WLs.val (y_move rfl) rfl <| WLs.val (y_peq rfl rfl pt27) rfl <| ?_
  refine WLs.nil ?_
  refine WEs.then_n ?_
  refine WCs.cond_t rfl rfl ?_
  refine WCs.seq ?_
  refine WCs.region ?_
  refine WLs.val (y_build (is := []) (xs := []) #[] rfl rfl pl75 zr75 rfl) rfl <| ?_
  refine WLs.storeA 0 rfl rfl sz75 rfl rfl (Nat.le_of_ble_eq_true rfl) rfl rfl ?_
  refine WLs.nil ?_
  refine WEs.then_n ?_
  refine WCs.ret ?_
  refine WEs.then_ret ?_
  refine WEs.retC (.inr rfl) rfl rfl ag75 0 rfl (Nat.le_of_ble_eq_true rfl) rfl ?_
  exact fun w hs => ⟨rfl, hs.tail⟩

theorem none_Config {w : World} {L : List Asrt}  (hs : Sat w L) : Does Tryz.prog 19 [.pointer none] w fun v w' => v = confv ⟨0, 0, 0, 0⟩ ∧ Sat w' L := by
  refine Does.enters hs (n := 10) Tryz.func19 rfl rfl rfl rfl ?_
  refine WCs.seq ?_
  refine WCs.region ?_
  refine WLs.alloc zr24 rfl (fun r => ?_)
  refine WLs.nil ?_
  refine WEs.then_n ?_
  refine WCs.seq ?_
  refine WCs.seq ?_
  refine WCs.region ?_
  refine WLs.val (y_move rfl) rfl <| WLs.val (y_peq rfl rfl pt27) rfl <| ?_
  refine WLs.nil ?_
  refine WEs.then_n ?_
  refine WCs.cond_t rfl rfl ?_
  refine WCs.seq ?_
  refine WCs.region ?_
  refine WLs.val (y_build (is := []) (xs := []) #[] rfl rfl pl24 zr24 rfl) rfl <| ?_
  refine WLs.storeA 0 rfl rfl sz24 rfl rfl (Nat.le_of_ble_eq_true rfl) rfl rfl ?_
  refine WLs.nil ?_
  refine WEs.then_n ?_
  refine WCs.ret ?_
  refine WEs.then_ret ?_
  refine WEs.retC (.inr rfl) rfl rfl ag24 0 rfl (Nat.le_of_ble_eq_true rfl) rfl ?_
  exact fun w hs => ⟨rfl, hs.tail⟩

theorem store_Seq {w : World} {L : List Asrt} {bt pt' pp bs ps : Nat} {S : Sto} (hs : Sat w (stoL bt pt' pp bs ps S L)) : Does Tryz.prog 12 [rp ps] w fun v w' => v = u64v S.seq ∧ Sat w' (stoL bt pt' pp bs ps S L) := by
  refine Does.enters hs (n := 9) Tryz.func12 rfl rfl rfl rfl ?_
  refine WCs.seq ?_
  refine WCs.region ?_
  refine WLs.val (y_asgn rfl) rfl <| ?_
  refine WLs.nil ?_
  refine WEs.then_n ?_
  refine WCs.seq ?_
  refine WCs.seq ?_
  refine WCs.region ?_
  refine WLs.val (y_move rfl) rfl <| WLs.val (y_peq rfl rfl pt27) rfl <| ?_
  refine WLs.nil ?_
  refine WEs.then_n ?_
  refine WCs.cond_f rfl rfl ?_
  refine WCs.skip ?_
  refine WEs.then_n ?_
  refine WCs.seq ?_
  refine WCs.region ?_
  refine WLs.val (y_move rfl) rfl <| WLs.val (y_nil rfl) rfl <| WLs.val (y_fld rfl fl94_4) rfl <| WLs.val (y_ld rfl sc22 (Sat.at 4 rfl) (by rfl)) rfl <| ?_
  refine WLs.val (y_asgn rfl) rfl <| ?_
  refine WLs.nil ?_
  refine WEs.then_n ?_
  refine WCs.ret ?_
  refine WEs.ret1 (.inr rfl) rfl rfl ?_
  exact fun w hs => ⟨rfl, hs⟩

theorem store_Apply_bad {w : World} {L : List Asrt} {bt pt' pp bs ps : Nat} {S : Sto} {x : Rec} (hs : Sat w (stoL bt pt' pp bs ps S L)) (hok : x.op.ok = false) : Does Tryz.prog 13 [rp ps, recv x] w fun v w' => v = .tuple #[repv ⟨0, [], 0⟩, .int .i64 1] ∧ Sat w' (stoL bt pt' pp bs ps S L) := by
  refine Does.enters hs (n := 143) Tryz.func13 rfl rfl rfl rfl ?_
  refine WCs.seq ?_
  refine WCs.region ?_
  refine WLs.box rfl rfl (fun q => ?_)
  refine WLs.alloc zr61 rfl (fun r => ?_)
  refine WLs.val (y_asgn rfl) rfl <| ?_
  refine WLs.nil ?_
  refine WEs.then_n ?_
  refine WCs.seq ?_
  refine WCs.block ?_
  refine WCs.seq ?_
  refine WCs.region ?_
  refine WLs.val (y_move rfl) rfl <| WLs.val (y_peq rfl rfl pt27) rfl <| WLs.val (y_move rfl) rfl <| WLs.guarded rfl rfl <| WLs.val (y_fld rfl fl54_4) rfl <| WLs.guarded rfl rfl <| WLs.val (y_ldA rfl ag52 (Sat.at 1 rfl) (Nat.le_of_ble_eq_true rfl) (by rfl)) rfl <| ?_
  refine WLs.guarded rfl rfl <| ?_
  refine WLs.callE Tryz.func33 rfl rfl rfl rfl (fun w hs => hok ▸ op_Check (o := x.op) hs) ?_
  refine WLs.guarded rfl rfl <| WLs.val (y_not rfl) rfl <| WLs.val (y_pick rfl rfl) rfl <| WLs.val (y_asgn rfl) rfl <| ?_
  refine WLs.nil ?_
  refine WEs.then_n ?_
  refine WCs.cond_t rfl rfl ?_
  refine WCs.seq ?_
  refine WCs.region ?_
  refine WLs.val (y_build (is := []) (xs := []) #[] rfl rfl pl61 zr61 rfl) rfl <| ?_
  refine WLs.storeA 0 rfl rfl sz61 rfl rfl (Nat.le_of_ble_eq_true rfl) rfl rfl ?_
  refine WLs.val (y_asgn rfl) rfl <| ?_
  refine WLs.nil ?_
  refine WEs.then_n ?_
  refine WCs.ret ?_
  refine WEs.in_ret ?_
  refine WEs.then_ret ?_
  refine WEs.retCT (.inr rfl) rfl rfl rfl ag61 0 rfl (Nat.le_of_ble_eq_true rfl) rfl ?_
  exact fun w hs => ⟨rfl, hs.tail.tail⟩

theorem store_Apply_seq {w : World} {L : List Asrt} {bt pt' pp bs ps : Nat} {S : Sto} {x : Rec} (hs : Sat w (stoL bt pt' pp bs ps S L)) (hok : x.op.ok = true) (h0 : 1 ≤ x.seq) (hseq : x.seq ≠ S.seq + 1) (h64 : x.seq < 18446744073709551616) : Does Tryz.prog 13 [rp ps, recv x] w fun v w' => v = .tuple #[repv ⟨0, [], 0⟩, .int .i64 123] ∧ Sat w' (stoL bt pt' pp bs ps S L) := by
  refine Does.enters hs (n := 143) Tryz.func13 rfl rfl rfl rfl ?_
  refine WCs.seq ?_
  refine WCs.region ?_
  refine WLs.box rfl rfl (fun q => ?_)
  refine WLs.alloc zr61 rfl (fun r => ?_)
  refine WLs.val (y_asgn rfl) rfl <| ?_
  refine WLs.nil ?_
  refine WEs.then_n ?_
  refine WCs.seq ?_
  refine WCs.block ?_
  refine WCs.seq ?_
  refine WCs.region ?_
  refine WLs.val (y_move rfl) rfl <| WLs.val (y_peq rfl rfl pt27) rfl <| WLs.val (y_move rfl) rfl <| WLs.guarded rfl rfl <| WLs.val (y_fld rfl fl54_4) rfl <| WLs.guarded rfl rfl <| WLs.val (y_ldA rfl ag52 (Sat.at 1 rfl) (Nat.le_of_ble_eq_true rfl) (by rfl)) rfl <| ?_
  refine WLs.guarded rfl rfl <| ?_
  refine WLs.callE Tryz.func33 rfl rfl rfl rfl (fun w hs => hok ▸ op_Check (o := x.op) hs) ?_
  refine WLs.guarded rfl rfl <| WLs.val (y_not rfl) rfl <| WLs.val (y_pick rfl rfl) rfl <| WLs.val (y_asgn rfl) rfl <| ?_
  refine WLs.nil ?_
  refine WEs.then_n ?_
  refine WCs.cond_f rfl rfl ?_
  refine WCs.seq ?_
  refine WCs.draw (.one 0 3 (.one 1 0 (.one 2 3 (.one 3 3 (.one 4 3 (.one 5 0 (.one 6 3 (.one 7 3 (.one 8 3 (.one 9 3 (.one 10 0 (.one 11 3 (.one 12 3 (.one 13 3 .nil)))))))))))))) [] Tryz.mixed (by kernel_rfl) (by kernel_rfl) rfl (Pf.then (Pf.block (Pf.then Pf.body))) (fun _ h => h) ?_
  refine WSs.pure rfl (y_fld rfl fl54_0) rfl ?_
  refine WSs.val rfl (y_ld rfl sc22 (Sat.at 1 rfl) (by rfl)) rfl ?_
  refine WSs.pure rfl (y_eq rfl rfl (decide_eq_false (by omega))) rfl ?_
  refine WSs.pure rfl (y_move rfl) rfl ?_
  refine WSs.pureG rfl rfl rfl (y_fld rfl fl54_0) rfl ?_
  refine WSs.valG rfl rfl rfl (y_ld rfl sc22 (Sat.at 1 rfl) (by rfl)) rfl ?_
  refine WSs.pureG rfl rfl rfl (y_sub rfl rfl (show IntKind.u64.wrap ((x.seq : Int) - 1) = ((x.seq - 1 : Nat) : Int) by rw [wrap_u64 (by omega)]; omega)) rfl ?_
  refine WSs.pureG rfl rfl rfl (y_move rfl) rfl ?_
  refine WSs.pureG rfl rfl rfl (y_nil rfl) rfl ?_
  refine WSs.pureG rfl rfl rfl (y_fld rfl fl94_4) rfl ?_
  refine WSs.valG rfl rfl rfl (y_ld rfl sc22 (Sat.at 6 rfl) (by rfl)) rfl ?_
  refine WSs.pureG rfl rfl rfl (y_ne rfl rfl (decide_eq_true (by show ((x.seq - 1 : Nat) : Int) ≠ (S.seq : Int); omega))) rfl ?_
  refine WSs.pure rfl (y_pick rfl rfl) rfl ?_
  refine WSs.pure rfl (y_asgn rfl) rfl ?_
  refine WSs.nil ?_
  refine WEs.then_n ?_
  refine WCs.cond_t rfl rfl ?_
  refine WCs.seq ?_
  refine WCs.region ?_
  refine WLs.val (y_build (is := []) (xs := []) #[] rfl rfl pl61 zr61 rfl) rfl <| ?_
  refine WLs.storeA 0 rfl rfl sz61 rfl rfl (Nat.le_of_ble_eq_true rfl) rfl rfl ?_
  refine WLs.val (y_asgn rfl) rfl <| ?_
  refine WLs.nil ?_
  refine WEs.then_n ?_
  refine WCs.ret ?_
  refine WEs.in_ret ?_
  refine WEs.then_ret ?_
  refine WEs.retCT (.inr rfl) rfl rfl rfl ag61 0 rfl (Nat.le_of_ble_eq_true rfl) rfl ?_
  exact fun w hs => ⟨rfl, hs.tail.tail⟩

theorem ref_Check {w : World} {L : List Asrt} {c : Conf} (hs : Sat w L) : Does Tryz.prog 25 [confv c] w fun v w' => v = .bool c.ok ∧ Sat w' L := by
  refine Does.enters hs (n := 31) Tryz.func25 rfl rfl rfl rfl ?_
  refine WCs.seq ?_
  refine WCs.region ?_
  refine WLs.box rfl rfl (fun q => ?_)
  refine WLs.val (y_asgn rfl) rfl <| ?_
  refine WLs.nil ?_
  refine WEs.then_n ?_
  refine WCs.seq ?_
  refine WCs.region ?_
  refine WLs.val (y_fld rfl fl24_0) rfl <| WLs.val (y_ld rfl sc3 (by first | exact Sat.at 0 rfl | exact Sat.at 1 rfl | exact Sat.at 2 rfl | exact Sat.at 3 rfl | exact Sat.at 4 rfl | exact Sat.at 5 rfl | exact Sat.at 6 rfl) (by rfl)) rfl <| ?_
  refine WLs.cmp (fun b hb => y_eq rfl rfl hb) rfl (fun h5 => ?_) (fun h5 => ?_)
  · refine WLs.val (y_move rfl) rfl <| WLs.skipped rfl rfl rfl <| WLs.skipped rfl rfl rfl <| WLs.skipped rfl rfl rfl <| WLs.val (y_pick rfl rfl) rfl <| WLs.val (y_move rfl) rfl <| WLs.guarded rfl rfl <| WLs.val (y_fld rfl fl24_1) rfl <| WLs.guarded rfl rfl <| WLs.val (y_ld rfl sc3 (by first | exact Sat.at 0 rfl | exact Sat.at 1 rfl | exact Sat.at 2 rfl | exact Sat.at 3 rfl | exact Sat.at 4 rfl | exact Sat.at 5 rfl | exact Sat.at 6 rfl) (by rfl)) rfl <| ?_
    refine WLs.guarded rfl rfl <| WLs.cmp (fun b hb => y_gt rfl rfl hb) rfl (fun h14 => ?_) (fun h14 => ?_)
    · refine WLs.val (y_pick rfl rfl) rfl <| WLs.val (y_move rfl) rfl <| WLs.guarded rfl rfl <| WLs.val (y_fld rfl fl24_1) rfl <| WLs.guarded rfl rfl <| WLs.val (y_ld rfl sc3 (by first | exact Sat.at 0 rfl | exact Sat.at 1 rfl | exact Sat.at 2 rfl | exact Sat.at 3 rfl | exact Sat.at 4 rfl | exact Sat.at 5 rfl | exact Sat.at 6 rfl) (by rfl)) rfl <| ?_
      refine WLs.guarded rfl rfl <| WLs.cmp (fun b hb => y_le rfl rfl hb) rfl (fun h19 => ?_) (fun h19 => ?_)
      · refine WLs.val (y_pick rfl rfl) rfl <| WLs.val (y_move rfl) rfl <| WLs.guarded rfl rfl <| WLs.val (y_fld rfl fl24_2) rfl <| WLs.guarded rfl rfl <| WLs.val (y_ld rfl sc3 (by first | exact Sat.at 0 rfl | exact Sat.at 1 rfl | exact Sat.at 2 rfl | exact Sat.at 3 rfl | exact Sat.at 4 rfl | exact Sat.at 5 rfl | exact Sat.at 6 rfl) (by rfl)) rfl <| ?_
        refine WLs.guarded rfl rfl <| WLs.cmp (fun b hb => y_gt rfl rfl hb) rfl (fun h24 => ?_) (fun h24 => ?_)
        · refine WLs.val (y_pick rfl rfl) rfl <| WLs.val (y_move rfl) rfl <| WLs.guarded rfl rfl <| WLs.val (y_fld rfl fl24_2) rfl <| WLs.guarded rfl rfl <| WLs.val (y_ld rfl sc3 (by first | exact Sat.at 0 rfl | exact Sat.at 1 rfl | exact Sat.at 2 rfl | exact Sat.at 3 rfl | exact Sat.at 4 rfl | exact Sat.at 5 rfl | exact Sat.at 6 rfl) (by rfl)) rfl <| ?_
          refine WLs.guarded rfl rfl <| WLs.cmp (fun b hb => y_le rfl rfl hb) rfl (fun h29 => ?_) (fun h29 => ?_)
          · refine WLs.val (y_pick rfl rfl) rfl <| WLs.val (y_asgn rfl) rfl <| ?_
            refine WLs.nil ?_
            refine WEs.then_n ?_
            refine WCs.ret ?_
            refine WEs.ret1 (.inr rfl) rfl rfl ?_
            exact fun w hs => ⟨by simp [Conf.ok, *] <;> (intros; omega), hs.tail⟩
          · refine WLs.val (y_pick rfl rfl) rfl <| WLs.val (y_asgn rfl) rfl <| ?_
            refine WLs.nil ?_
            refine WEs.then_n ?_
            refine WCs.ret ?_
            refine WEs.ret1 (.inr rfl) rfl rfl ?_
            exact fun w hs => ⟨by simp [Conf.ok, *] <;> (intros; omega), hs.tail⟩
        · refine WLs.val (y_pick rfl rfl) rfl <| WLs.val (y_move rfl) rfl <| WLs.skipped rfl rfl rfl <| WLs.skipped rfl rfl rfl <| WLs.skipped rfl rfl rfl <| WLs.val (y_pick rfl rfl) rfl <| WLs.val (y_asgn rfl) rfl <| ?_
          refine WLs.nil ?_
          refine WEs.then_n ?_
          refine WCs.ret ?_
          refine WEs.ret1 (.inr rfl) rfl rfl ?_
          exact fun w hs => ⟨by simp [Conf.ok, *] <;> (intros; omega), hs.tail⟩
      · refine WLs.val (y_pick rfl rfl) rfl <| WLs.val (y_move rfl) rfl <| WLs.skipped rfl rfl rfl <| WLs.skipped rfl rfl rfl <| WLs.skipped rfl rfl rfl <| WLs.val (y_pick rfl rfl) rfl <| WLs.val (y_move rfl) rfl <| WLs.skipped rfl rfl rfl <| WLs.skipped rfl rfl rfl <| WLs.skipped rfl rfl rfl <| WLs.val (y_pick rfl rfl) rfl <| WLs.val (y_asgn rfl) rfl <| ?_
        refine WLs.nil ?_
        refine WEs.then_n ?_
        refine WCs.ret ?_
        refine WEs.ret1 (.inr rfl) rfl rfl ?_
        exact fun w hs => ⟨by simp [Conf.ok, *] <;> (intros; omega), hs.tail⟩
    · refine WLs.val (y_pick rfl rfl) rfl <| WLs.val (y_move rfl) rfl <| WLs.skipped rfl rfl rfl <| WLs.skipped rfl rfl rfl <| WLs.skipped rfl rfl rfl <| WLs.val (y_pick rfl rfl) rfl <| WLs.val (y_move rfl) rfl <| WLs.skipped rfl rfl rfl <| WLs.skipped rfl rfl rfl <| WLs.skipped rfl rfl rfl <| WLs.val (y_pick rfl rfl) rfl <| WLs.val (y_move rfl) rfl <| WLs.skipped rfl rfl rfl <| WLs.skipped rfl rfl rfl <| WLs.skipped rfl rfl rfl <| WLs.val (y_pick rfl rfl) rfl <| WLs.val (y_asgn rfl) rfl <| ?_
      refine WLs.nil ?_
      refine WEs.then_n ?_
      refine WCs.ret ?_
      refine WEs.ret1 (.inr rfl) rfl rfl ?_
      exact fun w hs => ⟨by simp [Conf.ok, *] <;> (intros; omega), hs.tail⟩
  · refine WLs.val (y_move rfl) rfl <| WLs.guarded rfl rfl <| WLs.val (y_fld rfl fl24_0) rfl <| WLs.guarded rfl rfl <| WLs.val (y_ld rfl sc3 (by first | exact Sat.at 0 rfl | exact Sat.at 1 rfl | exact Sat.at 2 rfl | exact Sat.at 3 rfl | exact Sat.at 4 rfl | exact Sat.at 5 rfl | exact Sat.at 6 rfl) (by rfl)) rfl <| ?_
    refine WLs.guarded rfl rfl <| WLs.cmp (fun b hb => y_eq rfl rfl hb) rfl (fun h9 => ?_) (fun h9 => ?_)
    · refine WLs.val (y_pick rfl rfl) rfl <| WLs.val (y_move rfl) rfl <| WLs.guarded rfl rfl <| WLs.val (y_fld rfl fl24_1) rfl <| WLs.guarded rfl rfl <| WLs.val (y_ld rfl sc3 (by first | exact Sat.at 0 rfl | exact Sat.at 1 rfl | exact Sat.at 2 rfl | exact Sat.at 3 rfl | exact Sat.at 4 rfl | exact Sat.at 5 rfl | exact Sat.at 6 rfl) (by rfl)) rfl <| ?_
      refine WLs.guarded rfl rfl <| WLs.cmp (fun b hb => y_gt rfl rfl hb) rfl (fun h14 => ?_) (fun h14 => ?_)
      · refine WLs.val (y_pick rfl rfl) rfl <| WLs.val (y_move rfl) rfl <| WLs.guarded rfl rfl <| WLs.val (y_fld rfl fl24_1) rfl <| WLs.guarded rfl rfl <| WLs.val (y_ld rfl sc3 (by first | exact Sat.at 0 rfl | exact Sat.at 1 rfl | exact Sat.at 2 rfl | exact Sat.at 3 rfl | exact Sat.at 4 rfl | exact Sat.at 5 rfl | exact Sat.at 6 rfl) (by rfl)) rfl <| ?_
        refine WLs.guarded rfl rfl <| WLs.cmp (fun b hb => y_le rfl rfl hb) rfl (fun h19 => ?_) (fun h19 => ?_)
        · refine WLs.val (y_pick rfl rfl) rfl <| WLs.val (y_move rfl) rfl <| WLs.guarded rfl rfl <| WLs.val (y_fld rfl fl24_2) rfl <| WLs.guarded rfl rfl <| WLs.val (y_ld rfl sc3 (by first | exact Sat.at 0 rfl | exact Sat.at 1 rfl | exact Sat.at 2 rfl | exact Sat.at 3 rfl | exact Sat.at 4 rfl | exact Sat.at 5 rfl | exact Sat.at 6 rfl) (by rfl)) rfl <| ?_
          refine WLs.guarded rfl rfl <| WLs.cmp (fun b hb => y_gt rfl rfl hb) rfl (fun h24 => ?_) (fun h24 => ?_)
          · refine WLs.val (y_pick rfl rfl) rfl <| WLs.val (y_move rfl) rfl <| WLs.guarded rfl rfl <| WLs.val (y_fld rfl fl24_2) rfl <| WLs.guarded rfl rfl <| WLs.val (y_ld rfl sc3 (by first | exact Sat.at 0 rfl | exact Sat.at 1 rfl | exact Sat.at 2 rfl | exact Sat.at 3 rfl | exact Sat.at 4 rfl | exact Sat.at 5 rfl | exact Sat.at 6 rfl) (by rfl)) rfl <| ?_
            refine WLs.guarded rfl rfl <| WLs.cmp (fun b hb => y_le rfl rfl hb) rfl (fun h29 => ?_) (fun h29 => ?_)
            · refine WLs.val (y_pick rfl rfl) rfl <| WLs.val (y_asgn rfl) rfl <| ?_
              refine WLs.nil ?_
              refine WEs.then_n ?_
              refine WCs.ret ?_
              refine WEs.ret1 (.inr rfl) rfl rfl ?_
              exact fun w hs => ⟨by simp [Conf.ok, *] <;> (intros; omega), hs.tail⟩
            · refine WLs.val (y_pick rfl rfl) rfl <| WLs.val (y_asgn rfl) rfl <| ?_
              refine WLs.nil ?_
              refine WEs.then_n ?_
              refine WCs.ret ?_
              refine WEs.ret1 (.inr rfl) rfl rfl ?_
              exact fun w hs => ⟨by simp [Conf.ok, *] <;> (intros; omega), hs.tail⟩
          · refine WLs.val (y_pick rfl rfl) rfl <| WLs.val (y_move rfl) rfl <| WLs.skipped rfl rfl rfl <| WLs.skipped rfl rfl rfl <| WLs.skipped rfl rfl rfl <| WLs.val (y_pick rfl rfl) rfl <| WLs.val (y_asgn rfl) rfl <| ?_
            refine WLs.nil ?_
            refine WEs.then_n ?_
            refine WCs.ret ?_
            refine WEs.ret1 (.inr rfl) rfl rfl ?_
            exact fun w hs => ⟨by simp [Conf.ok, *] <;> (intros; omega), hs.tail⟩
        · refine WLs.val (y_pick rfl rfl) rfl <| WLs.val (y_move rfl) rfl <| WLs.skipped rfl rfl rfl <| WLs.skipped rfl rfl rfl <| WLs.skipped rfl rfl rfl <| WLs.val (y_pick rfl rfl) rfl <| WLs.val (y_move rfl) rfl <| WLs.skipped rfl rfl rfl <| WLs.skipped rfl rfl rfl <| WLs.skipped rfl rfl rfl <| WLs.val (y_pick rfl rfl) rfl <| WLs.val (y_asgn rfl) rfl <| ?_
          refine WLs.nil ?_
          refine WEs.then_n ?_
          refine WCs.ret ?_
          refine WEs.ret1 (.inr rfl) rfl rfl ?_
          exact fun w hs => ⟨by simp [Conf.ok, *] <;> (intros; omega), hs.tail⟩
      · refine WLs.val (y_pick rfl rfl) rfl <| WLs.val (y_move rfl) rfl <| WLs.skipped rfl rfl rfl <| WLs.skipped rfl rfl rfl <| WLs.skipped rfl rfl rfl <| WLs.val (y_pick rfl rfl) rfl <| WLs.val (y_move rfl) rfl <| WLs.skipped rfl rfl rfl <| WLs.skipped rfl rfl rfl <| WLs.skipped rfl rfl rfl <| WLs.val (y_pick rfl rfl) rfl <| WLs.val (y_move rfl) rfl <| WLs.skipped rfl rfl rfl <| WLs.skipped rfl rfl rfl <| WLs.skipped rfl rfl rfl <| WLs.val (y_pick rfl rfl) rfl <| WLs.val (y_asgn rfl) rfl <| ?_
        refine WLs.nil ?_
        refine WEs.then_n ?_
        refine WCs.ret ?_
        refine WEs.ret1 (.inr rfl) rfl rfl ?_
        exact fun w hs => ⟨by simp [Conf.ok, *] <;> (intros; omega), hs.tail⟩
    · refine WLs.val (y_pick rfl rfl) rfl <| WLs.val (y_move rfl) rfl <| WLs.skipped rfl rfl rfl <| WLs.skipped rfl rfl rfl <| WLs.skipped rfl rfl rfl <| WLs.val (y_pick rfl rfl) rfl <| WLs.val (y_move rfl) rfl <| WLs.skipped rfl rfl rfl <| WLs.skipped rfl rfl rfl <| WLs.skipped rfl rfl rfl <| WLs.val (y_pick rfl rfl) rfl <| WLs.val (y_move rfl) rfl <| WLs.skipped rfl rfl rfl <| WLs.skipped rfl rfl rfl <| WLs.skipped rfl rfl rfl <| WLs.val (y_pick rfl rfl) rfl <| WLs.val (y_move rfl) rfl <| WLs.skipped rfl rfl rfl <| WLs.skipped rfl rfl rfl <| WLs.skipped rfl rfl rfl <| WLs.val (y_pick rfl rfl) rfl <| WLs.val (y_asgn rfl) rfl <| ?_
      refine WLs.nil ?_
      refine WEs.then_n ?_
      refine WCs.ret ?_
      refine WEs.ret1 (.inr rfl) rfl rfl ?_
      exact fun w hs => ⟨by simp [Conf.ok, *] <;> (intros; omega), hs.tail⟩
end Go.Proofs.YteoplijfofohkaaGreat
