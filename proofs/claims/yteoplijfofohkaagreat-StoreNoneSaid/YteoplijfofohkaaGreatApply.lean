/- The contract of Apply. -/
import Derived.Test.YteoplijfofohkaaGreatStoreB
namespace Go.Proofs.YteoplijfofohkaaGreat
open Go Go.Sx Go.Hw
theorem fl101_0 : tFld Tryz.prog 101 0 0 = true := by kernel_rfl
theorem fl54_0 : tFld Tryz.prog 54 0 0 = true := by kernel_rfl
theorem fl54_1 : tFld Tryz.prog 54 1 1 = true := by kernel_rfl
theorem fl54_2 : tFld Tryz.prog 54 2 2 = true := by kernel_rfl
theorem fl54_3 : tFld Tryz.prog 54 3 3 = true := by kernel_rfl
theorem fl54_4 : tFld Tryz.prog 54 4 4 = true := by kernel_rfl
theorem fl94_3 : tFld Tryz.prog 94 3 6 = true := by kernel_rfl
theorem fl94_4 : tFld Tryz.prog 94 4 7 = true := by kernel_rfl
theorem fl94_5 : tFld Tryz.prog 94 5 8 = true := by kernel_rfl
theorem in22 : tInt Tryz.prog 22 .u64 = true := by kernel_rfl
theorem mp92 : tMap Tryz.prog 92 22 101 = true := by kernel_rfl
theorem pt27 : tPtr Tryz.prog 27 = true := by kernel_rfl
theorem sc92 : tScal Tryz.prog 92 = true := by kernel_rfl
theorem sz101 : tSize Tryz.prog 101 4 = true := by kernel_rfl
theorem zr101 : tZero Tryz.prog 101 (.agg #[(.int .u64 0), (.int .i64 0), (str []), (.int .u64 0)]) := tZero_of (by kernel_rfl)
theorem pl101 : tPlaces Tryz.prog 101 #[(0, 1), (1, 3)] := tPlaces_of (by kernel_rfl)
variable [Env]
/-- the cache with the place and the tick of a record -/
def _root_.Go.Hw.Sto.at (S : Sto) (x : Rec) : Sto := { S with seq := S.seq + 1, now := max S.now x.now }
def repOk (r : Value) : Value := .tuple #[r, .int .i64 0]
/-- what an operation comes to, whatever else there is -/
def DoesDo (bt pt' pp bs ps : Nat) (o : Req) (S1 : Sto) (rep : Rep) (S2 : Sto) : Prop :=
  ∀ L w, Sat w (stoL bt pt' pp bs ps S1 L) → Does Tryz.prog 37 [rp ps, reqv o] w fun v w' => v = repv rep ∧ Sat w' (stoL bt pt' pp bs ps S2 L)

set_option maxHeartbeats 4000000 in
theorem store_Apply_new {w : World} {L : List Asrt} {bt pt' pp bs ps : Nat} {S : Sto} {S2 : Sto} {x : Rec} {rep : Rep} (hs : Sat w (stoL bt pt' pp bs ps S L)) (hi : TInv S.tab) (hok : x.op.ok = true) (hseq : x.seq = S.seq + 1) (h5 : S.seq + 1 < 18446744073709551616) (hend : endedOf S.tab (max S.now x.now) = []) (hk : x.op.kind ≠ 5)
    (hdo : DoesDo bt pt' pp bs ps x.op (S.at x) rep S2) (hg : mget S.ses (x.session : Int) = none) (hfew : S.ses.length < 64) :
    Does Tryz.prog 13 [rp ps, recv x] w fun v w' => v = .tuple #[repv rep, .int .i64 0] ∧ Sat w' (stoL bt pt' pp bs ps { S2 with ses := mput S2.ses (x.session : Int) ⟨x.num, rep⟩ } L) := by
  have hmx : max (S.now : Int) (x.now : Int) = ((max S.now x.now : Nat) : Int) := by omega
  refine Does.enters hs (n := 143) Tryz.func13 rfl rfl rfl rfl ?_
  refine WCs.seq ?_
  refine WCs.region ?_
  refine WLs.box rfl rfl (fun q => ?_)
  refine WLs.alloc zr61 rfl (fun r => ?_)
  refine WLs.val (y_asgn rfl) rfl <| ?_
  refine WLs.nil ?_
  refine WEs.then_n ?_
  refine WCs.seq ?_
  refine WCs.block ?_
  refine WCs.seq ?_
  refine WCs.region ?_
  refine WLs.val (y_move rfl) rfl <| WLs.val (y_peq rfl rfl pt27) rfl <| WLs.val (y_move rfl) rfl <| WLs.guarded rfl rfl <| WLs.val (y_fld rfl fl54_4) rfl <| WLs.guarded rfl rfl <| WLs.val (y_ldA rfl ag52 (Sat.at 1 rfl) (Nat.le_of_ble_eq_true rfl) (by rfl)) rfl <| ?_
  refine WLs.guarded rfl rfl <| ?_
  refine WLs.callE Tryz.func33 rfl rfl rfl rfl (fun w hs => hok ▸ op_Check (o := x.op) hs) ?_
  refine WLs.guarded rfl rfl <| WLs.val (y_not rfl) rfl <| WLs.val (y_pick rfl rfl) rfl <| WLs.val (y_asgn rfl) rfl <| ?_
  refine WLs.nil ?_
  refine WEs.then_n ?_
  refine WCs.cond_f rfl rfl ?_
  refine WCs.seq ?_
  refine WCs.draw (.one 0 3 (.one 1 0 (.one 2 3 (.one 3 3 (.one 4 3 (.one 5 0 (.one 6 3 (.one 7 3 (.one 8 3 (.one 9 3 (.one 10 0 (.one 11 3 (.one 12 3 (.one 13 3 .nil)))))))))))))) [] Tryz.mixed (by kernel_rfl) (by kernel_rfl) rfl (Pf.then (Pf.block (Pf.then Pf.body))) (fun _ h => h) ?_
  refine WSs.pure rfl (y_fld rfl fl54_0) rfl ?_
  refine WSs.val rfl (y_ld rfl sc22 (Sat.at 1 rfl) (by rfl)) rfl ?_
  refine WSs.pure rfl (y_eq rfl rfl (decide_eq_false (by omega))) rfl ?_
  refine WSs.pure rfl (y_move rfl) rfl ?_
  refine WSs.pureG rfl rfl rfl (y_fld rfl fl54_0) rfl ?_
  refine WSs.valG rfl rfl rfl (y_ld rfl sc22 (Sat.at 1 rfl) (by rfl)) rfl ?_
  refine WSs.pureG rfl rfl rfl (y_sub rfl rfl (show IntKind.u64.wrap ((x.seq : Int) - 1) = ((x.seq - 1 : Nat) : Int) by rw [wrap_u64 (by omega)]; omega)) rfl ?_
  refine WSs.pureG rfl rfl rfl (y_move rfl) rfl ?_
  refine WSs.pureG rfl rfl rfl (y_nil rfl) rfl ?_
  refine WSs.pureG rfl rfl rfl (y_fld rfl fl94_4) rfl ?_
  refine WSs.valG rfl rfl rfl (y_ld rfl sc22 (Sat.at 6 rfl) (by rfl)) rfl ?_
  refine WSs.pureG rfl rfl rfl (y_ne rfl rfl (decide_eq_false (by show ¬ ((x.seq - 1 : Nat) : Int) ≠ (S.seq : Int); omega))) rfl ?_
  refine WSs.pure rfl (y_pick rfl rfl) rfl ?_
  refine WSs.pure rfl (y_asgn rfl) rfl ?_
  refine WSs.nil ?_
  refine WEs.then_n ?_
  refine WCs.cond_f rfl rfl ?_
  refine WCs.skip ?_
  refine WEs.in_n ?_
  refine WEs.then_n ?_
  refine WCs.seq ?_
  refine WCs.region ?_
  refine WLs.val (y_move rfl) rfl <| WLs.val (y_nil rfl) rfl <| WLs.val (y_fld rfl fl94_4) rfl <| WLs.val (y_ld rfl sc22 (Sat.at 6 rfl) (by rfl)) rfl <| ?_
  refine WLs.val (y_add rfl rfl (wrap_succ64 h5)) rfl <| ?_
  refine WLs.val (y_nil rfl) rfl <| WLs.val (y_fld rfl fl94_4) rfl <| ?_
  refine WLs.store 6 rfl rfl sz22 rfl (Nat.le_of_ble_eq_true rfl) rfl (show (stoC S pt' pp bs).setIfInBounds 7 _ = stoC { S with seq := S.seq + 1 } pt' pp bs from rfl) ?_
  refine WLs.nil ?_
  refine WEs.then_n ?_
  refine WCs.seq ?_
  refine WCs.draw (.one 0 3 (.one 1 3 (.one 2 3 (.one 3 3 (.one 4 0 (.one 5 3 (.one 6 0 (.one 7 3 (.one 8 3 (.one 9 3 (.one 10 2 .nil))))))))))) [10] Tryz.mixed (by kernel_rfl) (by kernel_rfl) rfl (Pf.then Pf.body) (fun _ h => h) ?_
  refine WSs.pure rfl (y_move rfl) rfl ?_
  refine WSs.pure rfl (y_move rfl) rfl ?_
  refine WSs.pure rfl (y_nil rfl) rfl ?_
  refine WSs.pure rfl (y_fld rfl fl94_5) rfl ?_
  refine WSs.val rfl (y_ld rfl sc22 (Sat.at 6 rfl) (by rfl)) rfl ?_
  refine WSs.pure rfl (y_fld rfl fl54_1) rfl ?_
  refine WSs.val rfl (y_ld rfl sc22 (Sat.at 1 rfl) (by rfl)) rfl ?_
  refine WSs.pure rfl (y_max rfl rfl) rfl ?_
  refine WSs.pure rfl (y_nil rfl) rfl ?_
  refine WSs.pure rfl (y_fld rfl fl94_5) rfl ?_
  refine WSs.store 6 rfl rfl rfl sz22 rfl (Nat.le_of_ble_eq_true rfl) rfl (show (stoC { S with seq := S.seq + 1 } pt' pp bs).setIfInBounds 8 (.int .u64 (max (S.now : Int) (x.now : Int))) = stoC (S.at x) pt' pp bs by rw [hmx]; rfl) ?_
  refine WSs.nil ?_
  refine WEs.then_n ?_
  refine WCs.seq ?_
  refine WCs.seq ?_
  refine WCs.draw (.one 0 3 (.one 1 3 (.one 2 3 (.one 3 0 (.one 4 3 (.one 5 3 (.one 6 3 (.one 7 0 (.one 10 3 (.one 8 2 (.one 9 3 .nil))))))))))) [8] Tryz.mixed (by kernel_rfl) (by kernel_rfl) rfl (Pf.then (Pf.then Pf.body)) (fun _ h => h) ?_
  refine WSs.pure rfl (y_move rfl) rfl ?_
  refine WSs.pure rfl (y_nil rfl) rfl ?_
  refine WSs.pure rfl (y_fld rfl fl94_1) rfl ?_
  refine WSs.val rfl (y_ld rfl sc90 (Sat.at 6 rfl) (by rfl)) rfl ?_
  refine WSs.pure rfl (y_move rfl) rfl ?_
  refine WSs.pure rfl (y_nil rfl) rfl ?_
  refine WSs.pure rfl (y_fld rfl fl94_5) rfl ?_
  refine WSs.val rfl (y_ld rfl sc22 (Sat.at 6 rfl) (by rfl)) rfl ?_
  refine WSs.pure rfl (y_move rfl) rfl ?_
  refine WSs.callB rfl Tryz.func34 rfl rfl rfl rfl (fun w hs => table_Ended (m := S.tab) (b := bt) (p := pt') (now := max S.now x.now) (L := _ :: _ :: _ :: _ :: _ :: L) (hs.selN 7 [2, 3, 0, 1, 4, 5, 6] (by decide)) hi) ?_
  rintro v61 w61 hs61
  rw [hend] at hs61
  obtain ⟨sa, sc, rfl⟩ := hs61.lenS 0 rfl
  refine ⟨_, hs61.tail, WSs.go hs61.tail ?_⟩
  refine WSs.pure rfl (y_lenL rfl sl97) rfl ?_
  refine WSs.nil ?_
  refine WEs.then_n ?_
  refine WCs.block ?_
  refine WCs.unroll 0 ?_
  refine WCs.seq ?_
  refine WCs.region ?_
  refine WLs.val (y_lt rfl rfl rfl) rfl <| ?_
  refine WLs.nil ?_
  refine WEs.then_n ?_
  refine WCs.seq ?_
  refine WCs.cond_f rfl rfl ?_
  refine WCs.exit ?_
  refine WEs.then_exit ?_
  refine WEs.then_exit ?_
  refine WEs.in_same ?_
  refine WEs.then_n ?_
  refine WCs.seq ?_
  refine WCs.seq ?_
  refine WCs.region ?_
  refine WLs.val (y_fld rfl fl54_4) rfl <| WLs.val (y_fld rfl fl52_0) rfl <| WLs.val (y_ld rfl sc3 (Sat.at 3 rfl) (by rfl)) rfl <| ?_
  refine WLs.val (y_eq rfl rfl (decide_eq_false hk)) rfl <| ?_
  refine WLs.nil ?_
  refine WEs.then_n ?_
  refine WCs.cond_f rfl rfl ?_
  refine WCs.skip ?_
  refine WEs.then_n ?_
  refine WCs.seq ?_
  refine WCs.draw (.one 0 3 (.one 1 3 (.one 2 3 (.one 3 0 (.one 4 3 (.one 5 0 (.one 6 0 (.one 7 3 (.one 8 3 (.one 9 3 (.one 10 1 (.one 11 2 (.one 12 3 .nil))))))))))))) [11] Tryz.mixed (by kernel_rfl) (by kernel_rfl) rfl (Pf.then Pf.body) (fun _ h => h) ?_
  refine WSs.pure rfl (y_move rfl) rfl ?_
  refine WSs.pure rfl (y_nil rfl) rfl ?_
  refine WSs.pure rfl (y_fld rfl fl94_3) rfl ?_
  refine WSs.val rfl (y_ld rfl sc92 (Sat.at 6 rfl) (by rfl)) rfl ?_
  refine WSs.pure rfl (y_fld rfl fl54_2) rfl ?_
  refine WSs.val rfl (y_ld rfl sc22 (Sat.at 3 rfl) (by rfl)) rfl ?_
  refine WSs.val rfl (y_look (enc := sesEnc) (en := lastv) rfl rfl (keyInt in22) mp92 zr101 (Sat.atM 5 rfl) hg) rfl ?_
  refine WSs.pure rfl (y_move rfl) rfl ?_
  refine WSs.pure rfl (y_ext rfl rfl) rfl ?_
  refine WSs.pure rfl (y_ext rfl rfl) rfl ?_
  refine WSs.alloc rfl zr101 rfl (fun _ _ h => h.tail) (fun l => ?_)
  refine WSs.storeA 0 rfl rfl rfl sz101 rfl rfl (Nat.le_of_ble_eq_true rfl) rfl rfl ?_
  refine WSs.pure rfl (y_asgn rfl) rfl ?_
  refine WSs.nil ?_
  refine WEs.then_n ?_
  refine WCs.seq ?_
  refine WCs.block ?_
  refine WCs.seq ?_
  refine WCs.region ?_
  refine WLs.val (y_move rfl) rfl <| WLs.val (y_move rfl) rfl <| WLs.skipped rfl rfl rfl <| WLs.skipped rfl rfl rfl <| WLs.skipped rfl rfl rfl <| WLs.skipped rfl rfl rfl <| WLs.skipped rfl rfl rfl <| WLs.val (y_pick rfl rfl) rfl <| WLs.val (y_asgn rfl) rfl <| ?_
  refine WLs.nil ?_
  refine WEs.then_n ?_
  refine WCs.cond_f rfl rfl ?_
  refine WCs.seq ?_
  refine WCs.region ?_
  refine WLs.val (y_move rfl) rfl <| WLs.val (y_move rfl) rfl <| WLs.skipped rfl rfl rfl <| WLs.skipped rfl rfl rfl <| WLs.skipped rfl rfl rfl <| WLs.skipped rfl rfl rfl <| WLs.skipped rfl rfl rfl <| WLs.val (y_pick rfl rfl) rfl <| WLs.val (y_asgn rfl) rfl <| ?_
  refine WLs.nil ?_
  refine WEs.then_n ?_
  refine WCs.cond_f rfl rfl ?_
  refine WCs.seq ?_
  refine WCs.region ?_
  refine WLs.val (y_move rfl) rfl <| WLs.val (y_not rfl) rfl <| WLs.val (y_move rfl) rfl <| WLs.guarded rfl rfl <| WLs.val (y_move rfl) rfl <| WLs.guarded rfl rfl <| WLs.val (y_nil rfl) rfl <| WLs.guarded rfl rfl <| WLs.val (y_fld rfl fl94_3) rfl <| WLs.guarded rfl rfl <| WLs.val (y_ld rfl sc92 (Sat.at 7 rfl) (by rfl)) rfl <| ?_
  refine WLs.guarded rfl rfl <| WLs.val (y_lenM rfl mp92 (Sat.atM 6 rfl)) rfl <| ?_
  refine WLs.guarded rfl rfl <| WLs.val (y_ge rfl rfl (decide_eq_false (by show ¬ (64 : Int) ≤ (S.ses.length : Int); omega))) rfl <| ?_
  refine WLs.val (y_pick rfl rfl) rfl <| WLs.val (y_asgn rfl) rfl <| ?_
  refine WLs.nil ?_
  refine WEs.then_n ?_
  refine WCs.cond_f rfl rfl ?_
  refine WCs.skip ?_
  refine WEs.in_n ?_
  refine WEs.then_n ?_
  refine WCs.seq ?_
  refine WCs.region ?_
  refine WLs.val (y_move rfl) rfl <| WLs.val (y_fld rfl fl54_4) rfl <| WLs.val (y_ldA rfl ag52 (Sat.at 4 rfl) (Nat.le_of_ble_eq_true rfl) (by rfl)) rfl <| ?_
  refine WLs.callE Tryz.func37 rfl rfl rfl rfl (fun w hs => hdo (_ :: _ :: _ :: L) w (hs.selN 8 [1, 2, 5, 6, 7, 0, 3, 4] (by decide))) ?_
  refine WLs.alloc zr61 rfl (fun e => ?_)
  refine WLs.storeA 0 rfl rfl sz61 rfl rfl (Nat.le_of_ble_eq_true rfl) rfl rfl ?_
  refine WLs.nil ?_
  refine WEs.then_n ?_
  refine WCs.seq ?_
  refine WCs.draw (.one 0 3 (.one 1 3 (.one 2 3 (.one 3 0 (.one 4 3 (.one 5 0 (.one 6 3 (.one 7 0 (.one 8 0 (.one 9 3 (.one 10 2 .nil))))))))))) [10] Tryz.mixed (by kernel_rfl) (by kernel_rfl) rfl (Pf.then Pf.body) (fun _ h => h) ?_
  refine WSs.pure rfl (y_move rfl) rfl ?_
  refine WSs.pure rfl (y_nil rfl) rfl ?_
  refine WSs.pure rfl (y_fld rfl fl94_3) rfl ?_
  refine WSs.val rfl (y_ld rfl sc92 (Sat.at 5 rfl) (by rfl)) rfl ?_
  refine WSs.pure rfl (y_fld rfl fl54_2) rfl ?_
  refine WSs.val rfl (y_ld rfl sc22 (Sat.at 8 rfl) (by rfl)) rfl ?_
  refine WSs.pure rfl (y_fld rfl fl54_3) rfl ?_
  refine WSs.val rfl (y_ld rfl sc22 (Sat.at 8 rfl) (by rfl)) rfl ?_
  refine WSs.val rfl (y_ldA rfl ag61 (Sat.at 0 rfl) (Nat.le_of_ble_eq_true rfl) (by rfl)) rfl ?_
  refine WSs.pure rfl (y_build (is := [0, 1]) (xs := [.tmp 139, .tmp 140]) #[(0, .tmp 139), (1, .tmp 140)] rfl rfl pl101 zr101 rfl) rfl ?_
  refine WSs.mapput (enc := sesEnc) (en := lastv) (v := ⟨x.num, rep⟩) 4 rfl rfl rfl rfl (keyInt in22) mp92 rfl ?_
  refine WSs.nil ?_
  refine WEs.then_n ?_
  refine WCs.seq ?_
  refine WCs.region ?_
  refine WLs.val (y_ldA rfl ag61 (Sat.at 0 rfl) (Nat.le_of_ble_eq_true rfl) (by rfl)) rfl <| ?_
  refine WLs.storeA 7 rfl rfl sz61 rfl rfl (Nat.le_of_ble_eq_true rfl) rfl rfl ?_
  refine WLs.val (y_asgn rfl) rfl <| ?_
  refine WLs.nil ?_
  refine WEs.then_n ?_
  refine WCs.ret ?_
  refine WEs.retCT (.inr rfl) rfl rfl rfl ag61 7 rfl (Nat.le_of_ble_eq_true rfl) rfl ?_
  exact fun w hs => ⟨rfl, hs.selN 9 [1, 2, 3, 4, 5] (by decide)⟩

set_option maxHeartbeats 4000000 in
theorem store_Apply_next {w : World} {L : List Asrt} {bt pt' pp bs ps : Nat} {S : Sto} {S2 : Sto} {x : Rec} {rep : Rep} (hs : Sat w (stoL bt pt' pp bs ps S L)) (hi : TInv S.tab) (hok : x.op.ok = true) (hseq : x.seq = S.seq + 1) (h5 : S.seq + 1 < 18446744073709551616) (hend : endedOf S.tab (max S.now x.now) = []) (hk : x.op.kind ≠ 5)
    (hdo : DoesDo bt pt' pp bs ps x.op (S.at x) rep S2) {l : Last} (hg : mget S.ses (x.session : Int) = some l) (hnum : l.num < x.num) :
    Does Tryz.prog 13 [rp ps, recv x] w fun v w' => v = .tuple #[repv rep, .int .i64 0] ∧ Sat w' (stoL bt pt' pp bs ps { S2 with ses := mput S2.ses (x.session : Int) ⟨x.num, rep⟩ } L) := by
  have hmx : max (S.now : Int) (x.now : Int) = ((max S.now x.now : Nat) : Int) := by omega
  refine Does.enters hs (n := 143) Tryz.func13 rfl rfl rfl rfl ?_
  refine WCs.seq ?_
  refine WCs.region ?_
  refine WLs.box rfl rfl (fun q => ?_)
  refine WLs.alloc zr61 rfl (fun r => ?_)
  refine WLs.val (y_asgn rfl) rfl <| ?_
  refine WLs.nil ?_
  refine WEs.then_n ?_
  refine WCs.seq ?_
  refine WCs.block ?_
  refine WCs.seq ?_
  refine WCs.region ?_
  refine WLs.val (y_move rfl) rfl <| WLs.val (y_peq rfl rfl pt27) rfl <| WLs.val (y_move rfl) rfl <| WLs.guarded rfl rfl <| WLs.val (y_fld rfl fl54_4) rfl <| WLs.guarded rfl rfl <| WLs.val (y_ldA rfl ag52 (Sat.at 1 rfl) (Nat.le_of_ble_eq_true rfl) (by rfl)) rfl <| ?_
  refine WLs.guarded rfl rfl <| ?_
  refine WLs.callE Tryz.func33 rfl rfl rfl rfl (fun w hs => hok ▸ op_Check (o := x.op) hs) ?_
  refine WLs.guarded rfl rfl <| WLs.val (y_not rfl) rfl <| WLs.val (y_pick rfl rfl) rfl <| WLs.val (y_asgn rfl) rfl <| ?_
  refine WLs.nil ?_
  refine WEs.then_n ?_
  refine WCs.cond_f rfl rfl ?_
  refine WCs.seq ?_
  refine WCs.draw (.one 0 3 (.one 1 0 (.one 2 3 (.one 3 3 (.one 4 3 (.one 5 0 (.one 6 3 (.one 7 3 (.one 8 3 (.one 9 3 (.one 10 0 (.one 11 3 (.one 12 3 (.one 13 3 .nil)))))))))))))) [] Tryz.mixed (by kernel_rfl) (by kernel_rfl) rfl (Pf.then (Pf.block (Pf.then Pf.body))) (fun _ h => h) ?_
  refine WSs.pure rfl (y_fld rfl fl54_0) rfl ?_
  refine WSs.val rfl (y_ld rfl sc22 (Sat.at 1 rfl) (by rfl)) rfl ?_
  refine WSs.pure rfl (y_eq rfl rfl (decide_eq_false (by omega))) rfl ?_
  refine WSs.pure rfl (y_move rfl) rfl ?_
  refine WSs.pureG rfl rfl rfl (y_fld rfl fl54_0) rfl ?_
  refine WSs.valG rfl rfl rfl (y_ld rfl sc22 (Sat.at 1 rfl) (by rfl)) rfl ?_
  refine WSs.pureG rfl rfl rfl (y_sub rfl rfl (show IntKind.u64.wrap ((x.seq : Int) - 1) = ((x.seq - 1 : Nat) : Int) by rw [wrap_u64 (by omega)]; omega)) rfl ?_
  refine WSs.pureG rfl rfl rfl (y_move rfl) rfl ?_
  refine WSs.pureG rfl rfl rfl (y_nil rfl) rfl ?_
  refine WSs.pureG rfl rfl rfl (y_fld rfl fl94_4) rfl ?_
  refine WSs.valG rfl rfl rfl (y_ld rfl sc22 (Sat.at 6 rfl) (by rfl)) rfl ?_
  refine WSs.pureG rfl rfl rfl (y_ne rfl rfl (decide_eq_false (by show ¬ ((x.seq - 1 : Nat) : Int) ≠ (S.seq : Int); omega))) rfl ?_
  refine WSs.pure rfl (y_pick rfl rfl) rfl ?_
  refine WSs.pure rfl (y_asgn rfl) rfl ?_
  refine WSs.nil ?_
  refine WEs.then_n ?_
  refine WCs.cond_f rfl rfl ?_
  refine WCs.skip ?_
  refine WEs.in_n ?_
  refine WEs.then_n ?_
  refine WCs.seq ?_
  refine WCs.region ?_
  refine WLs.val (y_move rfl) rfl <| WLs.val (y_nil rfl) rfl <| WLs.val (y_fld rfl fl94_4) rfl <| WLs.val (y_ld rfl sc22 (Sat.at 6 rfl) (by rfl)) rfl <| ?_
  refine WLs.val (y_add rfl rfl (wrap_succ64 h5)) rfl <| ?_
  refine WLs.val (y_nil rfl) rfl <| WLs.val (y_fld rfl fl94_4) rfl <| ?_
  refine WLs.store 6 rfl rfl sz22 rfl (Nat.le_of_ble_eq_true rfl) rfl (show (stoC S pt' pp bs).setIfInBounds 7 _ = stoC { S with seq := S.seq + 1 } pt' pp bs from rfl) ?_
  refine WLs.nil ?_
  refine WEs.then_n ?_
  refine WCs.seq ?_
  refine WCs.draw (.one 0 3 (.one 1 3 (.one 2 3 (.one 3 3 (.one 4 0 (.one 5 3 (.one 6 0 (.one 7 3 (.one 8 3 (.one 9 3 (.one 10 2 .nil))))))))))) [10] Tryz.mixed (by kernel_rfl) (by kernel_rfl) rfl (Pf.then Pf.body) (fun _ h => h) ?_
  refine WSs.pure rfl (y_move rfl) rfl ?_
  refine WSs.pure rfl (y_move rfl) rfl ?_
  refine WSs.pure rfl (y_nil rfl) rfl ?_
  refine WSs.pure rfl (y_fld rfl fl94_5) rfl ?_
  refine WSs.val rfl (y_ld rfl sc22 (Sat.at 6 rfl) (by rfl)) rfl ?_
  refine WSs.pure rfl (y_fld rfl fl54_1) rfl ?_
  refine WSs.val rfl (y_ld rfl sc22 (Sat.at 1 rfl) (by rfl)) rfl ?_
  refine WSs.pure rfl (y_max rfl rfl) rfl ?_
  refine WSs.pure rfl (y_nil rfl) rfl ?_
  refine WSs.pure rfl (y_fld rfl fl94_5) rfl ?_
  refine WSs.store 6 rfl rfl rfl sz22 rfl (Nat.le_of_ble_eq_true rfl) rfl (show (stoC { S with seq := S.seq + 1 } pt' pp bs).setIfInBounds 8 (.int .u64 (max (S.now : Int) (x.now : Int))) = stoC (S.at x) pt' pp bs by rw [hmx]; rfl) ?_
  refine WSs.nil ?_
  refine WEs.then_n ?_
  refine WCs.seq ?_
  refine WCs.seq ?_
  refine WCs.draw (.one 0 3 (.one 1 3 (.one 2 3 (.one 3 0 (.one 4 3 (.one 5 3 (.one 6 3 (.one 7 0 (.one 10 3 (.one 8 2 (.one 9 3 .nil))))))))))) [8] Tryz.mixed (by kernel_rfl) (by kernel_rfl) rfl (Pf.then (Pf.then Pf.body)) (fun _ h => h) ?_
  refine WSs.pure rfl (y_move rfl) rfl ?_
  refine WSs.pure rfl (y_nil rfl) rfl ?_
  refine WSs.pure rfl (y_fld rfl fl94_1) rfl ?_
  refine WSs.val rfl (y_ld rfl sc90 (Sat.at 6 rfl) (by rfl)) rfl ?_
  refine WSs.pure rfl (y_move rfl) rfl ?_
  refine WSs.pure rfl (y_nil rfl) rfl ?_
  refine WSs.pure rfl (y_fld rfl fl94_5) rfl ?_
  refine WSs.val rfl (y_ld rfl sc22 (Sat.at 6 rfl) (by rfl)) rfl ?_
  refine WSs.pure rfl (y_move rfl) rfl ?_
  refine WSs.callB rfl Tryz.func34 rfl rfl rfl rfl (fun w hs => table_Ended (m := S.tab) (b := bt) (p := pt') (now := max S.now x.now) (L := _ :: _ :: _ :: _ :: _ :: L) (hs.selN 7 [2, 3, 0, 1, 4, 5, 6] (by decide)) hi) ?_
  rintro v61 w61 hs61
  rw [hend] at hs61
  obtain ⟨sa, sc, rfl⟩ := hs61.lenS 0 rfl
  refine ⟨_, hs61.tail, WSs.go hs61.tail ?_⟩
  refine WSs.pure rfl (y_lenL rfl sl97) rfl ?_
  refine WSs.nil ?_
  refine WEs.then_n ?_
  refine WCs.block ?_
  refine WCs.unroll 0 ?_
  refine WCs.seq ?_
  refine WCs.region ?_
  refine WLs.val (y_lt rfl rfl rfl) rfl <| ?_
  refine WLs.nil ?_
  refine WEs.then_n ?_
  refine WCs.seq ?_
  refine WCs.cond_f rfl rfl ?_
  refine WCs.exit ?_
  refine WEs.then_exit ?_
  refine WEs.then_exit ?_
  refine WEs.in_same ?_
  refine WEs.then_n ?_
  refine WCs.seq ?_
  refine WCs.seq ?_
  refine WCs.region ?_
  refine WLs.val (y_fld rfl fl54_4) rfl <| WLs.val (y_fld rfl fl52_0) rfl <| WLs.val (y_ld rfl sc3 (Sat.at 3 rfl) (by rfl)) rfl <| ?_
  refine WLs.val (y_eq rfl rfl (decide_eq_false hk)) rfl <| ?_
  refine WLs.nil ?_
  refine WEs.then_n ?_
  refine WCs.cond_f rfl rfl ?_
  refine WCs.skip ?_
  refine WEs.then_n ?_
  refine WCs.seq ?_
  refine WCs.draw (.one 0 3 (.one 1 3 (.one 2 3 (.one 3 0 (.one 4 3 (.one 5 0 (.one 6 0 (.one 7 3 (.one 8 3 (.one 9 3 (.one 10 1 (.one 11 2 (.one 12 3 .nil))))))))))))) [11] Tryz.mixed (by kernel_rfl) (by kernel_rfl) rfl (Pf.then Pf.body) (fun _ h => h) ?_
  refine WSs.pure rfl (y_move rfl) rfl ?_
  refine WSs.pure rfl (y_nil rfl) rfl ?_
  refine WSs.pure rfl (y_fld rfl fl94_3) rfl ?_
  refine WSs.val rfl (y_ld rfl sc92 (Sat.at 6 rfl) (by rfl)) rfl ?_
  refine WSs.pure rfl (y_fld rfl fl54_2) rfl ?_
  refine WSs.val rfl (y_ld rfl sc22 (Sat.at 3 rfl) (by rfl)) rfl ?_
  refine WSs.val rfl (y_look (enc := sesEnc) (en := lastv) rfl rfl (keyInt in22) mp92 zr101 (Sat.atM 5 rfl) hg) rfl ?_
  refine WSs.pure rfl (y_move rfl) rfl ?_
  refine WSs.pure rfl (y_ext rfl rfl) rfl ?_
  refine WSs.pure rfl (y_ext rfl rfl) rfl ?_
  refine WSs.alloc rfl zr101 rfl (fun _ _ h => h.tail) (fun l => ?_)
  refine WSs.storeA 0 rfl rfl rfl sz101 rfl rfl (Nat.le_of_ble_eq_true rfl) rfl rfl ?_
  refine WSs.pure rfl (y_asgn rfl) rfl ?_
  refine WSs.nil ?_
  refine WEs.then_n ?_
  refine WCs.seq ?_
  refine WCs.block ?_
  refine WCs.seq ?_
  refine WCs.region ?_
  refine WLs.val (y_move rfl) rfl <| WLs.val (y_move rfl) rfl <| WLs.guarded rfl rfl <| WLs.val (y_fld rfl fl54_3) rfl <| WLs.guarded rfl rfl <| WLs.val (y_ld rfl sc22 (Sat.at 4 rfl) (by rfl)) rfl <| ?_
  refine WLs.guarded rfl rfl <| WLs.val (y_fld rfl fl101_0) rfl <| WLs.guarded rfl rfl <| WLs.val (y_ld rfl sc22 (Sat.at 0 rfl) (by rfl)) rfl <| ?_
  refine WLs.guarded rfl rfl <| WLs.val (y_eq rfl rfl (decide_eq_false (by omega))) rfl <| ?_
  refine WLs.val (y_pick rfl rfl) rfl <| WLs.val (y_asgn rfl) rfl <| ?_
  refine WLs.nil ?_
  refine WEs.then_n ?_
  refine WCs.cond_f rfl rfl ?_
  refine WCs.seq ?_
  refine WCs.region ?_
  refine WLs.val (y_move rfl) rfl <| WLs.val (y_move rfl) rfl <| WLs.guarded rfl rfl <| WLs.val (y_fld rfl fl54_3) rfl <| WLs.guarded rfl rfl <| WLs.val (y_ld rfl sc22 (Sat.at 4 rfl) (by rfl)) rfl <| ?_
  refine WLs.guarded rfl rfl <| WLs.val (y_fld rfl fl101_0) rfl <| WLs.guarded rfl rfl <| WLs.val (y_ld rfl sc22 (Sat.at 0 rfl) (by rfl)) rfl <| ?_
  refine WLs.guarded rfl rfl <| WLs.val (y_lt rfl rfl (decide_eq_false (by omega))) rfl <| ?_
  refine WLs.val (y_pick rfl rfl) rfl <| WLs.val (y_asgn rfl) rfl <| ?_
  refine WLs.nil ?_
  refine WEs.then_n ?_
  refine WCs.cond_f rfl rfl ?_
  refine WCs.seq ?_
  refine WCs.region ?_
  refine WLs.val (y_move rfl) rfl <| WLs.val (y_not rfl) rfl <| WLs.val (y_move rfl) rfl <| WLs.skipped rfl rfl rfl <| WLs.skipped rfl rfl rfl <| WLs.skipped rfl rfl rfl <| WLs.skipped rfl rfl rfl <| WLs.skipped rfl rfl rfl <| WLs.skipped rfl rfl rfl <| WLs.val (y_pick rfl rfl) rfl <| WLs.val (y_asgn rfl) rfl <| ?_
  refine WLs.nil ?_
  refine WEs.then_n ?_
  refine WCs.cond_f rfl rfl ?_
  refine WCs.skip ?_
  refine WEs.in_n ?_
  refine WEs.then_n ?_
  refine WCs.seq ?_
  refine WCs.region ?_
  refine WLs.val (y_move rfl) rfl <| WLs.val (y_fld rfl fl54_4) rfl <| WLs.val (y_ldA rfl ag52 (Sat.at 4 rfl) (Nat.le_of_ble_eq_true rfl) (by rfl)) rfl <| ?_
  refine WLs.callE Tryz.func37 rfl rfl rfl rfl (fun w hs => hdo (_ :: _ :: _ :: L) w (hs.selN 8 [1, 2, 5, 6, 7, 0, 3, 4] (by decide))) ?_
  refine WLs.alloc zr61 rfl (fun e => ?_)
  refine WLs.storeA 0 rfl rfl sz61 rfl rfl (Nat.le_of_ble_eq_true rfl) rfl rfl ?_
  refine WLs.nil ?_
  refine WEs.then_n ?_
  refine WCs.seq ?_
  refine WCs.draw (.one 0 3 (.one 1 3 (.one 2 3 (.one 3 0 (.one 4 3 (.one 5 0 (.one 6 3 (.one 7 0 (.one 8 0 (.one 9 3 (.one 10 2 .nil))))))))))) [10] Tryz.mixed (by kernel_rfl) (by kernel_rfl) rfl (Pf.then Pf.body) (fun _ h => h) ?_
  refine WSs.pure rfl (y_move rfl) rfl ?_
  refine WSs.pure rfl (y_nil rfl) rfl ?_
  refine WSs.pure rfl (y_fld rfl fl94_3) rfl ?_
  refine WSs.val rfl (y_ld rfl sc92 (Sat.at 5 rfl) (by rfl)) rfl ?_
  refine WSs.pure rfl (y_fld rfl fl54_2) rfl ?_
  refine WSs.val rfl (y_ld rfl sc22 (Sat.at 8 rfl) (by rfl)) rfl ?_
  refine WSs.pure rfl (y_fld rfl fl54_3) rfl ?_
  refine WSs.val rfl (y_ld rfl sc22 (Sat.at 8 rfl) (by rfl)) rfl ?_
  refine WSs.val rfl (y_ldA rfl ag61 (Sat.at 0 rfl) (Nat.le_of_ble_eq_true rfl) (by rfl)) rfl ?_
  refine WSs.pure rfl (y_build (is := [0, 1]) (xs := [.tmp 139, .tmp 140]) #[(0, .tmp 139), (1, .tmp 140)] rfl rfl pl101 zr101 rfl) rfl ?_
  refine WSs.mapput (enc := sesEnc) (en := lastv) (v := ⟨x.num, rep⟩) 4 rfl rfl rfl rfl (keyInt in22) mp92 rfl ?_
  refine WSs.nil ?_
  refine WEs.then_n ?_
  refine WCs.seq ?_
  refine WCs.region ?_
  refine WLs.val (y_ldA rfl ag61 (Sat.at 0 rfl) (Nat.le_of_ble_eq_true rfl) (by rfl)) rfl <| ?_
  refine WLs.storeA 7 rfl rfl sz61 rfl rfl (Nat.le_of_ble_eq_true rfl) rfl rfl ?_
  refine WLs.val (y_asgn rfl) rfl <| ?_
  refine WLs.nil ?_
  refine WEs.then_n ?_
  refine WCs.ret ?_
  refine WEs.retCT (.inr rfl) rfl rfl rfl ag61 7 rfl (Nat.le_of_ble_eq_true rfl) rfl ?_
  exact fun w hs => ⟨rfl, hs.selN 9 [1, 2, 3, 4, 5] (by decide)⟩
end Go.Proofs.YteoplijfofohkaaGreat
