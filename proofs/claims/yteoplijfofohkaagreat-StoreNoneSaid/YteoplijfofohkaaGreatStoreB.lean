/- The contracts of package store: the cache without one, and as far as awake goes. -/
import Derived.Test.YteoplijfofohkaaGreatStore
namespace Go.Proofs.YteoplijfofohkaaGreat
open Go Go.Sx Go.Hw
theorem ag61 : tAgg Tryz.prog 61 3 = true := by kernel_rfl
theorem fl105_2 : tFld Tryz.prog 105 2 2 = true := by kernel_rfl
theorem fl75_0 : tFld Tryz.prog 75 0 0 = true := by kernel_rfl
theorem fl75_1 : tFld Tryz.prog 75 1 1 = true := by kernel_rfl
theorem fl94_0 : tFld Tryz.prog 94 0 0 = true := by kernel_rfl
theorem fl94_1 : tFld Tryz.prog 94 1 4 = true := by kernel_rfl
theorem fl94_2 : tFld Tryz.prog 94 2 5 = true := by kernel_rfl
theorem fl94_6 : tFld Tryz.prog 94 6 9 = true := by kernel_rfl
theorem fl94_7 : tFld Tryz.prog 94 7 10 = true := by kernel_rfl
theorem sc2 : tScal Tryz.prog 2 = true := by kernel_rfl
theorem sc87 : tScal Tryz.prog 87 = true := by kernel_rfl
theorem sz2 : tSize Tryz.prog 2 1 = true := by kernel_rfl
theorem sz22 : tSize Tryz.prog 22 1 = true := by kernel_rfl
theorem sz61 : tSize Tryz.prog 61 3 = true := by kernel_rfl
theorem zr61 : tZero Tryz.prog 61 (.agg #[(.int .i64 0), (str []), (.int .u64 0)]) := tZero_of (by kernel_rfl)
theorem pl105 : tPlaces Tryz.prog 105 #[(0, 1), (1, 1), (2, 1), (3, 1)] := tPlaces_of (by kernel_rfl)
theorem pl61 : tPlaces Tryz.prog 61 #[(0, 1), (1, 1), (2, 1)] := tPlaces_of (by kernel_rfl)
variable [Env]
omit [Env] in
theorem wrap_succ64 {k : Nat} (h : k + 1 < 18446744073709551616) : IntKind.u64.wrap ((k : Int) + 1) = ((k + 1 : Nat) : Int) := by rw [wrap_u64 (by omega)]; omega
/-- the cache behind a put for which there is room -/
def _root_.Go.Hw.Sto.putFit (S : Sto) (a : Arc) (o : Req) : Sto :=
  { S with tab := tabPut S.tab ⟨o.key, o.value, S.version + 1, 0⟩, pol := .arc (a.insert o.key).1, version := S.version + 1 }

theorem store_put {w : World} {L : List Asrt} {bt pt' pp bs ps : Nat} {S : Sto} {a : Arc} {o : Req} {byt : Nat} (hs : Sat w (stoL bt pt' pp bs ps { S with pol := .arc a } L)) (ha : a.Inv) (hi : TInv S.tab) (h1 : o.key.length ≤ 64) (h2 : o.value.length ≤ 4096) (hb : S.c.bytes = byt)
    (h3 : o.key.length + o.value.length ≤ byt) (h4 : o.ttl = 0) (h5 : S.version + 1 < 18446744073709551616) (h6 : (a.insert o.key).2 = []) (h7 : tabBytes (tabPut S.tab ⟨o.key, o.value, S.version + 1, 0⟩) ≤ byt) :
    Does Tryz.prog 72 [rp ps, reqv o] w fun v w' => v = repv ⟨0, [], S.version + 1⟩ ∧ Sat w' (stoL bt pt' pp bs ps (S.putFit a o) L) := by
  refine Does.enters hs (n := 121) Tryz.func72 rfl rfl rfl rfl ?_
  refine WCs.seq ?_
  refine WCs.region ?_
  refine WLs.box rfl rfl (fun q => ?_)
  refine WLs.alloc zr61 rfl (fun r => ?_)
  refine WLs.nil ?_
  refine WEs.then_n ?_
  refine WCs.seq ?_
  refine WCs.seq ?_
  refine WCs.draw (.one 0 3 (.one 1 0 (.one 2 3 (.one 3 3 (.one 4 0 (.one 5 3 (.one 6 3 (.one 7 3 (.one 8 3 (.one 9 3 (.one 10 3 (.one 11 0 (.one 12 3 .nil))))))))))))) [] Tryz.mixed (by kernel_rfl) (by kernel_rfl) rfl (Pf.then (Pf.then Pf.body)) (fun _ h => h) ?_
  refine WSs.pure rfl (y_fld rfl fl52_1) rfl ?_
  refine WSs.val rfl (y_ld rfl sc9 (Sat.at 1 rfl) (by rfl)) rfl ?_
  refine WSs.pure rfl (y_lenS rfl st9) rfl ?_
  refine WSs.pure rfl (y_fld rfl fl52_2) rfl ?_
  refine WSs.val rfl (y_ld rfl sc9 (Sat.at 1 rfl) (by rfl)) rfl ?_
  refine WSs.pure rfl (y_lenS rfl st9) rfl ?_
  refine WSs.pure rfl (y_add rfl rfl (wrap_i64 (by omega))) rfl ?_
  refine WSs.pure rfl (y_move rfl) rfl ?_
  refine WSs.pure rfl (y_nil rfl) rfl ?_
  refine WSs.pure rfl (y_fld rfl fl94_0) rfl ?_
  refine WSs.pure rfl (y_fld rfl fl24_2) rfl ?_
  refine WSs.val rfl (y_ld rfl sc3 (Sat.at 6 rfl) (by rfl)) rfl ?_
  refine WSs.pure rfl (y_gt rfl rfl (decide_eq_false (by show ¬ S.c.bytes < _; omega))) rfl ?_
  refine WSs.nil ?_
  refine WEs.then_n ?_
  refine WCs.cond_f rfl rfl ?_
  refine WCs.skip ?_
  refine WEs.then_n ?_
  refine WCs.seq ?_
  refine WCs.region ?_
  refine WLs.val (y_move rfl) rfl <| WLs.val (y_nil rfl) rfl <| WLs.val (y_fld rfl fl94_6) rfl <| WLs.val (y_ld rfl sc22 (Sat.at 6 rfl) (by rfl)) rfl <| ?_
  refine WLs.val (y_add rfl rfl (wrap_succ64 h5)) rfl <| ?_
  refine WLs.val (y_nil rfl) rfl <| WLs.val (y_fld rfl fl94_6) rfl <| ?_
  refine WLs.store 6 rfl rfl sz22 rfl (Nat.le_of_ble_eq_true rfl) rfl (show (stoC S pt' pp bs).setIfInBounds 9 _ = stoC { S with version := S.version + 1 } pt' pp bs from rfl) ?_
  refine WLs.nil ?_
  refine WEs.then_n ?_
  refine WCs.seq ?_
  refine WCs.draw (.one 0 3 (.one 1 0 (.one 2 3 (.one 3 0 (.one 4 3 (.one 5 3 (.one 6 3 (.one 7 0 (.one 8 3 (.one 9 1 (.one 10 2 .nil))))))))))) [10] Tryz.mixed (by kernel_rfl) (by kernel_rfl) rfl (Pf.then Pf.body) (fun _ h => h) ?_
  refine WSs.pure rfl (y_fld rfl fl52_1) rfl ?_
  refine WSs.val rfl (y_ld rfl sc9 (Sat.at 1 rfl) (by rfl)) rfl ?_
  refine WSs.pure rfl (y_fld rfl fl52_2) rfl ?_
  refine WSs.val rfl (y_ld rfl sc9 (Sat.at 1 rfl) (by rfl)) rfl ?_
  refine WSs.pure rfl (y_move rfl) rfl ?_
  refine WSs.pure rfl (y_nil rfl) rfl ?_
  refine WSs.pure rfl (y_fld rfl fl94_6) rfl ?_
  refine WSs.val rfl (y_ld rfl sc22 (Sat.at 6 rfl) (by rfl)) rfl ?_
  refine WSs.pure rfl (y_build (is := [0, 1, 2]) (xs := [.tmp 32, .tmp 34, .tmp 38]) #[(0, .tmp 32), (1, .tmp 34), (2, .tmp 38)] rfl rfl pl105 zr105 rfl) rfl ?_
  refine WSs.alloc rfl zr105 rfl (fun _ _ h => h.tail) (fun e => ?_)
  refine WSs.storeA 0 rfl rfl rfl sz105 rfl rfl (Nat.le_of_ble_eq_true rfl) rfl rfl ?_
  refine WSs.nil ?_
  refine WEs.then_n ?_
  refine WCs.seq ?_
  refine WCs.seq ?_
  refine WCs.region ?_
  refine WLs.val (y_fld rfl fl52_3) rfl <| WLs.val (y_ld rfl sc22 (Sat.at 2 rfl) (by rfl)) rfl <| ?_
  refine WLs.val (y_gt rfl rfl (decide_eq_false (by omega))) rfl <| ?_
  refine WLs.val (y_move rfl) rfl <| WLs.skipped rfl rfl rfl <| WLs.skipped rfl rfl rfl <| WLs.skipped rfl rfl rfl <| WLs.skipped rfl rfl rfl <| WLs.skipped rfl rfl rfl <| WLs.val (y_pick rfl rfl) rfl <| ?_
  refine WLs.nil ?_
  refine WEs.then_n ?_
  refine WCs.cond_f rfl rfl ?_
  refine WCs.skip ?_
  refine WEs.then_n ?_
  refine WCs.seq ?_
  refine WCs.draw (.one 0 3 (.one 1 3 (.one 2 3 (.one 3 0 (.one 4 0 (.one 5 2 .nil)))))) [5] Tryz.mixed (by kernel_rfl) (by kernel_rfl) rfl (Pf.then Pf.body) (fun _ h => h) ?_
  refine WSs.pure rfl (y_move rfl) rfl ?_
  refine WSs.pure rfl (y_nil rfl) rfl ?_
  refine WSs.pure rfl (y_fld rfl fl94_1) rfl ?_
  refine WSs.val rfl (y_ld rfl sc90 (Sat.at 7 rfl) (by rfl)) rfl ?_
  refine WSs.val rfl (y_ldA rfl ag105 (Sat.at 0 rfl) (Nat.le_of_ble_eq_true rfl) (by rfl)) rfl ?_
  refine WSs.callBE rfl Tryz.func124 rfl rfl rfl rfl (fun w hs => table_Put (m := S.tab) (b := bt) (p := pt') (e := ⟨o.key, o.value, S.version + 1, 0⟩) (L := _ :: _ :: _ :: _ :: _ :: _ :: L) (hs.selN 8 [3, 4, 5, 6, 7, 0, 1, 2] (by decide)) hi h1 h2) ?_
  refine WSs.nil ?_
  refine WEs.then_n ?_
  refine WCs.seq ?_
  refine WCs.seq ?_
  refine WCs.draw (.one 0 3 (.one 1 3 (.one 2 3 (.one 3 0 (.one 4 3 (.one 5 0 (.one 8 3 (.one 6 2 (.one 7 3 .nil))))))))) [6] Tryz.mixed (by kernel_rfl) (by kernel_rfl) rfl (Pf.then (Pf.then Pf.body)) (fun _ h => h) ?_
  refine WSs.pure rfl (y_move rfl) rfl ?_
  refine WSs.pure rfl (y_nil rfl) rfl ?_
  refine WSs.pure rfl (y_fld rfl fl94_2) rfl ?_
  refine WSs.val rfl (y_ld rfl sc87 (Sat.at 4 rfl) (by rfl)) rfl ?_
  refine WSs.pure rfl (y_fld rfl fl52_1) rfl ?_
  refine WSs.val rfl (y_ld rfl sc9 (Sat.at 7 rfl) (by rfl)) rfl ?_
  refine WSs.pure rfl (y_move rfl) rfl ?_
  refine WSs.callB rfl Tryz.func125 rfl rfl rfl rfl (fun w hs => polA_Insert (k := o.key) (a := a) (p := pp) (L := _ :: _ :: _ :: _ :: _ :: _ :: _ :: L) (hs.selN 8 [2, 0, 1, 3, 4, 5, 6, 7] (by decide)) ha) ?_
  rintro v76 w76 hs76
  rw [h6] at hs76
  obtain ⟨sa, sc, rfl⟩ := hs76.lenS 0 rfl
  refine ⟨_, hs76.tail, WSs.go hs76.tail ?_⟩
  refine WSs.pure rfl (y_lenL rfl sl97) rfl ?_
  refine WSs.nil ?_
  refine WEs.then_n ?_
  refine WCs.block ?_
  refine WCs.unroll 0 ?_
  refine WCs.seq ?_
  refine WCs.region ?_
  refine WLs.val (y_lt rfl rfl rfl) rfl <| ?_
  refine WLs.nil ?_
  refine WEs.then_n ?_
  refine WCs.seq ?_
  refine WCs.cond_f rfl rfl ?_
  refine WCs.exit ?_
  refine WEs.then_exit ?_
  refine WEs.then_exit ?_
  refine WEs.in_same ?_
  refine WEs.then_n ?_
  refine WCs.seq ?_
  refine WCs.block ?_
  refine WCs.unroll 0 ?_
  refine WCs.seq ?_
  refine WCs.seq ?_
  refine WCs.draw (.one 0 3 (.one 1 3 (.one 2 3 (.one 3 0 (.one 5 3 (.one 6 3 (.one 7 3 (.one 8 3 (.one 9 0 (.one 4 1 (.one 10 3 .nil))))))))))) [] Tryz.mixed (by kernel_rfl) (by kernel_rfl) rfl (Pf.then (Pf.then (Pf.then (Pf.block (Pf.then Pf.body))))) (fun _ h => h) ?_
  refine WSs.pure rfl (y_move rfl) rfl ?_
  refine WSs.pure rfl (y_nil rfl) rfl ?_
  refine WSs.pure rfl (y_fld rfl fl94_1) rfl ?_
  refine WSs.val rfl (y_ld rfl sc90 (Sat.at 4 rfl) (by rfl)) rfl ?_
  refine WSs.pure rfl (y_move rfl) rfl ?_
  refine WSs.pure rfl (y_nil rfl) rfl ?_
  refine WSs.pure rfl (y_fld rfl fl94_0) rfl ?_
  refine WSs.pure rfl (y_fld rfl fl24_2) rfl ?_
  refine WSs.val rfl (y_ld rfl sc3 (Sat.at 4 rfl) (by rfl)) rfl ?_
  refine WSs.callE rfl Tryz.func103 rfl rfl rfl rfl (fun w hs => table_Bytes (m := tabPut S.tab ⟨o.key, o.value, S.version + 1, 0⟩) (b := bt) (p := pt') (L := _ :: _ :: _ :: _ :: _ :: _ :: L) (hs.selN 8 [1, 2, 0, 3, 4, 5, 6, 7] (by decide))) (fun w h => h.selN 8 [2, 0, 1, 3, 4, 5, 6, 7] (by decide)) ?_
  refine WSs.pure rfl (y_gt rfl rfl (decide_eq_false (by show ¬ S.c.bytes < _; omega))) rfl ?_
  refine WSs.nil ?_
  refine WEs.then_n ?_
  refine WCs.cond_f rfl rfl ?_
  refine WCs.exit ?_
  refine WEs.then_exit ?_
  refine WEs.then_exit ?_
  refine WEs.in_same ?_
  refine WEs.then_n ?_
  refine WCs.seq ?_
  refine WCs.region ?_
  refine WLs.val (y_move rfl) rfl <| WLs.val (y_nil rfl) rfl <| WLs.val (y_fld rfl fl94_6) rfl <| WLs.val (y_ld rfl sc22 (Sat.at 4 rfl) (by rfl)) rfl <| ?_
  refine WLs.val (y_build (is := [2]) (xs := [.tmp 119]) #[(2, .tmp 119)] rfl rfl pl61 zr61 rfl) rfl <| ?_
  refine WLs.storeA 6 rfl rfl sz61 rfl rfl (Nat.le_of_ble_eq_true rfl) rfl rfl ?_
  refine WLs.nil ?_
  refine WEs.then_n ?_
  refine WCs.ret ?_
  refine WEs.retC (.inr rfl) rfl rfl ag61 6 rfl (Nat.le_of_ble_eq_true rfl) rfl ?_
  exact fun w hs => ⟨rfl, hs.selN 8 [0, 1, 2, 3, 4] (by decide)⟩

omit [Env] in
theorem wrap_succI {k : Nat} (h : k < 4611686018427387904) : IntKind.i64.wrap ((k : Int) + 1) = ((k + 1 : Nat) : Int) := by rw [wrap_i64 (by omega)]; omega
structure _root_.Go.Hw.Rec where
  seq : Nat
  now : Nat
  session : Nat
  num : Nat
  op : Req
def recC (x : Rec) : Array Value := #[u64v x.seq, u64v x.now, u64v x.session, u64v x.num, .int .i64 x.op.kind, str x.op.key, str x.op.value, u64v x.op.ttl, u64v x.op.version]
def recv (x : Rec) : Value := .agg (recC x)
def _root_.Go.Hw.Sto.hit (S : Sto) (a : Arc) (k : Str) : Sto := { S with pol := .arc (a.touch k), asked := S.asked + 1, hits := S.hits + 1 }

set_option maxHeartbeats 2000000 in
theorem store_do_put {w : World} {L : List Asrt} {bt pt' pp bs ps : Nat} {S : Sto} {a : Arc} {o : Req} (hs : Sat w (stoL bt pt' pp bs ps { S with pol := .arc a } L)) {byt : Nat} (ha : a.Inv) (hi : TInv S.tab) (h1 : o.key.length ≤ 64) (h2 : o.value.length ≤ 4096) (hb : S.c.bytes = byt)
    (h3 : o.key.length + o.value.length ≤ byt) (h4 : o.ttl = 0) (h5 : S.version + 1 < 18446744073709551616) (h6 : (a.insert o.key).2 = []) (h7 : tabBytes (tabPut S.tab ⟨o.key, o.value, S.version + 1, 0⟩) ≤ byt) (hk : o.kind = 2) (hg : mget S.tab o.key = none) : Does Tryz.prog 37 [rp ps, reqv o] w fun v w' => v = repv ⟨0, [], S.version + 1⟩ ∧ Sat w' (stoL bt pt' pp bs ps (S.putFit a o) L) := by
  refine Does.enters hs (n := 99) Tryz.func37 rfl rfl rfl rfl ?_
  refine WCs.seq ?_
  refine WCs.region ?_
  refine WLs.box rfl rfl (fun q => ?_)
  refine WLs.alloc zr61 rfl (fun r => ?_)
  refine WLs.nil ?_
  refine WEs.then_n ?_
  refine WCs.seq ?_
  refine WCs.draw (.one 0 3 (.one 1 3 (.one 2 3 (.one 3 0 (.one 4 3 (.one 5 0 (.two 6 (.one 7 3 (.one 8 3 (.one 9 3 (.one 10 1 (.one 11 2 (.one 12 3 .nil)))))) 10 (.one 6 1 (.one 7 3 (.one 8 3 (.one 9 3 (.one 11 2 (.one 12 3 .nil))))))))))))) [11] Tryz.mixed (by kernel_rfl) (by kernel_rfl) rfl (Pf.then Pf.body) (fun _ h => h) ?_
  refine WSs.pure rfl (y_move rfl) rfl ?_
  refine WSs.pure rfl (y_nil rfl) rfl ?_
  refine WSs.pure rfl (y_fld rfl fl94_1) rfl ?_
  refine WSs.val rfl (y_ld rfl sc90 (Sat.at 6 rfl) (by rfl)) rfl ?_
  refine WSs.pure rfl (y_fld rfl fl52_1) rfl ?_
  refine WSs.val rfl (y_ld rfl sc9 (Sat.at 1 rfl) (by rfl)) rfl ?_
  refine WSs.two ?_ ?_ 
  · refine WSs.callE rfl Tryz.func54 rfl rfl rfl rfl (fun w hs => table_Get_no (m := S.tab) (b := bt) (p := pt') (k := o.key) (L := _ :: _ :: _ :: _ :: _ :: L) (hs.selN 7 [2, 3, 0, 1, 4, 5, 6] (by decide)) hg) (fun w h => h.selN 7 [2, 3, 0, 1, 4, 5, 6] (by decide)) ?_
    refine WSs.pure rfl (y_move rfl) rfl ?_
    refine WSs.pure rfl (y_ext rfl rfl) rfl ?_
    refine WSs.pure rfl (y_ext rfl rfl) rfl ?_
    refine WSs.alloc rfl zr105 rfl (fun _ _ h => h.selN 8 [3, 4, 1, 2, 5, 6, 7] (by decide)) (fun e => ?_)
    refine WSs.storeA 0 rfl rfl rfl sz105 rfl rfl (Nat.le_of_ble_eq_true rfl) rfl rfl ?_
    refine WSs.pure rfl (y_asgn rfl) rfl ?_
    refine WSs.nil ?_
    refine WEs.then_n ?_
    refine WCs.seq ?_
    refine WCs.seq ?_
    refine WCs.region ?_
    refine WLs.val (y_fld rfl fl52_0) rfl <| WLs.val (y_ld rfl sc3 (Sat.at 4 rfl) (by rfl)) rfl <| ?_
    refine WLs.nil ?_
    refine WEs.then_n ?_
    refine WCs.block ?_
    refine WCs.seq ?_
    refine WCs.region ?_
    refine WLs.val (y_eq rfl rfl (decide_eq_false (by omega))) rfl <| ?_
    refine WLs.val (y_asgn rfl) rfl <| ?_
    refine WLs.nil ?_
    refine WEs.then_n ?_
    refine WCs.cond_f rfl rfl ?_
    refine WCs.seq ?_
    refine WCs.region ?_
    refine WLs.val (y_eq rfl rfl (decide_eq_false (by omega))) rfl <| ?_
    refine WLs.val (y_asgn rfl) rfl <| ?_
    refine WLs.nil ?_
    refine WEs.then_n ?_
    refine WCs.cond_f rfl rfl ?_
    refine WCs.seq ?_
    refine WCs.region ?_
    refine WLs.val (y_eq rfl rfl (decide_eq_false (by omega))) rfl <| ?_
    refine WLs.val (y_asgn rfl) rfl <| ?_
    refine WLs.nil ?_
    refine WEs.then_n ?_
    refine WCs.cond_f rfl rfl ?_
    refine WCs.skip ?_
    refine WEs.in_n ?_
    refine WEs.then_n ?_
    refine WCs.seq ?_
    refine WCs.region ?_
    refine WLs.val (y_move rfl) rfl <| WLs.val (y_ldA rfl ag52 (Sat.at 4 rfl) (Nat.le_of_ble_eq_true rfl) (by rfl)) rfl <| ?_
    refine WLs.callE Tryz.func72 rfl rfl rfl rfl (fun w hs => store_put (L := _ :: _ :: _ :: L) (hs.selN 8 [1, 2, 5, 6, 7, 0, 3, 4] (by decide)) ha hi h1 h2 hb h3 h4 h5 h6 h7) ?_
    refine WLs.storeA 6 rfl rfl sz61 rfl rfl (Nat.le_of_ble_eq_true rfl) rfl rfl ?_
    refine WLs.nil ?_
    refine WEs.then_n ?_
    refine WCs.ret ?_
    refine WEs.retC (.inr rfl) rfl rfl ag61 6 rfl (Nat.le_of_ble_eq_true rfl) rfl ?_
    exact fun w hs => ⟨rfl, hs.selN 8 [0, 1, 2, 3, 4] (by decide)⟩
  · refine WSs.alloc rfl zr105 rfl (fun _ _ h => h.tail) (fun e => ?_)
    refine WSs.callE rfl Tryz.func54 rfl rfl rfl rfl (fun w hs => (table_Get_no (m := S.tab) (b := bt) (p := pt') (k := o.key) (L := _ :: _ :: _ :: _ :: _ :: _ :: L) (hs.selN 8 [3, 4, 0, 1, 2, 5, 6, 7] (by decide)) hg).mono fun v w h => ⟨h.1, h.2.selN 8 [2, 0, 1, 3, 4, 5, 6, 7] (by decide)⟩) (fun w h => h.selN 8 [3, 4, 1, 2, 5, 6, 7] (by decide)) ?_
    refine WSs.pure rfl (y_move rfl) rfl ?_
    refine WSs.pure rfl (y_ext rfl rfl) rfl ?_
    refine WSs.pure rfl (y_ext rfl rfl) rfl ?_
    refine WSs.storeA 0 rfl rfl rfl sz105 rfl rfl (Nat.le_of_ble_eq_true rfl) rfl rfl ?_
    refine WSs.pure rfl (y_asgn rfl) rfl ?_
    refine WSs.nil ?_
    refine WEs.then_n ?_
    refine WCs.seq ?_
    refine WCs.seq ?_
    refine WCs.region ?_
    refine WLs.val (y_fld rfl fl52_0) rfl <| WLs.val (y_ld rfl sc3 (Sat.at 4 rfl) (by rfl)) rfl <| ?_
    refine WLs.nil ?_
    refine WEs.then_n ?_
    refine WCs.block ?_
    refine WCs.seq ?_
    refine WCs.region ?_
    refine WLs.val (y_eq rfl rfl (decide_eq_false (by omega))) rfl <| ?_
    refine WLs.val (y_asgn rfl) rfl <| ?_
    refine WLs.nil ?_
    refine WEs.then_n ?_
    refine WCs.cond_f rfl rfl ?_
    refine WCs.seq ?_
    refine WCs.region ?_
    refine WLs.val (y_eq rfl rfl (decide_eq_false (by omega))) rfl <| ?_
    refine WLs.val (y_asgn rfl) rfl <| ?_
    refine WLs.nil ?_
    refine WEs.then_n ?_
    refine WCs.cond_f rfl rfl ?_
    refine WCs.seq ?_
    refine WCs.region ?_
    refine WLs.val (y_eq rfl rfl (decide_eq_false (by omega))) rfl <| ?_
    refine WLs.val (y_asgn rfl) rfl <| ?_
    refine WLs.nil ?_
    refine WEs.then_n ?_
    refine WCs.cond_f rfl rfl ?_
    refine WCs.skip ?_
    refine WEs.in_n ?_
    refine WEs.then_n ?_
    refine WCs.seq ?_
    refine WCs.region ?_
    refine WLs.val (y_move rfl) rfl <| WLs.val (y_ldA rfl ag52 (Sat.at 4 rfl) (Nat.le_of_ble_eq_true rfl) (by rfl)) rfl <| ?_
    refine WLs.callE Tryz.func72 rfl rfl rfl rfl (fun w hs => store_put (L := _ :: _ :: _ :: L) (hs.selN 8 [1, 2, 5, 6, 7, 0, 3, 4] (by decide)) ha hi h1 h2 hb h3 h4 h5 h6 h7) ?_
    refine WLs.storeA 6 rfl rfl sz61 rfl rfl (Nat.le_of_ble_eq_true rfl) rfl rfl ?_
    refine WLs.nil ?_
    refine WEs.then_n ?_
    refine WCs.ret ?_
    refine WEs.retC (.inr rfl) rfl rfl ag61 6 rfl (Nat.le_of_ble_eq_true rfl) rfl ?_
    exact fun w hs => ⟨rfl, hs.selN 8 [0, 1, 2, 3, 4] (by decide)⟩

set_option maxHeartbeats 2000000 in
theorem store_do_get {w : World} {L : List Asrt} {bt pt' pp bs ps : Nat} {S : Sto} {a : Arc} {o : Req} (hs : Sat w (stoL bt pt' pp bs ps { S with pol := .arc a } L)) {x : Entry} (ha : a.Inv) (hk : o.kind = 1) (hg : mget S.tab o.key = some x) (h1 : S.asked < 4611686018427387904) (h2 : S.hits < 4611686018427387904) : Does Tryz.prog 37 [rp ps, reqv o] w fun v w' => v = repv ⟨0, x.value, x.version⟩ ∧ Sat w' (stoL bt pt' pp bs ps (S.hit a o.key) L) := by
  refine Does.enters hs (n := 99) Tryz.func37 rfl rfl rfl rfl ?_
  refine WCs.seq ?_
  refine WCs.region ?_
  refine WLs.box rfl rfl (fun q => ?_)
  refine WLs.alloc zr61 rfl (fun r => ?_)
  refine WLs.nil ?_
  refine WEs.then_n ?_
  refine WCs.seq ?_
  refine WCs.draw (.one 0 3 (.one 1 3 (.one 2 3 (.one 3 0 (.one 4 3 (.one 5 0 (.two 6 (.one 7 3 (.one 8 3 (.one 9 3 (.one 10 1 (.one 11 2 (.one 12 3 .nil)))))) 10 (.one 6 1 (.one 7 3 (.one 8 3 (.one 9 3 (.one 11 2 (.one 12 3 .nil))))))))))))) [11] Tryz.mixed (by kernel_rfl) (by kernel_rfl) rfl (Pf.then Pf.body) (fun _ h => h) ?_
  refine WSs.pure rfl (y_move rfl) rfl ?_
  refine WSs.pure rfl (y_nil rfl) rfl ?_
  refine WSs.pure rfl (y_fld rfl fl94_1) rfl ?_
  refine WSs.val rfl (y_ld rfl sc90 (Sat.at 6 rfl) (by rfl)) rfl ?_
  refine WSs.pure rfl (y_fld rfl fl52_1) rfl ?_
  refine WSs.val rfl (y_ld rfl sc9 (Sat.at 1 rfl) (by rfl)) rfl ?_
  refine WSs.two ?_ ?_ 
  · refine WSs.callE rfl Tryz.func54 rfl rfl rfl rfl (fun w hs => table_Get_yes (m := S.tab) (b := bt) (p := pt') (k := o.key) (L := _ :: _ :: _ :: _ :: _ :: L) (hs.selN 7 [2, 3, 0, 1, 4, 5, 6] (by decide)) hg) (fun w h => h.selN 7 [2, 3, 0, 1, 4, 5, 6] (by decide)) ?_
    refine WSs.pure rfl (y_move rfl) rfl ?_
    refine WSs.pure rfl (y_ext rfl rfl) rfl ?_
    refine WSs.pure rfl (y_ext rfl rfl) rfl ?_
    refine WSs.alloc rfl zr105 rfl (fun _ _ h => h.selN 8 [3, 4, 1, 2, 5, 6, 7] (by decide)) (fun e => ?_)
    refine WSs.storeA 0 rfl rfl rfl sz105 rfl rfl (Nat.le_of_ble_eq_true rfl) rfl rfl ?_
    refine WSs.pure rfl (y_asgn rfl) rfl ?_
    refine WSs.nil ?_
    refine WEs.then_n ?_
    refine WCs.seq ?_
    refine WCs.seq ?_
    refine WCs.region ?_
    refine WLs.val (y_fld rfl fl52_0) rfl <| WLs.val (y_ld rfl sc3 (Sat.at 4 rfl) (by rfl)) rfl <| ?_
    refine WLs.nil ?_
    refine WEs.then_n ?_
    refine WCs.block ?_
    refine WCs.seq ?_
    refine WCs.region ?_
    refine WLs.val (y_eq rfl rfl (decide_eq_true (by omega))) rfl <| ?_
    refine WLs.val (y_asgn rfl) rfl <| ?_
    refine WLs.nil ?_
    refine WEs.then_n ?_
    refine WCs.cond_t rfl rfl ?_
    refine WCs.seq ?_
    refine WCs.region ?_
    refine WLs.val (y_move rfl) rfl <| WLs.val (y_nil rfl) rfl <| WLs.val (y_fld rfl fl94_7) rfl <| WLs.val (y_fld rfl fl75_0) rfl <| WLs.val (y_ld rfl sc2 (Sat.at 7 rfl) (by rfl)) rfl <| ?_
    refine WLs.val (y_add rfl rfl (wrap_succI h1)) rfl <| ?_
    refine WLs.val (y_nil rfl) rfl <| WLs.val (y_fld rfl fl94_7) rfl <| WLs.val (y_fld rfl fl75_0) rfl <| ?_
    refine WLs.store 7 rfl rfl sz2 rfl (Nat.le_of_ble_eq_true rfl) rfl (show (stoC S pt' pp bs).setIfInBounds 10 _ = stoC { S with asked := S.asked + 1 } pt' pp bs from rfl) ?_
    refine WLs.nil ?_
    refine WEs.then_n ?_
    refine WCs.seq ?_
    refine WCs.seq ?_
    refine WCs.region ?_
    refine WLs.val (y_move rfl) rfl <| WLs.val (y_not rfl) rfl <| ?_
    refine WLs.nil ?_
    refine WEs.then_n ?_
    refine WCs.cond_f rfl rfl ?_
    refine WCs.skip ?_
    refine WEs.then_n ?_
    refine WCs.seq ?_
    refine WCs.region ?_
    refine WLs.val (y_move rfl) rfl <| WLs.val (y_nil rfl) rfl <| WLs.val (y_fld rfl fl94_7) rfl <| WLs.val (y_fld rfl fl75_1) rfl <| WLs.val (y_ld rfl sc2 (Sat.at 7 rfl) (by rfl)) rfl <| ?_
    refine WLs.val (y_add rfl rfl (wrap_succI h2)) rfl <| ?_
    refine WLs.val (y_nil rfl) rfl <| WLs.val (y_fld rfl fl94_7) rfl <| WLs.val (y_fld rfl fl75_1) rfl <| ?_
    refine WLs.store 7 rfl rfl sz2 rfl (Nat.le_of_ble_eq_true rfl) rfl (show (stoC { S with asked := S.asked + 1 } pt' pp bs).setIfInBounds 11 _ = stoC { S with asked := S.asked + 1, hits := S.hits + 1 } pt' pp bs from rfl) ?_
    refine WLs.nil ?_
    refine WEs.then_n ?_
    refine WCs.seq ?_
    refine WCs.draw (.one 0 3 (.one 1 3 (.one 2 3 (.one 3 0 (.one 4 3 (.one 5 0 (.one 6 2 .nil))))))) [6] Tryz.mixed (by kernel_rfl) (by kernel_rfl) rfl (Pf.then (Pf.block (Pf.then Pf.body))) (fun _ h => h) ?_
    refine WSs.pure rfl (y_move rfl) rfl ?_
    refine WSs.pure rfl (y_nil rfl) rfl ?_
    refine WSs.pure rfl (y_fld rfl fl94_2) rfl ?_
    refine WSs.val rfl (y_ld rfl sc87 (Sat.at 7 rfl) (by rfl)) rfl ?_
    refine WSs.pure rfl (y_fld rfl fl52_1) rfl ?_
    refine WSs.val rfl (y_ld rfl sc9 (Sat.at 4 rfl) (by rfl)) rfl ?_
    refine WSs.callBE rfl Tryz.func71 rfl rfl rfl rfl (fun w hs => polA_Touch (k := o.key) (a := a) (p := pp) (L := _ :: _ :: _ :: _ :: _ :: _ :: _ :: L) (hs.selN 8 [5, 0, 1, 2, 3, 4, 6, 7] (by decide)) ha) ?_
    refine WSs.nil ?_
    refine WEs.then_n ?_
    refine WCs.seq ?_
    refine WCs.region ?_
    refine WLs.val (y_fld rfl fl105_1) rfl <| WLs.val (y_ld rfl sc9 (Sat.at 1 rfl) (by rfl)) rfl <| ?_
    refine WLs.val (y_fld rfl fl105_2) rfl <| WLs.val (y_ld rfl sc22 (Sat.at 1 rfl) (by rfl)) rfl <| ?_
    refine WLs.val (y_build (is := [1, 2]) (xs := [.tmp 57, .tmp 59]) #[(1, .tmp 57), (2, .tmp 59)] rfl rfl pl61 zr61 rfl) rfl <| ?_
    refine WLs.storeA 4 rfl rfl sz61 rfl rfl (Nat.le_of_ble_eq_true rfl) rfl rfl ?_
    refine WLs.nil ?_
    refine WEs.then_n ?_
    refine WCs.ret ?_
    refine WEs.in_ret ?_
    refine WEs.then_ret ?_
    refine WEs.retC (.inr rfl) rfl rfl ag61 4 rfl (Nat.le_of_ble_eq_true rfl) rfl ?_
    exact fun w hs => ⟨rfl, hs.selN 8 [2, 3, 0, 6, 7] (by decide)⟩
  · refine WSs.alloc rfl zr105 rfl (fun _ _ h => h.tail) (fun e => ?_)
    refine WSs.callE rfl Tryz.func54 rfl rfl rfl rfl (fun w hs => (table_Get_yes (m := S.tab) (b := bt) (p := pt') (k := o.key) (L := _ :: _ :: _ :: _ :: _ :: _ :: L) (hs.selN 8 [3, 4, 0, 1, 2, 5, 6, 7] (by decide)) hg).mono fun v w h => ⟨h.1, h.2.selN 8 [2, 0, 1, 3, 4, 5, 6, 7] (by decide)⟩) (fun w h => h.selN 8 [3, 4, 1, 2, 5, 6, 7] (by decide)) ?_
    refine WSs.pure rfl (y_move rfl) rfl ?_
    refine WSs.pure rfl (y_ext rfl rfl) rfl ?_
    refine WSs.pure rfl (y_ext rfl rfl) rfl ?_
    refine WSs.storeA 0 rfl rfl rfl sz105 rfl rfl (Nat.le_of_ble_eq_true rfl) rfl rfl ?_
    refine WSs.pure rfl (y_asgn rfl) rfl ?_
    refine WSs.nil ?_
    refine WEs.then_n ?_
    refine WCs.seq ?_
    refine WCs.seq ?_
    refine WCs.region ?_
    refine WLs.val (y_fld rfl fl52_0) rfl <| WLs.val (y_ld rfl sc3 (Sat.at 4 rfl) (by rfl)) rfl <| ?_
    refine WLs.nil ?_
    refine WEs.then_n ?_
    refine WCs.block ?_
    refine WCs.seq ?_
    refine WCs.region ?_
    refine WLs.val (y_eq rfl rfl (decide_eq_true (by omega))) rfl <| ?_
    refine WLs.val (y_asgn rfl) rfl <| ?_
    refine WLs.nil ?_
    refine WEs.then_n ?_
    refine WCs.cond_t rfl rfl ?_
    refine WCs.seq ?_
    refine WCs.region ?_
    refine WLs.val (y_move rfl) rfl <| WLs.val (y_nil rfl) rfl <| WLs.val (y_fld rfl fl94_7) rfl <| WLs.val (y_fld rfl fl75_0) rfl <| WLs.val (y_ld rfl sc2 (Sat.at 7 rfl) (by rfl)) rfl <| ?_
    refine WLs.val (y_add rfl rfl (wrap_succI h1)) rfl <| ?_
    refine WLs.val (y_nil rfl) rfl <| WLs.val (y_fld rfl fl94_7) rfl <| WLs.val (y_fld rfl fl75_0) rfl <| ?_
    refine WLs.store 7 rfl rfl sz2 rfl (Nat.le_of_ble_eq_true rfl) rfl (show (stoC S pt' pp bs).setIfInBounds 10 _ = stoC { S with asked := S.asked + 1 } pt' pp bs from rfl) ?_
    refine WLs.nil ?_
    refine WEs.then_n ?_
    refine WCs.seq ?_
    refine WCs.seq ?_
    refine WCs.region ?_
    refine WLs.val (y_move rfl) rfl <| WLs.val (y_not rfl) rfl <| ?_
    refine WLs.nil ?_
    refine WEs.then_n ?_
    refine WCs.cond_f rfl rfl ?_
    refine WCs.skip ?_
    refine WEs.then_n ?_
    refine WCs.seq ?_
    refine WCs.region ?_
    refine WLs.val (y_move rfl) rfl <| WLs.val (y_nil rfl) rfl <| WLs.val (y_fld rfl fl94_7) rfl <| WLs.val (y_fld rfl fl75_1) rfl <| WLs.val (y_ld rfl sc2 (Sat.at 7 rfl) (by rfl)) rfl <| ?_
    refine WLs.val (y_add rfl rfl (wrap_succI h2)) rfl <| ?_
    refine WLs.val (y_nil rfl) rfl <| WLs.val (y_fld rfl fl94_7) rfl <| WLs.val (y_fld rfl fl75_1) rfl <| ?_
    refine WLs.store 7 rfl rfl sz2 rfl (Nat.le_of_ble_eq_true rfl) rfl (show (stoC { S with asked := S.asked + 1 } pt' pp bs).setIfInBounds 11 _ = stoC { S with asked := S.asked + 1, hits := S.hits + 1 } pt' pp bs from rfl) ?_
    refine WLs.nil ?_
    refine WEs.then_n ?_
    refine WCs.seq ?_
    refine WCs.draw (.one 0 3 (.one 1 3 (.one 2 3 (.one 3 0 (.one 4 3 (.one 5 0 (.one 6 2 .nil))))))) [6] Tryz.mixed (by kernel_rfl) (by kernel_rfl) rfl (Pf.then (Pf.block (Pf.then Pf.body))) (fun _ h => h) ?_
    refine WSs.pure rfl (y_move rfl) rfl ?_
    refine WSs.pure rfl (y_nil rfl) rfl ?_
    refine WSs.pure rfl (y_fld rfl fl94_2) rfl ?_
    refine WSs.val rfl (y_ld rfl sc87 (Sat.at 7 rfl) (by rfl)) rfl ?_
    refine WSs.pure rfl (y_fld rfl fl52_1) rfl ?_
    refine WSs.val rfl (y_ld rfl sc9 (Sat.at 4 rfl) (by rfl)) rfl ?_
    refine WSs.callBE rfl Tryz.func71 rfl rfl rfl rfl (fun w hs => polA_Touch (k := o.key) (a := a) (p := pp) (L := _ :: _ :: _ :: _ :: _ :: _ :: _ :: L) (hs.selN 8 [5, 0, 1, 2, 3, 4, 6, 7] (by decide)) ha) ?_
    refine WSs.nil ?_
    refine WEs.then_n ?_
    refine WCs.seq ?_
    refine WCs.region ?_
    refine WLs.val (y_fld rfl fl105_1) rfl <| WLs.val (y_ld rfl sc9 (Sat.at 1 rfl) (by rfl)) rfl <| ?_
    refine WLs.val (y_fld rfl fl105_2) rfl <| WLs.val (y_ld rfl sc22 (Sat.at 1 rfl) (by rfl)) rfl <| ?_
    refine WLs.val (y_build (is := [1, 2]) (xs := [.tmp 57, .tmp 59]) #[(1, .tmp 57), (2, .tmp 59)] rfl rfl pl61 zr61 rfl) rfl <| ?_
    refine WLs.storeA 4 rfl rfl sz61 rfl rfl (Nat.le_of_ble_eq_true rfl) rfl rfl ?_
    refine WLs.nil ?_
    refine WEs.then_n ?_
    refine WCs.ret ?_
    refine WEs.in_ret ?_
    refine WEs.then_ret ?_
    refine WEs.retC (.inr rfl) rfl rfl ag61 4 rfl (Nat.le_of_ble_eq_true rfl) rfl ?_
    exact fun w hs => ⟨rfl, hs.selN 8 [2, 3, 0, 6, 7] (by decide)⟩
end Go.Proofs.YteoplijfofohkaaGreat
