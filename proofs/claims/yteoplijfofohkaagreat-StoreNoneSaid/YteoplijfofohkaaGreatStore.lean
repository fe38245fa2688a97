/- The contracts of packages policy (the first kind), op.Check and store, as far as StoreNone wants them. -/
import Derived.Test.YteoplijfofohkaaGreatDel
namespace Go.Proofs.YteoplijfofohkaaGreat
open Go Go.Sx Go.Hw
theorem ag24 : tAgg Tryz.prog 24 4 = true := by kernel_rfl
theorem ag52 : tAgg Tryz.prog 52 5 = true := by kernel_rfl
theorem fl135_0 : tFld Tryz.prog 135 0 0 = true := by kernel_rfl
theorem fl24_0 : tFld Tryz.prog 24 0 0 = true := by kernel_rfl
theorem fl24_1 : tFld Tryz.prog 24 1 1 = true := by kernel_rfl
theorem fl24_2 : tFld Tryz.prog 24 2 2 = true := by kernel_rfl
theorem fl24_3 : tFld Tryz.prog 24 3 3 = true := by kernel_rfl
theorem fl52_0 : tFld Tryz.prog 52 0 0 = true := by kernel_rfl
theorem fl52_1 : tFld Tryz.prog 52 1 1 = true := by kernel_rfl
theorem fl52_2 : tFld Tryz.prog 52 2 2 = true := by kernel_rfl
theorem fl52_3 : tFld Tryz.prog 52 3 3 = true := by kernel_rfl
theorem fl52_4 : tFld Tryz.prog 52 4 4 = true := by kernel_rfl
theorem pt87 : tPtr Tryz.prog 87 = true := by kernel_rfl
theorem sc132 : tScal Tryz.prog 132 = true := by kernel_rfl
theorem zr52 : tZero Tryz.prog 52 (.agg #[(.int .i64 0), (str []), (str []), (.int .u64 0), (.int .u64 0)]) := tZero_of (by kernel_rfl)
theorem zr94 : tZero Tryz.prog 94 (.agg #[(.int .i64 0), (.int .i64 0), (.int .i64 0), (.int .u64 0), (.pointer none), (.pointer none), (.map none), (.int .u64 0), (.int .u64 0), (.int .u64 0), (.int .i64 0), (.int .i64 0)]) := tZero_of (by kernel_rfl)
theorem pl52 : tPlaces Tryz.prog 52 #[(0, 1), (1, 1), (2, 1), (3, 1), (4, 1)] := tPlaces_of (by kernel_rfl)
theorem pl94 : tPlaces Tryz.prog 94 #[(0, 4), (4, 1), (5, 1), (6, 1), (7, 1), (8, 1), (9, 1), (10, 2)] := tPlaces_of (by kernel_rfl)
variable [Env]
theorem arc_Touch {w : World} {L : List Asrt} {r p : Nat} {a : Arc} {k : Str} (hs : Sat w (arcL r p a L)) (h : a.Ok) : Does Tryz.prog 122 [rp p, str k] w fun v w' => v = .bool (a.has k) ∧ Sat w' (arcL r p (a.touch k) L) := by
  unfold Arc.touch
  cases hh : a.has k with
  | true => exact arc_Touch_true hs h hh
  | false => exact arc_Touch_false hs h hh
abbrev polL (r q p : Nat) (a : Arc) (L : List Asrt) : List Asrt := arcL r q a (pt p (.cells #[natv 1, rp q, .pointer none] 135 (0, 0)) :: L)

theorem polA_Kind {w : World} {L : List Asrt} {r q p : Nat} {a : Arc} (hs : Sat w (polL r q p a L)) : Does Tryz.prog 67 [rp p] w fun v w' => v = natv 1 ∧ Sat w' (polL r q p a L) := by
  refine Does.enters hs (n := 9) Tryz.func67 rfl rfl rfl rfl ?_
  refine WCs.seq ?_
  refine WCs.region ?_
  refine WLs.val (y_asgn rfl) rfl <| ?_
  refine WLs.nil ?_
  refine WEs.then_n ?_
  refine WCs.seq ?_
  refine WCs.seq ?_
  refine WCs.region ?_
  refine WLs.val (y_move rfl) rfl <| WLs.val (y_peq rfl rfl pt87) rfl <| ?_
  refine WLs.nil ?_
  refine WEs.then_n ?_
  refine WCs.cond_f rfl rfl ?_
  refine WCs.skip ?_
  refine WEs.then_n ?_
  refine WCs.seq ?_
  refine WCs.region ?_
  refine WLs.val (y_move rfl) rfl <| WLs.val (y_nil rfl) rfl <| WLs.val (y_fld rfl fl135_0) rfl <| WLs.val (y_ld rfl sc3 (Sat.at 2 rfl) (by rfl)) rfl <| ?_
  refine WLs.val (y_asgn rfl) rfl <| ?_
  refine WLs.nil ?_
  refine WEs.then_n ?_
  refine WCs.ret ?_
  refine WEs.ret1 (.inr rfl) rfl rfl ?_
  exact fun w hs => ⟨rfl, hs⟩

theorem polA_Miss {w : World} {L : List Asrt} {p : Nat} {a : Arc} {k : Str} (hs : Sat w (polAt p (.arc a) :: L)) : Does Tryz.prog 70 [rp p, str k] w fun v w' => v = .tuple #[] ∧ Sat w' (polAt p (.arc a) :: L) := by
  obtain ⟨q, r, hs1⟩ := polArc_open hs
  refine Does.enters hs1 (n := 22) Tryz.func70 rfl rfl rfl rfl ?_
  refine WCs.seq ?_
  refine WCs.region ?_
  refine WLs.val (y_move rfl) rfl <| ?_
  refine WLs.callE Tryz.func67 rfl rfl rfl rfl (fun w hs => polA_Kind hs) ?_
  refine WLs.val (y_eq rfl rfl rfl) rfl <| ?_
  refine WLs.val (y_move rfl) rfl <| WLs.skipped rfl rfl rfl <| WLs.skipped rfl rfl rfl <| WLs.skipped rfl rfl rfl <| WLs.skipped rfl rfl rfl <| WLs.skipped rfl rfl rfl <| WLs.skipped rfl rfl rfl <| WLs.skipped rfl rfl rfl <| WLs.val (y_pick rfl rfl) rfl <| ?_
  refine WLs.nil ?_
  refine WEs.then_n ?_
  refine WCs.cond_f rfl rfl ?_
  refine WCs.skip ?_
  refine WEs.ret0 (.inl rfl) rfl ?_
  exact fun w hs => ⟨rfl, polArc_shut hs⟩

theorem polA_Touch {w : World} {L : List Asrt} {p : Nat} {a : Arc} {k : Str} (hs : Sat w (polAt p (.arc a) :: L)) (h : a.Inv) : Does Tryz.prog 71 [rp p, str k] w fun v w' => v = .bool (a.has k) ∧ Sat w' (polAt p (.arc (a.touch k)) :: L) := by
  obtain ⟨q, r, hs1⟩ := polArc_open hs
  refine Does.enters hs1 (n := 23) Tryz.func71 rfl rfl rfl rfl ?_
  refine WCs.seq ?_
  refine WCs.region ?_
  refine WLs.val (y_asgn rfl) rfl <| ?_
  refine WLs.nil ?_
  refine WEs.then_n ?_
  refine WCs.seq ?_
  refine WCs.seq ?_
  refine WCs.region ?_
  refine WLs.val (y_move rfl) rfl <| ?_
  refine WLs.callE Tryz.func67 rfl rfl rfl rfl (fun w hs => polA_Kind hs) ?_
  refine WLs.nil ?_
  refine WEs.then_n ?_
  refine WCs.block ?_
  refine WCs.seq ?_
  refine WCs.region ?_
  refine WLs.val (y_eq rfl rfl rfl) rfl <| ?_
  refine WLs.val (y_asgn rfl) rfl <| ?_
  refine WLs.nil ?_
  refine WEs.then_n ?_
  refine WCs.cond_t rfl rfl ?_
  refine WCs.seq ?_
  refine WCs.region ?_
  refine WLs.val (y_move rfl) rfl <| WLs.val (y_nil rfl) rfl <| WLs.val (y_fld rfl fl135_1) rfl <| WLs.val (y_ld rfl sc132 (Sat.at 2 rfl) (by rfl)) rfl <| ?_
  refine WLs.val (y_move rfl) rfl <| ?_
  refine WLs.callE Tryz.func122 rfl rfl rfl rfl (fun w hs => arc_Touch hs h.toOk) ?_
  refine WLs.val (y_asgn rfl) rfl <| ?_
  refine WLs.nil ?_
  refine WEs.then_n ?_
  refine WCs.ret ?_
  refine WEs.in_ret ?_
  refine WEs.then_ret ?_
  refine WEs.ret1 (.inr rfl) rfl rfl ?_
  exact fun w hs => ⟨rfl, polArc_shut hs⟩

theorem polA_Remove {w : World} {L : List Asrt} {p : Nat} {a : Arc} {k : Str} (hs : Sat w (polAt p (.arc a) :: L)) (h : a.Inv) : Does Tryz.prog 36 [rp p, str k] w fun v w' => v = .bool (a.has k) ∧ Sat w' (polAt p (.arc (a.drop k)) :: L) := by
  obtain ⟨q, r, hs1⟩ := polArc_open hs
  refine Does.enters hs1 (n := 23) Tryz.func36 rfl rfl rfl rfl ?_
  refine WCs.seq ?_
  refine WCs.region ?_
  refine WLs.val (y_asgn rfl) rfl <| ?_
  refine WLs.nil ?_
  refine WEs.then_n ?_
  refine WCs.seq ?_
  refine WCs.seq ?_
  refine WCs.region ?_
  refine WLs.val (y_move rfl) rfl <| ?_
  refine WLs.callE Tryz.func67 rfl rfl rfl rfl (fun w hs => polA_Kind hs) ?_
  refine WLs.nil ?_
  refine WEs.then_n ?_
  refine WCs.block ?_
  refine WCs.seq ?_
  refine WCs.region ?_
  refine WLs.val (y_eq rfl rfl rfl) rfl <| ?_
  refine WLs.val (y_asgn rfl) rfl <| ?_
  refine WLs.nil ?_
  refine WEs.then_n ?_
  refine WCs.cond_t rfl rfl ?_
  refine WCs.seq ?_
  refine WCs.region ?_
  refine WLs.val (y_move rfl) rfl <| WLs.val (y_nil rfl) rfl <| WLs.val (y_fld rfl fl135_1) rfl <| WLs.val (y_ld rfl sc132 (Sat.at 2 rfl) (by rfl)) rfl <| ?_
  refine WLs.val (y_move rfl) rfl <| ?_
  refine WLs.callE Tryz.func68 rfl rfl rfl rfl (fun w hs => arc_Remove hs h.toOk) ?_
  refine WLs.val (y_asgn rfl) rfl <| ?_
  refine WLs.nil ?_
  refine WEs.then_n ?_
  refine WCs.ret ?_
  refine WEs.in_ret ?_
  refine WEs.then_ret ?_
  refine WEs.ret1 (.inr rfl) rfl rfl ?_
  exact fun w hs => ⟨rfl, polArc_shut hs⟩

theorem polA_Insert {w : World} {L : List Asrt} {p : Nat} {a : Arc} {k : Str} (hs : Sat w (polAt p (.arc a) :: L)) (h : a.Inv) : Does Tryz.prog 125 [rp p, str k] w fun v w' => Sat w' (sliceAt 9 1 v (a.insert k).2.length ((a.insert k).2.map str) :: polAt p (.arc (a.insert k).1) :: L) := by
  obtain ⟨q, r, hs1⟩ := polArc_open hs
  refine Does.enters hs1 (n := 23) Tryz.func125 rfl rfl rfl rfl ?_
  refine WCs.seq ?_
  refine WCs.region ?_
  refine WLs.val (y_asgn rfl) rfl <| ?_
  refine WLs.nil ?_
  refine WEs.then_n ?_
  refine WCs.seq ?_
  refine WCs.seq ?_
  refine WCs.region ?_
  refine WLs.val (y_move rfl) rfl <| ?_
  refine WLs.callE Tryz.func67 rfl rfl rfl rfl (fun w hs => polA_Kind hs) ?_
  refine WLs.nil ?_
  refine WEs.then_n ?_
  refine WCs.block ?_
  refine WCs.seq ?_
  refine WCs.region ?_
  refine WLs.val (y_eq rfl rfl rfl) rfl <| ?_
  refine WLs.val (y_asgn rfl) rfl <| ?_
  refine WLs.nil ?_
  refine WEs.then_n ?_
  refine WCs.cond_t rfl rfl ?_
  refine WCs.seq ?_
  refine WCs.region ?_
  refine WLs.val (y_move rfl) rfl <| WLs.val (y_nil rfl) rfl <| WLs.val (y_fld rfl fl135_1) rfl <| WLs.val (y_ld rfl sc132 (Sat.at 2 rfl) (by rfl)) rfl <| ?_
  refine WLs.val (y_move rfl) rfl <| ?_
  refine WLs.call Tryz.func163 rfl rfl rfl rfl (fun w hs => arc_Insert hs h) ?_
  rintro v14 w14 hs14
  refine WLs.go hs14 ?_
  refine WLs.val (y_asgn rfl) rfl <| ?_
  refine WLs.nil ?_
  refine WEs.then_n ?_
  refine WCs.ret ?_
  refine WEs.in_ret ?_
  refine WEs.then_ret ?_
  refine WEs.ret1 (.inr rfl) rfl rfl ?_
  exact fun w hs => (polArc_shut (hs.selN 4 [1, 2, 3, 0] (by decide))).swap

omit [Env] in
theorem eq52 (w : World) {a0 b0 : Int} {a1 b1 : Str} {a2 b2 : Str} {a3 b3 : Int} {a4 b4 : Int} : (Op.equalIn 10000 52 (.agg #[.int .i64 a0, str a1, str a2, .int .u64 a3, .int .u64 a4]) (.agg #[.int .i64 b0, str b1, str b2, .int .u64 b3, .int .u64 b4])).run Tryz.prog w = .ok (decide (a0 = b0 ∧ a1 = b1 ∧ a2 = b2 ∧ a3 = b3 ∧ a4 = b4)) w := by
  rw [show (10000 : Nat) = 9998 + 1 + 1 from rfl, run_equalIn_agg w (9998 + 1) 52 _ _ (by kernel_rfl) (by kernel_rfl)]
  by_cases h0 : a0 = b0 <;> by_cases h1 : a1 = b1 <;> by_cases h2 : a2 = b2 <;> by_cases h3 : a3 = b3 <;> by_cases h4 : a4 = b4 <;> simp [Op.eqFields, go_sem, Tryz.underlying22, Tryz.underlying3, Tryz.underlying9, str, h0, h1, h2, h3, h4]

omit [Env] in
theorem eq24 (w : World) {a0 b0 : Int} {a1 b1 : Int} {a2 b2 : Int} {a3 b3 : Int} : (Op.equalIn 10000 24 (.agg #[.int .i64 a0, .int .i64 a1, .int .i64 a2, .int .u64 a3]) (.agg #[.int .i64 b0, .int .i64 b1, .int .i64 b2, .int .u64 b3])).run Tryz.prog w = .ok (decide (a0 = b0 ∧ a1 = b1 ∧ a2 = b2 ∧ a3 = b3)) w := by
  rw [show (10000 : Nat) = 9998 + 1 + 1 from rfl, run_equalIn_agg w (9998 + 1) 24 _ _ (by kernel_rfl) (by kernel_rfl)]
  by_cases h0 : a0 = b0 <;> by_cases h1 : a1 = b1 <;> by_cases h2 : a2 = b2 <;> by_cases h3 : a3 = b3 <;> simp [Op.eqFields, go_sem, Tryz.underlying22, Tryz.underlying3, str, h0, h1, h2, h3]

omit [Env] in
theorem eq61 (w : World) {a0 b0 : Int} {a1 b1 : Str} {a2 b2 : Int} : (Op.equalIn 10000 61 (.agg #[.int .i64 a0, str a1, .int .u64 a2]) (.agg #[.int .i64 b0, str b1, .int .u64 b2])).run Tryz.prog w = .ok (decide (a0 = b0 ∧ a1 = b1 ∧ a2 = b2)) w := by
  rw [show (10000 : Nat) = 9998 + 1 + 1 from rfl, run_equalIn_agg w (9998 + 1) 61 _ _ (by kernel_rfl) (by kernel_rfl)]
  by_cases h0 : a0 = b0 <;> by_cases h1 : a1 = b1 <;> by_cases h2 : a2 = b2 <;> simp [Op.eqFields, go_sem, Tryz.underlying22, Tryz.underlying28, Tryz.underlying9, str, h0, h1, h2]

structure _root_.Go.Hw.Req where
  kind : Int
  key : Str
  value : Str
  ttl : Nat
  version : Nat
def reqC (o : Req) : Array Value := #[.int .i64 o.kind, str o.key, str o.value, u64v o.ttl, u64v o.version]
def reqv (o : Req) : Value := .agg (reqC o)
def _root_.Go.Hw.Req.ok (o : Req) : Bool :=
  !decide ((64 : Int) < (o.key.length : Int)) && !decide ((4096 : Int) < (o.value.length : Int)) && !decide ((1073741824 : Int) < (o.ttl : Int)) &&
  (if o.kind = 1 ∨ o.kind = 3 then decide (o.key ≠ []) && decide (o.value = []) && decide ((o.ttl : Int) = 0) && decide ((o.version : Int) = 0)
   else if o.kind = 2 then decide (o.key ≠ []) && decide ((o.version : Int) = 0)
   else if o.kind = 4 then decide (o.key ≠ []) && decide ((1 : Int) ≤ (o.version : Int))
   else if o.kind = 5 then decide (o.kind = 5 ∧ o.key = [] ∧ o.value = [] ∧ (o.ttl : Int) = 0 ∧ (o.version : Int) = 0)
   else false)

theorem op_Check {w : World} {L : List Asrt} {o : Req} (hs : Sat w L) : Does Tryz.prog 33 [reqv o] w fun v w' => v = .bool o.ok ∧ Sat w' L := by
  refine Does.enters hs (n := 66) Tryz.func33 rfl rfl rfl rfl ?_
  refine WCs.seq ?_
  refine WCs.region ?_
  refine WLs.box rfl rfl (fun q => ?_)
  refine WLs.val (y_asgn rfl) rfl <| ?_
  refine WLs.nil ?_
  refine WEs.then_n ?_
  refine WCs.seq ?_
  refine WCs.seq ?_
  refine WCs.region ?_
  refine WLs.val (y_fld rfl fl52_1) rfl <| WLs.val (y_ld rfl sc9 (by first | exact Sat.at 0 rfl | exact Sat.at 1 rfl | exact Sat.at 2 rfl | exact Sat.at 3 rfl | exact Sat.at 4 rfl | exact Sat.at 5 rfl | exact Sat.at 6 rfl) (by rfl)) rfl <| ?_
  refine WLs.val (y_lenS rfl st9) rfl <| WLs.cmp (fun b hb => y_gt rfl rfl hb) rfl (fun h6 => ?_) (fun h6 => ?_)
  · refine WLs.val (y_move rfl) rfl <| WLs.skipped rfl rfl rfl <| WLs.skipped rfl rfl rfl <| WLs.skipped rfl rfl rfl <| WLs.skipped rfl rfl rfl <| WLs.val (y_pick rfl rfl) rfl <| WLs.val (y_move rfl) rfl <| WLs.skipped rfl rfl rfl <| WLs.skipped rfl rfl rfl <| WLs.skipped rfl rfl rfl <| WLs.val (y_pick rfl rfl) rfl <| ?_
    refine WLs.nil ?_
    refine WEs.then_n ?_
    refine WCs.cond_t rfl rfl ?_
    refine WCs.seq ?_
    refine WCs.region ?_
    refine WLs.val (y_asgn rfl) rfl <| ?_
    refine WLs.nil ?_
    refine WEs.then_n ?_
    refine WCs.ret ?_
    refine WEs.then_ret ?_
    refine WEs.ret1 (.inr rfl) rfl rfl ?_
    exact fun w hs => ⟨by simp [Req.ok, *] <;> (intros; omega), hs.tail⟩
  · refine WLs.val (y_move rfl) rfl <| WLs.guarded rfl rfl <| WLs.val (y_fld rfl fl52_2) rfl <| WLs.guarded rfl rfl <| WLs.val (y_ld rfl sc9 (by first | exact Sat.at 0 rfl | exact Sat.at 1 rfl | exact Sat.at 2 rfl | exact Sat.at 3 rfl | exact Sat.at 4 rfl | exact Sat.at 5 rfl | exact Sat.at 6 rfl) (by rfl)) rfl <| ?_
    refine WLs.guarded rfl rfl <| WLs.val (y_lenS rfl st9) rfl <| WLs.guarded rfl rfl <| WLs.cmp (fun b hb => y_gt rfl rfl hb) rfl (fun h11 => ?_) (fun h11 => ?_)
    · refine WLs.val (y_pick rfl rfl) rfl <| WLs.val (y_move rfl) rfl <| WLs.skipped rfl rfl rfl <| WLs.skipped rfl rfl rfl <| WLs.skipped rfl rfl rfl <| WLs.val (y_pick rfl rfl) rfl <| ?_
      refine WLs.nil ?_
      refine WEs.then_n ?_
      refine WCs.cond_t rfl rfl ?_
      refine WCs.seq ?_
      refine WCs.region ?_
      refine WLs.val (y_asgn rfl) rfl <| ?_
      refine WLs.nil ?_
      refine WEs.then_n ?_
      refine WCs.ret ?_
      refine WEs.then_ret ?_
      refine WEs.ret1 (.inr rfl) rfl rfl ?_
      exact fun w hs => ⟨by simp [Req.ok, *] <;> (intros; omega), hs.tail⟩
    · refine WLs.val (y_pick rfl rfl) rfl <| WLs.val (y_move rfl) rfl <| WLs.guarded rfl rfl <| WLs.val (y_fld rfl fl52_3) rfl <| WLs.guarded rfl rfl <| WLs.val (y_ld rfl sc22 (by first | exact Sat.at 0 rfl | exact Sat.at 1 rfl | exact Sat.at 2 rfl | exact Sat.at 3 rfl | exact Sat.at 4 rfl | exact Sat.at 5 rfl | exact Sat.at 6 rfl) (by rfl)) rfl <| ?_
      refine WLs.guarded rfl rfl <| WLs.cmp (fun b hb => y_gt rfl rfl hb) rfl (fun h16 => ?_) (fun h16 => ?_)
      · refine WLs.val (y_pick rfl rfl) rfl <| ?_
        refine WLs.nil ?_
        refine WEs.then_n ?_
        refine WCs.cond_t rfl rfl ?_
        refine WCs.seq ?_
        refine WCs.region ?_
        refine WLs.val (y_asgn rfl) rfl <| ?_
        refine WLs.nil ?_
        refine WEs.then_n ?_
        refine WCs.ret ?_
        refine WEs.then_ret ?_
        refine WEs.ret1 (.inr rfl) rfl rfl ?_
        exact fun w hs => ⟨by simp [Req.ok, *] <;> (intros; omega), hs.tail⟩
      · refine WLs.val (y_pick rfl rfl) rfl <| ?_
        refine WLs.nil ?_
        refine WEs.then_n ?_
        refine WCs.cond_f rfl rfl ?_
        refine WCs.skip ?_
        refine WEs.then_n ?_
        refine WCs.seq ?_
        refine WCs.seq ?_
        refine WCs.region ?_
        refine WLs.val (y_fld rfl fl52_0) rfl <| WLs.val (y_ld rfl sc3 (by first | exact Sat.at 0 rfl | exact Sat.at 1 rfl | exact Sat.at 2 rfl | exact Sat.at 3 rfl | exact Sat.at 4 rfl | exact Sat.at 5 rfl | exact Sat.at 6 rfl) (by rfl)) rfl <| ?_
        refine WLs.nil ?_
        refine WEs.then_n ?_
        refine WCs.block ?_
        refine WCs.seq ?_
        refine WCs.seq ?_
        refine WCs.region ?_
        refine WLs.cmp (fun b hb => y_eq rfl rfl hb) rfl (fun h21 => ?_) (fun h21 => ?_)
        · refine WLs.val (y_asgn rfl) rfl <| ?_
          refine WLs.nil ?_
          refine WEs.then_n ?_
          refine WCs.cond_t rfl rfl ?_
          refine WCs.skip ?_
          refine WEs.then_n ?_
          refine WCs.cond_t rfl rfl ?_
          refine WCs.seq ?_
          refine WCs.region ?_
          refine WLs.val (y_fld rfl fl52_1) rfl <| WLs.val (y_ld rfl sc9 (by first | exact Sat.at 0 rfl | exact Sat.at 1 rfl | exact Sat.at 2 rfl | exact Sat.at 3 rfl | exact Sat.at 4 rfl | exact Sat.at 5 rfl | exact Sat.at 6 rfl) (by rfl)) rfl <| ?_
          refine WLs.cmp (fun b hb => y_sne rfl rfl hb) rfl (fun h25 => ?_) (fun h25 => ?_)
          · refine WLs.val (y_move rfl) rfl <| WLs.guarded rfl rfl <| WLs.val (y_fld rfl fl52_2) rfl <| WLs.guarded rfl rfl <| WLs.val (y_ld rfl sc9 (by first | exact Sat.at 0 rfl | exact Sat.at 1 rfl | exact Sat.at 2 rfl | exact Sat.at 3 rfl | exact Sat.at 4 rfl | exact Sat.at 5 rfl | exact Sat.at 6 rfl) (by rfl)) rfl <| ?_
            refine WLs.guarded rfl rfl <| WLs.cmp (fun b hb => y_seq rfl rfl hb) rfl (fun h29 => ?_) (fun h29 => ?_)
            · refine WLs.val (y_pick rfl rfl) rfl <| WLs.val (y_move rfl) rfl <| WLs.guarded rfl rfl <| WLs.val (y_fld rfl fl52_3) rfl <| WLs.guarded rfl rfl <| WLs.val (y_ld rfl sc22 (by first | exact Sat.at 0 rfl | exact Sat.at 1 rfl | exact Sat.at 2 rfl | exact Sat.at 3 rfl | exact Sat.at 4 rfl | exact Sat.at 5 rfl | exact Sat.at 6 rfl) (by rfl)) rfl <| ?_
              refine WLs.guarded rfl rfl <| WLs.cmp (fun b hb => y_eq rfl rfl hb) rfl (fun h34 => ?_) (fun h34 => ?_)
              · refine WLs.val (y_pick rfl rfl) rfl <| WLs.val (y_move rfl) rfl <| WLs.guarded rfl rfl <| WLs.val (y_fld rfl fl52_4) rfl <| WLs.guarded rfl rfl <| WLs.val (y_ld rfl sc22 (by first | exact Sat.at 0 rfl | exact Sat.at 1 rfl | exact Sat.at 2 rfl | exact Sat.at 3 rfl | exact Sat.at 4 rfl | exact Sat.at 5 rfl | exact Sat.at 6 rfl) (by rfl)) rfl <| ?_
                refine WLs.guarded rfl rfl <| WLs.cmp (fun b hb => y_eq rfl rfl hb) rfl (fun h39 => ?_) (fun h39 => ?_)
                · refine WLs.val (y_pick rfl rfl) rfl <| WLs.val (y_asgn rfl) rfl <| ?_
                  refine WLs.nil ?_
                  refine WEs.then_n ?_
                  refine WCs.ret ?_
                  refine WEs.in_ret ?_
                  refine WEs.then_ret ?_
                  refine WEs.ret1 (.inr rfl) rfl rfl ?_
                  exact fun w hs => ⟨by simp [Req.ok, *] <;> (intros; omega), hs.tail⟩
                · refine WLs.val (y_pick rfl rfl) rfl <| WLs.val (y_asgn rfl) rfl <| ?_
                  refine WLs.nil ?_
                  refine WEs.then_n ?_
                  refine WCs.ret ?_
                  refine WEs.in_ret ?_
                  refine WEs.then_ret ?_
                  refine WEs.ret1 (.inr rfl) rfl rfl ?_
                  exact fun w hs => ⟨by simp [Req.ok, *] <;> (intros; omega), hs.tail⟩
              · refine WLs.val (y_pick rfl rfl) rfl <| WLs.val (y_move rfl) rfl <| WLs.skipped rfl rfl rfl <| WLs.skipped rfl rfl rfl <| WLs.skipped rfl rfl rfl <| WLs.val (y_pick rfl rfl) rfl <| WLs.val (y_asgn rfl) rfl <| ?_
                refine WLs.nil ?_
                refine WEs.then_n ?_
                refine WCs.ret ?_
                refine WEs.in_ret ?_
                refine WEs.then_ret ?_
                refine WEs.ret1 (.inr rfl) rfl rfl ?_
                exact fun w hs => ⟨by simp [Req.ok, *] <;> (intros; omega), hs.tail⟩
            · refine WLs.val (y_pick rfl rfl) rfl <| WLs.val (y_move rfl) rfl <| WLs.skipped rfl rfl rfl <| WLs.skipped rfl rfl rfl <| WLs.skipped rfl rfl rfl <| WLs.val (y_pick rfl rfl) rfl <| WLs.val (y_move rfl) rfl <| WLs.skipped rfl rfl rfl <| WLs.skipped rfl rfl rfl <| WLs.skipped rfl rfl rfl <| WLs.val (y_pick rfl rfl) rfl <| WLs.val (y_asgn rfl) rfl <| ?_
              refine WLs.nil ?_
              refine WEs.then_n ?_
              refine WCs.ret ?_
              refine WEs.in_ret ?_
              refine WEs.then_ret ?_
              refine WEs.ret1 (.inr rfl) rfl rfl ?_
              exact fun w hs => ⟨by simp [Req.ok, *] <;> (intros; omega), hs.tail⟩
          · refine WLs.val (y_move rfl) rfl <| WLs.skipped rfl rfl rfl <| WLs.skipped rfl rfl rfl <| WLs.skipped rfl rfl rfl <| WLs.val (y_pick rfl rfl) rfl <| WLs.val (y_move rfl) rfl <| WLs.skipped rfl rfl rfl <| WLs.skipped rfl rfl rfl <| WLs.skipped rfl rfl rfl <| WLs.val (y_pick rfl rfl) rfl <| WLs.val (y_move rfl) rfl <| WLs.skipped rfl rfl rfl <| WLs.skipped rfl rfl rfl <| WLs.skipped rfl rfl rfl <| WLs.val (y_pick rfl rfl) rfl <| WLs.val (y_asgn rfl) rfl <| ?_
            refine WLs.nil ?_
            refine WEs.then_n ?_
            refine WCs.ret ?_
            refine WEs.in_ret ?_
            refine WEs.then_ret ?_
            refine WEs.ret1 (.inr rfl) rfl rfl ?_
            exact fun w hs => ⟨by simp [Req.ok, *] <;> (intros; omega), hs.tail⟩
        · refine WLs.val (y_asgn rfl) rfl <| ?_
          refine WLs.nil ?_
          refine WEs.then_n ?_
          refine WCs.cond_f rfl rfl ?_
          refine WCs.region ?_
          refine WLs.cmp (fun b hb => y_eq rfl rfl hb) rfl (fun h22 => ?_) (fun h22 => ?_)
          · refine WLs.val (y_asgn rfl) rfl <| ?_
            refine WLs.nil ?_
            refine WEs.then_n ?_
            refine WCs.cond_t rfl rfl ?_
            refine WCs.seq ?_
            refine WCs.region ?_
            refine WLs.val (y_fld rfl fl52_1) rfl <| WLs.val (y_ld rfl sc9 (by first | exact Sat.at 0 rfl | exact Sat.at 1 rfl | exact Sat.at 2 rfl | exact Sat.at 3 rfl | exact Sat.at 4 rfl | exact Sat.at 5 rfl | exact Sat.at 6 rfl) (by rfl)) rfl <| ?_
            refine WLs.cmp (fun b hb => y_sne rfl rfl hb) rfl (fun h25 => ?_) (fun h25 => ?_)
            · refine WLs.val (y_move rfl) rfl <| WLs.guarded rfl rfl <| WLs.val (y_fld rfl fl52_2) rfl <| WLs.guarded rfl rfl <| WLs.val (y_ld rfl sc9 (by first | exact Sat.at 0 rfl | exact Sat.at 1 rfl | exact Sat.at 2 rfl | exact Sat.at 3 rfl | exact Sat.at 4 rfl | exact Sat.at 5 rfl | exact Sat.at 6 rfl) (by rfl)) rfl <| ?_
              refine WLs.guarded rfl rfl <| WLs.cmp (fun b hb => y_seq rfl rfl hb) rfl (fun h29 => ?_) (fun h29 => ?_)
              · refine WLs.val (y_pick rfl rfl) rfl <| WLs.val (y_move rfl) rfl <| WLs.guarded rfl rfl <| WLs.val (y_fld rfl fl52_3) rfl <| WLs.guarded rfl rfl <| WLs.val (y_ld rfl sc22 (by first | exact Sat.at 0 rfl | exact Sat.at 1 rfl | exact Sat.at 2 rfl | exact Sat.at 3 rfl | exact Sat.at 4 rfl | exact Sat.at 5 rfl | exact Sat.at 6 rfl) (by rfl)) rfl <| ?_
                refine WLs.guarded rfl rfl <| WLs.cmp (fun b hb => y_eq rfl rfl hb) rfl (fun h34 => ?_) (fun h34 => ?_)
                · refine WLs.val (y_pick rfl rfl) rfl <| WLs.val (y_move rfl) rfl <| WLs.guarded rfl rfl <| WLs.val (y_fld rfl fl52_4) rfl <| WLs.guarded rfl rfl <| WLs.val (y_ld rfl sc22 (by first | exact Sat.at 0 rfl | exact Sat.at 1 rfl | exact Sat.at 2 rfl | exact Sat.at 3 rfl | exact Sat.at 4 rfl | exact Sat.at 5 rfl | exact Sat.at 6 rfl) (by rfl)) rfl <| ?_
                  refine WLs.guarded rfl rfl <| WLs.cmp (fun b hb => y_eq rfl rfl hb) rfl (fun h39 => ?_) (fun h39 => ?_)
                  · refine WLs.val (y_pick rfl rfl) rfl <| WLs.val (y_asgn rfl) rfl <| ?_
                    refine WLs.nil ?_
                    refine WEs.then_n ?_
                    refine WCs.ret ?_
                    refine WEs.in_ret ?_
                    refine WEs.then_ret ?_
                    refine WEs.ret1 (.inr rfl) rfl rfl ?_
                    exact fun w hs => ⟨by simp [Req.ok, *] <;> (intros; omega), hs.tail⟩
                  · refine WLs.val (y_pick rfl rfl) rfl <| WLs.val (y_asgn rfl) rfl <| ?_
                    refine WLs.nil ?_
                    refine WEs.then_n ?_
                    refine WCs.ret ?_
                    refine WEs.in_ret ?_
                    refine WEs.then_ret ?_
                    refine WEs.ret1 (.inr rfl) rfl rfl ?_
                    exact fun w hs => ⟨by simp [Req.ok, *] <;> (intros; omega), hs.tail⟩
                · refine WLs.val (y_pick rfl rfl) rfl <| WLs.val (y_move rfl) rfl <| WLs.skipped rfl rfl rfl <| WLs.skipped rfl rfl rfl <| WLs.skipped rfl rfl rfl <| WLs.val (y_pick rfl rfl) rfl <| WLs.val (y_asgn rfl) rfl <| ?_
                  refine WLs.nil ?_
                  refine WEs.then_n ?_
                  refine WCs.ret ?_
                  refine WEs.in_ret ?_
                  refine WEs.then_ret ?_
                  refine WEs.ret1 (.inr rfl) rfl rfl ?_
                  exact fun w hs => ⟨by simp [Req.ok, *] <;> (intros; omega), hs.tail⟩
              · refine WLs.val (y_pick rfl rfl) rfl <| WLs.val (y_move rfl) rfl <| WLs.skipped rfl rfl rfl <| WLs.skipped rfl rfl rfl <| WLs.skipped rfl rfl rfl <| WLs.val (y_pick rfl rfl) rfl <| WLs.val (y_move rfl) rfl <| WLs.skipped rfl rfl rfl <| WLs.skipped rfl rfl rfl <| WLs.skipped rfl rfl rfl <| WLs.val (y_pick rfl rfl) rfl <| WLs.val (y_asgn rfl) rfl <| ?_
                refine WLs.nil ?_
                refine WEs.then_n ?_
                refine WCs.ret ?_
                refine WEs.in_ret ?_
                refine WEs.then_ret ?_
                refine WEs.ret1 (.inr rfl) rfl rfl ?_
                exact fun w hs => ⟨by simp [Req.ok, *] <;> (intros; omega), hs.tail⟩
            · refine WLs.val (y_move rfl) rfl <| WLs.skipped rfl rfl rfl <| WLs.skipped rfl rfl rfl <| WLs.skipped rfl rfl rfl <| WLs.val (y_pick rfl rfl) rfl <| WLs.val (y_move rfl) rfl <| WLs.skipped rfl rfl rfl <| WLs.skipped rfl rfl rfl <| WLs.skipped rfl rfl rfl <| WLs.val (y_pick rfl rfl) rfl <| WLs.val (y_move rfl) rfl <| WLs.skipped rfl rfl rfl <| WLs.skipped rfl rfl rfl <| WLs.skipped rfl rfl rfl <| WLs.val (y_pick rfl rfl) rfl <| WLs.val (y_asgn rfl) rfl <| ?_
              refine WLs.nil ?_
              refine WEs.then_n ?_
              refine WCs.ret ?_
              refine WEs.in_ret ?_
              refine WEs.then_ret ?_
              refine WEs.ret1 (.inr rfl) rfl rfl ?_
              exact fun w hs => ⟨by simp [Req.ok, *] <;> (intros; omega), hs.tail⟩
          · refine WLs.val (y_asgn rfl) rfl <| ?_
            refine WLs.nil ?_
            refine WEs.then_n ?_
            refine WCs.cond_f rfl rfl ?_
            refine WCs.seq ?_
            refine WCs.region ?_
            refine WLs.cmp (fun b hb => y_eq rfl rfl hb) rfl (fun h42 => ?_) (fun h42 => ?_)
            · refine WLs.val (y_asgn rfl) rfl <| ?_
              refine WLs.nil ?_
              refine WEs.then_n ?_
              refine WCs.cond_t rfl rfl ?_
              refine WCs.seq ?_
              refine WCs.region ?_
              refine WLs.val (y_fld rfl fl52_1) rfl <| WLs.val (y_ld rfl sc9 (by first | exact Sat.at 0 rfl | exact Sat.at 1 rfl | exact Sat.at 2 rfl | exact Sat.at 3 rfl | exact Sat.at 4 rfl | exact Sat.at 5 rfl | exact Sat.at 6 rfl) (by rfl)) rfl <| ?_
              refine WLs.cmp (fun b hb => y_sne rfl rfl hb) rfl (fun h45 => ?_) (fun h45 => ?_)
              · refine WLs.val (y_move rfl) rfl <| WLs.guarded rfl rfl <| WLs.val (y_fld rfl fl52_4) rfl <| WLs.guarded rfl rfl <| WLs.val (y_ld rfl sc22 (by first | exact Sat.at 0 rfl | exact Sat.at 1 rfl | exact Sat.at 2 rfl | exact Sat.at 3 rfl | exact Sat.at 4 rfl | exact Sat.at 5 rfl | exact Sat.at 6 rfl) (by rfl)) rfl <| ?_
                refine WLs.guarded rfl rfl <| WLs.cmp (fun b hb => y_eq rfl rfl hb) rfl (fun h49 => ?_) (fun h49 => ?_)
                · refine WLs.val (y_pick rfl rfl) rfl <| WLs.val (y_asgn rfl) rfl <| ?_
                  refine WLs.nil ?_
                  refine WEs.then_n ?_
                  refine WCs.ret ?_
                  refine WEs.in_ret ?_
                  refine WEs.then_ret ?_
                  refine WEs.ret1 (.inr rfl) rfl rfl ?_
                  exact fun w hs => ⟨by simp [Req.ok, *] <;> (intros; omega), hs.tail⟩
                · refine WLs.val (y_pick rfl rfl) rfl <| WLs.val (y_asgn rfl) rfl <| ?_
                  refine WLs.nil ?_
                  refine WEs.then_n ?_
                  refine WCs.ret ?_
                  refine WEs.in_ret ?_
                  refine WEs.then_ret ?_
                  refine WEs.ret1 (.inr rfl) rfl rfl ?_
                  exact fun w hs => ⟨by simp [Req.ok, *] <;> (intros; omega), hs.tail⟩
              · refine WLs.val (y_move rfl) rfl <| WLs.skipped rfl rfl rfl <| WLs.skipped rfl rfl rfl <| WLs.skipped rfl rfl rfl <| WLs.val (y_pick rfl rfl) rfl <| WLs.val (y_asgn rfl) rfl <| ?_
                refine WLs.nil ?_
                refine WEs.then_n ?_
                refine WCs.ret ?_
                refine WEs.in_ret ?_
                refine WEs.then_ret ?_
                refine WEs.ret1 (.inr rfl) rfl rfl ?_
                exact fun w hs => ⟨by simp [Req.ok, *] <;> (intros; omega), hs.tail⟩
            · refine WLs.val (y_asgn rfl) rfl <| ?_
              refine WLs.nil ?_
              refine WEs.then_n ?_
              refine WCs.cond_f rfl rfl ?_
              refine WCs.seq ?_
              refine WCs.region ?_
              refine WLs.cmp (fun b hb => y_eq rfl rfl hb) rfl (fun h52 => ?_) (fun h52 => ?_)
              · refine WLs.val (y_asgn rfl) rfl <| ?_
                refine WLs.nil ?_
                refine WEs.then_n ?_
                refine WCs.cond_t rfl rfl ?_
                refine WCs.seq ?_
                refine WCs.region ?_
                refine WLs.val (y_fld rfl fl52_1) rfl <| WLs.val (y_ld rfl sc9 (by first | exact Sat.at 0 rfl | exact Sat.at 1 rfl | exact Sat.at 2 rfl | exact Sat.at 3 rfl | exact Sat.at 4 rfl | exact Sat.at 5 rfl | exact Sat.at 6 rfl) (by rfl)) rfl <| ?_
                refine WLs.cmp (fun b hb => y_sne rfl rfl hb) rfl (fun h55 => ?_) (fun h55 => ?_)
                · refine WLs.val (y_move rfl) rfl <| WLs.guarded rfl rfl <| WLs.val (y_fld rfl fl52_4) rfl <| WLs.guarded rfl rfl <| WLs.val (y_ld rfl sc22 (by first | exact Sat.at 0 rfl | exact Sat.at 1 rfl | exact Sat.at 2 rfl | exact Sat.at 3 rfl | exact Sat.at 4 rfl | exact Sat.at 5 rfl | exact Sat.at 6 rfl) (by rfl)) rfl <| ?_
                  refine WLs.guarded rfl rfl <| WLs.cmp (fun b hb => y_ge rfl rfl hb) rfl (fun h59 => ?_) (fun h59 => ?_)
                  · refine WLs.val (y_pick rfl rfl) rfl <| WLs.val (y_asgn rfl) rfl <| ?_
                    refine WLs.nil ?_
                    refine WEs.then_n ?_
                    refine WCs.ret ?_
                    refine WEs.in_ret ?_
                    refine WEs.then_ret ?_
                    refine WEs.ret1 (.inr rfl) rfl rfl ?_
                    exact fun w hs => ⟨by simp [Req.ok, *] <;> (intros; omega), hs.tail⟩
                  · refine WLs.val (y_pick rfl rfl) rfl <| WLs.val (y_asgn rfl) rfl <| ?_
                    refine WLs.nil ?_
                    refine WEs.then_n ?_
                    refine WCs.ret ?_
                    refine WEs.in_ret ?_
                    refine WEs.then_ret ?_
                    refine WEs.ret1 (.inr rfl) rfl rfl ?_
                    exact fun w hs => ⟨by simp [Req.ok, *] <;> (intros; omega), hs.tail⟩
                · refine WLs.val (y_move rfl) rfl <| WLs.skipped rfl rfl rfl <| WLs.skipped rfl rfl rfl <| WLs.skipped rfl rfl rfl <| WLs.val (y_pick rfl rfl) rfl <| WLs.val (y_asgn rfl) rfl <| ?_
                  refine WLs.nil ?_
                  refine WEs.then_n ?_
                  refine WCs.ret ?_
                  refine WEs.in_ret ?_
                  refine WEs.then_ret ?_
                  refine WEs.ret1 (.inr rfl) rfl rfl ?_
                  exact fun w hs => ⟨by simp [Req.ok, *] <;> (intros; omega), hs.tail⟩
              · refine WLs.val (y_asgn rfl) rfl <| ?_
                refine WLs.nil ?_
                refine WEs.then_n ?_
                refine WCs.cond_f rfl rfl ?_
                refine WCs.seq ?_
                refine WCs.region ?_
                refine WLs.cmp (fun b hb => y_eq rfl rfl hb) rfl (fun h62 => ?_) (fun h62 => ?_)
                · refine WLs.val (y_asgn rfl) rfl <| ?_
                  refine WLs.nil ?_
                  refine WEs.then_n ?_
                  refine WCs.cond_t rfl rfl ?_
                  refine WCs.seq ?_
                  refine WCs.region ?_
                  refine WLs.val (y_ldA rfl ag52 (by first | exact Sat.at 0 rfl | exact Sat.at 1 rfl | exact Sat.at 2 rfl | exact Sat.at 3 rfl | exact Sat.at 4 rfl | exact Sat.at 5 rfl | exact Sat.at 6 rfl) (Nat.le_of_ble_eq_true rfl) (by rfl)) rfl <| ?_
                  refine WLs.val (y_build (is := [0]) (xs := [.const (.int .i64 5)]) #[(0, .const (.int .i64 5))] rfl rfl pl52 zr52 rfl) rfl <| ?_
                  refine WLs.val (y_aeq rfl rfl Tryz.eqGuardType52 (fun w => eq52 w)) rfl <| ?_
                  refine WLs.val (y_asgn rfl) rfl <| ?_
                  refine WLs.nil ?_
                  refine WEs.then_n ?_
                  refine WCs.ret ?_
                  refine WEs.in_ret ?_
                  refine WEs.then_ret ?_
                  refine WEs.ret1 (.inr rfl) rfl rfl ?_
                  exact fun w hs => ⟨by simp [Req.ok, *] <;> (intros; omega), hs.tail⟩
                · refine WLs.val (y_asgn rfl) rfl <| ?_
                  refine WLs.nil ?_
                  refine WEs.then_n ?_
                  refine WCs.cond_f rfl rfl ?_
                  refine WCs.skip ?_
                  refine WEs.in_n ?_
                  refine WEs.then_n ?_
                  refine WCs.seq ?_
                  refine WCs.region ?_
                  refine WLs.val (y_asgn rfl) rfl <| ?_
                  refine WLs.nil ?_
                  refine WEs.then_n ?_
                  refine WCs.ret ?_
                  refine WEs.ret1 (.inr rfl) rfl rfl ?_
                  exact fun w hs => ⟨by simp [Req.ok, *] <;> (intros; omega), hs.tail⟩

structure _root_.Go.Hw.Conf where
  policy : Int
  entries : Int
  bytes : Int
  seed : Nat
def confC (c : Conf) : Array Value := #[.int .i64 c.policy, .int .i64 c.entries, .int .i64 c.bytes, u64v c.seed]
def confv (c : Conf) : Value := .agg (confC c)
def _root_.Go.Hw.Conf.ok (c : Conf) : Bool := (decide (c.policy = 1) || decide (c.policy = 2)) && decide (1 ≤ c.entries) && decide (c.entries ≤ 1000) && decide (1 ≤ c.bytes) && decide (c.bytes ≤ 1048576)
structure _root_.Go.Hw.Rep where
  e : Int
  value : Str
  version : Nat
def repC (r : Rep) : Array Value := #[.int .i64 r.e, str r.value, u64v r.version]
def repv (r : Rep) : Value := .agg (repC r)
structure _root_.Go.Hw.Last where
  num : Nat
  rep : Rep
def lastv (l : Last) : Value := .agg #[u64v l.num, .int .i64 l.rep.e, str l.rep.value, u64v l.rep.version]
def sesEnc (i : Int) : Value := .int .u64 i
structure _root_.Go.Hw.Sto where
  c : Conf
  tab : Tab
  pol : Pol
  ses : List (Int × Last)
  seq : Nat
  now : Nat
  version : Nat
  asked : Nat
  hits : Nat
def stoC (S : Sto) (pt' pp bs : Nat) : Array Value := #[.int .i64 S.c.policy, .int .i64 S.c.entries, .int .i64 S.c.bytes, u64v S.c.seed, rp pt', rp pp, .map (some bs), u64v S.seq, u64v S.now, u64v S.version, natv S.asked, natv S.hits]
/-- the memory of a cache: its table (two parts), its policy, its sessions, its struct -/
abbrev stoL (bt pt' pp bs ps : Nat) (S : Sto) (L : List Asrt) : List Asrt :=
  tabL bt pt' S.tab (polAt pp S.pol :: mapAt sesEnc lastv bs S.ses :: pt ps (.cells (stoC S pt' pp bs) 94 (0, 0)) :: L)
def _root_.Go.Hw.Sto.new (c : Conf) (m : Nat) : Sto := ⟨c, [], if c.policy = 1 then .arc ⟨m, 0, List.replicate 4 []⟩ else .tiny (Tiny.new m c.seed), [], 0, 0, 0, 0, 0⟩

theorem table_New2 {w : World} {L : List Asrt} (hs : Sat w L) : Does Tryz.prog 31 [] w fun v w' => ∃ x : Nat × Nat, v = rp x.2 ∧ Sat w' (tabL x.1 x.2 [] L) :=
  (table_New hs).mono fun v w h => by obtain ⟨b, p, h⟩ := h; exact ⟨(b, p), h⟩

theorem store_Check {w : World} {L : List Asrt} {c : Conf} (hs : Sat w L) : Does Tryz.prog 24 [confv c] w fun v w' => v = .bool c.ok ∧ Sat w' L := by
  refine Does.enters hs (n := 33) Tryz.func24 rfl rfl rfl rfl ?_
  refine WCs.seq ?_
  refine WCs.region ?_
  refine WLs.box rfl rfl (fun q => ?_)
  refine WLs.val (y_asgn rfl) rfl <| ?_
  refine WLs.nil ?_
  refine WEs.then_n ?_
  refine WCs.seq ?_
  refine WCs.region ?_
  refine WLs.val (y_fld rfl fl24_0) rfl <| WLs.val (y_ld rfl sc3 (by first | exact Sat.at 0 rfl | exact Sat.at 1 rfl | exact Sat.at 2 rfl | exact Sat.at 3 rfl | exact Sat.at 4 rfl | exact Sat.at 5 rfl | exact Sat.at 6 rfl) (by rfl)) rfl <| ?_
  refine WLs.cmp (fun b hb => y_eq rfl rfl hb) rfl (fun h6 => ?_) (fun h6 => ?_)
  · refine WLs.val (y_move rfl) rfl <| WLs.skipped rfl rfl rfl <| WLs.skipped rfl rfl rfl <| WLs.skipped rfl rfl rfl <| WLs.val (y_pick rfl rfl) rfl <| WLs.val (y_asgn rfl) rfl <| ?_
    refine WLs.nil ?_
    refine WEs.then_n ?_
    refine WCs.seq ?_
    refine WCs.region ?_
    refine WLs.val (y_move rfl) rfl <| WLs.val (y_move rfl) rfl <| WLs.guarded rfl rfl <| WLs.val (y_fld rfl fl24_1) rfl <| WLs.guarded rfl rfl <| WLs.val (y_ld rfl sc3 (by first | exact Sat.at 0 rfl | exact Sat.at 1 rfl | exact Sat.at 2 rfl | exact Sat.at 3 rfl | exact Sat.at 4 rfl | exact Sat.at 5 rfl | exact Sat.at 6 rfl) (by rfl)) rfl <| ?_
    refine WLs.guarded rfl rfl <| WLs.cmp (fun b hb => y_ge rfl rfl hb) rfl (fun h16 => ?_) (fun h16 => ?_)
    · refine WLs.val (y_pick rfl rfl) rfl <| WLs.val (y_move rfl) rfl <| WLs.guarded rfl rfl <| WLs.val (y_fld rfl fl24_1) rfl <| WLs.guarded rfl rfl <| WLs.val (y_ld rfl sc3 (by first | exact Sat.at 0 rfl | exact Sat.at 1 rfl | exact Sat.at 2 rfl | exact Sat.at 3 rfl | exact Sat.at 4 rfl | exact Sat.at 5 rfl | exact Sat.at 6 rfl) (by rfl)) rfl <| ?_
      refine WLs.guarded rfl rfl <| WLs.cmp (fun b hb => y_le rfl rfl hb) rfl (fun h21 => ?_) (fun h21 => ?_)
      · refine WLs.val (y_pick rfl rfl) rfl <| WLs.val (y_move rfl) rfl <| WLs.guarded rfl rfl <| WLs.val (y_fld rfl fl24_2) rfl <| WLs.guarded rfl rfl <| WLs.val (y_ld rfl sc3 (by first | exact Sat.at 0 rfl | exact Sat.at 1 rfl | exact Sat.at 2 rfl | exact Sat.at 3 rfl | exact Sat.at 4 rfl | exact Sat.at 5 rfl | exact Sat.at 6 rfl) (by rfl)) rfl <| ?_
        refine WLs.guarded rfl rfl <| WLs.cmp (fun b hb => y_ge rfl rfl hb) rfl (fun h26 => ?_) (fun h26 => ?_)
        · refine WLs.val (y_pick rfl rfl) rfl <| WLs.val (y_move rfl) rfl <| WLs.guarded rfl rfl <| WLs.val (y_fld rfl fl24_2) rfl <| WLs.guarded rfl rfl <| WLs.val (y_ld rfl sc3 (by first | exact Sat.at 0 rfl | exact Sat.at 1 rfl | exact Sat.at 2 rfl | exact Sat.at 3 rfl | exact Sat.at 4 rfl | exact Sat.at 5 rfl | exact Sat.at 6 rfl) (by rfl)) rfl <| ?_
          refine WLs.guarded rfl rfl <| WLs.cmp (fun b hb => y_le rfl rfl hb) rfl (fun h31 => ?_) (fun h31 => ?_)
          · refine WLs.val (y_pick rfl rfl) rfl <| WLs.val (y_asgn rfl) rfl <| ?_
            refine WLs.nil ?_
            refine WEs.then_n ?_
            refine WCs.ret ?_
            refine WEs.ret1 (.inr rfl) rfl rfl ?_
            exact fun w hs => ⟨by simp [Conf.ok, *], hs.tail⟩
          · refine WLs.val (y_pick rfl rfl) rfl <| WLs.val (y_asgn rfl) rfl <| ?_
            refine WLs.nil ?_
            refine WEs.then_n ?_
            refine WCs.ret ?_
            refine WEs.ret1 (.inr rfl) rfl rfl ?_
            exact fun w hs => ⟨by simp [Conf.ok, *], hs.tail⟩
        · refine WLs.val (y_pick rfl rfl) rfl <| WLs.val (y_move rfl) rfl <| WLs.skipped rfl rfl rfl <| WLs.skipped rfl rfl rfl <| WLs.skipped rfl rfl rfl <| WLs.val (y_pick rfl rfl) rfl <| WLs.val (y_asgn rfl) rfl <| ?_
          refine WLs.nil ?_
          refine WEs.then_n ?_
          refine WCs.ret ?_
          refine WEs.ret1 (.inr rfl) rfl rfl ?_
          exact fun w hs => ⟨by simp [Conf.ok, *], hs.tail⟩
      · refine WLs.val (y_pick rfl rfl) rfl <| WLs.val (y_move rfl) rfl <| WLs.skipped rfl rfl rfl <| WLs.skipped rfl rfl rfl <| WLs.skipped rfl rfl rfl <| WLs.val (y_pick rfl rfl) rfl <| WLs.val (y_move rfl) rfl <| WLs.skipped rfl rfl rfl <| WLs.skipped rfl rfl rfl <| WLs.skipped rfl rfl rfl <| WLs.val (y_pick rfl rfl) rfl <| WLs.val (y_asgn rfl) rfl <| ?_
        refine WLs.nil ?_
        refine WEs.then_n ?_
        refine WCs.ret ?_
        refine WEs.ret1 (.inr rfl) rfl rfl ?_
        exact fun w hs => ⟨by simp [Conf.ok, *], hs.tail⟩
    · refine WLs.val (y_pick rfl rfl) rfl <| WLs.val (y_move rfl) rfl <| WLs.skipped rfl rfl rfl <| WLs.skipped rfl rfl rfl <| WLs.skipped rfl rfl rfl <| WLs.val (y_pick rfl rfl) rfl <| WLs.val (y_move rfl) rfl <| WLs.skipped rfl rfl rfl <| WLs.skipped rfl rfl rfl <| WLs.skipped rfl rfl rfl <| WLs.val (y_pick rfl rfl) rfl <| WLs.val (y_move rfl) rfl <| WLs.skipped rfl rfl rfl <| WLs.skipped rfl rfl rfl <| WLs.skipped rfl rfl rfl <| WLs.val (y_pick rfl rfl) rfl <| WLs.val (y_asgn rfl) rfl <| ?_
      refine WLs.nil ?_
      refine WEs.then_n ?_
      refine WCs.ret ?_
      refine WEs.ret1 (.inr rfl) rfl rfl ?_
      exact fun w hs => ⟨by simp [Conf.ok, *], hs.tail⟩
  · refine WLs.val (y_move rfl) rfl <| WLs.guarded rfl rfl <| WLs.val (y_fld rfl fl24_0) rfl <| WLs.guarded rfl rfl <| WLs.val (y_ld rfl sc3 (by first | exact Sat.at 0 rfl | exact Sat.at 1 rfl | exact Sat.at 2 rfl | exact Sat.at 3 rfl | exact Sat.at 4 rfl | exact Sat.at 5 rfl | exact Sat.at 6 rfl) (by rfl)) rfl <| ?_
    refine WLs.guarded rfl rfl <| WLs.cmp (fun b hb => y_eq rfl rfl hb) rfl (fun h10 => ?_) (fun h10 => ?_)
    · refine WLs.val (y_pick rfl rfl) rfl <| WLs.val (y_asgn rfl) rfl <| ?_
      refine WLs.nil ?_
      refine WEs.then_n ?_
      refine WCs.seq ?_
      refine WCs.region ?_
      refine WLs.val (y_move rfl) rfl <| WLs.val (y_move rfl) rfl <| WLs.guarded rfl rfl <| WLs.val (y_fld rfl fl24_1) rfl <| WLs.guarded rfl rfl <| WLs.val (y_ld rfl sc3 (by first | exact Sat.at 0 rfl | exact Sat.at 1 rfl | exact Sat.at 2 rfl | exact Sat.at 3 rfl | exact Sat.at 4 rfl | exact Sat.at 5 rfl | exact Sat.at 6 rfl) (by rfl)) rfl <| ?_
      refine WLs.guarded rfl rfl <| WLs.cmp (fun b hb => y_ge rfl rfl hb) rfl (fun h16 => ?_) (fun h16 => ?_)
      · refine WLs.val (y_pick rfl rfl) rfl <| WLs.val (y_move rfl) rfl <| WLs.guarded rfl rfl <| WLs.val (y_fld rfl fl24_1) rfl <| WLs.guarded rfl rfl <| WLs.val (y_ld rfl sc3 (by first | exact Sat.at 0 rfl | exact Sat.at 1 rfl | exact Sat.at 2 rfl | exact Sat.at 3 rfl | exact Sat.at 4 rfl | exact Sat.at 5 rfl | exact Sat.at 6 rfl) (by rfl)) rfl <| ?_
        refine WLs.guarded rfl rfl <| WLs.cmp (fun b hb => y_le rfl rfl hb) rfl (fun h21 => ?_) (fun h21 => ?_)
        · refine WLs.val (y_pick rfl rfl) rfl <| WLs.val (y_move rfl) rfl <| WLs.guarded rfl rfl <| WLs.val (y_fld rfl fl24_2) rfl <| WLs.guarded rfl rfl <| WLs.val (y_ld rfl sc3 (by first | exact Sat.at 0 rfl | exact Sat.at 1 rfl | exact Sat.at 2 rfl | exact Sat.at 3 rfl | exact Sat.at 4 rfl | exact Sat.at 5 rfl | exact Sat.at 6 rfl) (by rfl)) rfl <| ?_
          refine WLs.guarded rfl rfl <| WLs.cmp (fun b hb => y_ge rfl rfl hb) rfl (fun h26 => ?_) (fun h26 => ?_)
          · refine WLs.val (y_pick rfl rfl) rfl <| WLs.val (y_move rfl) rfl <| WLs.guarded rfl rfl <| WLs.val (y_fld rfl fl24_2) rfl <| WLs.guarded rfl rfl <| WLs.val (y_ld rfl sc3 (by first | exact Sat.at 0 rfl | exact Sat.at 1 rfl | exact Sat.at 2 rfl | exact Sat.at 3 rfl | exact Sat.at 4 rfl | exact Sat.at 5 rfl | exact Sat.at 6 rfl) (by rfl)) rfl <| ?_
            refine WLs.guarded rfl rfl <| WLs.cmp (fun b hb => y_le rfl rfl hb) rfl (fun h31 => ?_) (fun h31 => ?_)
            · refine WLs.val (y_pick rfl rfl) rfl <| WLs.val (y_asgn rfl) rfl <| ?_
              refine WLs.nil ?_
              refine WEs.then_n ?_
              refine WCs.ret ?_
              refine WEs.ret1 (.inr rfl) rfl rfl ?_
              exact fun w hs => ⟨by simp [Conf.ok, *], hs.tail⟩
            · refine WLs.val (y_pick rfl rfl) rfl <| WLs.val (y_asgn rfl) rfl <| ?_
              refine WLs.nil ?_
              refine WEs.then_n ?_
              refine WCs.ret ?_
              refine WEs.ret1 (.inr rfl) rfl rfl ?_
              exact fun w hs => ⟨by simp [Conf.ok, *], hs.tail⟩
          · refine WLs.val (y_pick rfl rfl) rfl <| WLs.val (y_move rfl) rfl <| WLs.skipped rfl rfl rfl <| WLs.skipped rfl rfl rfl <| WLs.skipped rfl rfl rfl <| WLs.val (y_pick rfl rfl) rfl <| WLs.val (y_asgn rfl) rfl <| ?_
            refine WLs.nil ?_
            refine WEs.then_n ?_
            refine WCs.ret ?_
            refine WEs.ret1 (.inr rfl) rfl rfl ?_
            exact fun w hs => ⟨by simp [Conf.ok, *], hs.tail⟩
        · refine WLs.val (y_pick rfl rfl) rfl <| WLs.val (y_move rfl) rfl <| WLs.skipped rfl rfl rfl <| WLs.skipped rfl rfl rfl <| WLs.skipped rfl rfl rfl <| WLs.val (y_pick rfl rfl) rfl <| WLs.val (y_move rfl) rfl <| WLs.skipped rfl rfl rfl <| WLs.skipped rfl rfl rfl <| WLs.skipped rfl rfl rfl <| WLs.val (y_pick rfl rfl) rfl <| WLs.val (y_asgn rfl) rfl <| ?_
          refine WLs.nil ?_
          refine WEs.then_n ?_
          refine WCs.ret ?_
          refine WEs.ret1 (.inr rfl) rfl rfl ?_
          exact fun w hs => ⟨by simp [Conf.ok, *], hs.tail⟩
      · refine WLs.val (y_pick rfl rfl) rfl <| WLs.val (y_move rfl) rfl <| WLs.skipped rfl rfl rfl <| WLs.skipped rfl rfl rfl <| WLs.skipped rfl rfl rfl <| WLs.val (y_pick rfl rfl) rfl <| WLs.val (y_move rfl) rfl <| WLs.skipped rfl rfl rfl <| WLs.skipped rfl rfl rfl <| WLs.skipped rfl rfl rfl <| WLs.val (y_pick rfl rfl) rfl <| WLs.val (y_move rfl) rfl <| WLs.skipped rfl rfl rfl <| WLs.skipped rfl rfl rfl <| WLs.skipped rfl rfl rfl <| WLs.val (y_pick rfl rfl) rfl <| WLs.val (y_asgn rfl) rfl <| ?_
        refine WLs.nil ?_
        refine WEs.then_n ?_
        refine WCs.ret ?_
        refine WEs.ret1 (.inr rfl) rfl rfl ?_
        exact fun w hs => ⟨by simp [Conf.ok, *], hs.tail⟩
    · refine WLs.val (y_pick rfl rfl) rfl <| WLs.val (y_asgn rfl) rfl <| ?_
      refine WLs.nil ?_
      refine WEs.then_n ?_
      refine WCs.seq ?_
      refine WCs.region ?_
      refine WLs.val (y_move rfl) rfl <| WLs.val (y_move rfl) rfl <| WLs.skipped rfl rfl rfl <| WLs.skipped rfl rfl rfl <| WLs.skipped rfl rfl rfl <| WLs.val (y_pick rfl rfl) rfl <| WLs.val (y_move rfl) rfl <| WLs.skipped rfl rfl rfl <| WLs.skipped rfl rfl rfl <| WLs.skipped rfl rfl rfl <| WLs.val (y_pick rfl rfl) rfl <| WLs.val (y_move rfl) rfl <| WLs.skipped rfl rfl rfl <| WLs.skipped rfl rfl rfl <| WLs.skipped rfl rfl rfl <| WLs.val (y_pick rfl rfl) rfl <| WLs.val (y_move rfl) rfl <| WLs.skipped rfl rfl rfl <| WLs.skipped rfl rfl rfl <| WLs.skipped rfl rfl rfl <| WLs.val (y_pick rfl rfl) rfl <| WLs.val (y_asgn rfl) rfl <| ?_
      refine WLs.nil ?_
      refine WEs.then_n ?_
      refine WCs.ret ?_
      refine WEs.ret1 (.inr rfl) rfl rfl ?_
      exact fun w hs => ⟨by simp [Conf.ok, *], hs.tail⟩

theorem store_New_no {w : World} {L : List Asrt} {c : Conf} (hs : Sat w L) (hc : c.ok = false) : Does Tryz.prog 8 [confv c] w fun v w' => v = .tuple #[.pointer none, .int .i64 1] ∧ Sat w' L := by
  refine Does.enters hs (n := 26) Tryz.func8 rfl rfl rfl rfl ?_
  refine WCs.seq ?_
  refine WCs.region ?_
  refine WLs.box rfl rfl (fun q => ?_)
  refine WLs.val (y_asgn rfl) rfl <| WLs.val (y_asgn rfl) rfl <| ?_
  refine WLs.nil ?_
  refine WEs.then_n ?_
  refine WCs.seq ?_
  refine WCs.seq ?_
  refine WCs.region ?_
  refine WLs.val (y_ldA rfl ag24 (Sat.at 0 rfl) (Nat.le_of_ble_eq_true rfl) (by rfl)) rfl <| ?_
  refine WLs.callE Tryz.func24 rfl rfl rfl rfl (fun w hs => hc ▸ store_Check (c := c) hs) ?_
  refine WLs.val (y_not rfl) rfl <| ?_
  refine WLs.nil ?_
  refine WEs.then_n ?_
  refine WCs.cond_t rfl rfl ?_
  refine WCs.seq ?_
  refine WCs.region ?_
  refine WLs.val (y_asgn rfl) rfl <| WLs.val (y_asgn rfl) rfl <| ?_
  refine WLs.nil ?_
  refine WEs.then_n ?_
  refine WCs.ret ?_
  refine WEs.then_ret ?_
  refine WEs.ret2 (.inr rfl) rfl rfl rfl ?_
  exact fun w hs => ⟨rfl, hs.tail⟩

theorem store_New1 {w : World} {L : List Asrt} {c : Conf} {m : Nat} (hs : Sat w L) (hc : c.ok = true) (hp : c.policy = 1) (hm : c.entries = m) (h1 : 1 ≤ m) (h2 : m ≤ 1000) :
    Does Tryz.prog 8 [confv c] w fun v w' => ∃ bt pt' pp bs ps, v = .tuple #[rp ps, .int .i64 0] ∧ Sat w' (stoL bt pt' pp bs ps (Sto.new c m) L) := by
  refine Does.enters hs (n := 26) Tryz.func8 rfl rfl rfl rfl ?_
  refine WCs.seq ?_
  refine WCs.region ?_
  refine WLs.box rfl rfl (fun q => ?_)
  refine WLs.val (y_asgn rfl) rfl <| WLs.val (y_asgn rfl) rfl <| ?_
  refine WLs.nil ?_
  refine WEs.then_n ?_
  refine WCs.seq ?_
  refine WCs.seq ?_
  refine WCs.region ?_
  refine WLs.val (y_ldA rfl ag24 (Sat.at 0 rfl) (Nat.le_of_ble_eq_true rfl) (by rfl)) rfl <| ?_
  refine WLs.callE Tryz.func24 rfl rfl rfl rfl (fun w hs => hc ▸ store_Check (c := c) hs) ?_
  refine WLs.val (y_not rfl) rfl <| ?_
  refine WLs.nil ?_
  refine WEs.then_n ?_
  refine WCs.cond_f rfl rfl ?_
  refine WCs.skip ?_
  refine WEs.then_n ?_
  refine WCs.seq ?_
  refine WCs.region ?_
  refine WLs.val (y_fld rfl fl24_0) rfl <| WLs.val (y_ld rfl sc3 (Sat.at 0 rfl) (show _ = some (natv 1) from congrArg (fun x => some (Value.int .i64 x)) hp)) rfl <| ?_
  refine WLs.val (y_fld rfl fl24_1) rfl <| WLs.val (y_ld rfl sc3 (Sat.at 0 rfl) (show _ = some (natv m) from congrArg (fun x => some (Value.int .i64 x)) hm)) rfl <| ?_
  refine WLs.val (y_fld rfl fl24_3) rfl <| WLs.val (y_ld rfl sc22 (Sat.at 0 rfl) (by rfl)) rfl <| ?_
  refine WLs.callX Tryz.func30 rfl rfl rfl rfl (fun w hs => policy_New1 (m := m) (seed := c.seed) hs h1 h2) (fun pp => ?_)
  refine WLs.val (y_move rfl) rfl <| WLs.val (y_ext rfl rfl) rfl <| WLs.val (y_ext rfl rfl) rfl <| WLs.val (y_asgn rfl) rfl <| WLs.val (y_asgn rfl) rfl <| ?_
  refine WLs.nil ?_
  refine WEs.then_n ?_
  refine WCs.seq ?_
  refine WCs.draw (K := [pt q (.cells (confC c) 24 (0, 0))]) (.one 0 0 (.one 2 3 (.one 6 3 (.two 1 (.one 3 1 (.one 4 3 (.one 5 1 (.one 7 3 (.one 8 3 .nil))))) 3 (.one 1 1 (.one 4 3 (.one 5 1 (.one 7 3 (.one 8 3 .nil))))))))) [] Tryz.mixed (by kernel_rfl) (by kernel_rfl) rfl (Pf.then Pf.body) (fun w h => h.sel [1] (by decide)) ?_
  refine WSs.val rfl (y_ldA rfl ag24 (Sat.at 0 rfl) (Nat.le_of_ble_eq_true rfl) (by rfl)) rfl ?_
  refine WSs.pure rfl (y_move rfl) rfl ?_
  refine WSs.pure rfl (y_move rfl) rfl ?_
  refine WSs.two ?_ ?_ 
  · refine WSs.callX rfl Tryz.func31 rfl rfl rfl rfl (fun w hs => table_New2 hs) (fun _ w h => h.sel [3] (by decide)) (fun ⟨bt, pt1⟩ => ?_)
    refine WSs.mkmap rfl rfl (fun w h => h.sel [3] (by decide)) (fun bs => ?_)
    refine WSs.pure rfl (y_build (is := [0, 1, 2, 3]) (xs := [.tmp 19, .tmp 20, .tmp 21, .tmp 22]) #[(0, .tmp 19), (1, .tmp 20), (2, .tmp 21), (3, .tmp 22)] rfl rfl pl94 zr94 rfl) rfl ?_
    refine WSs.box rfl rfl rfl (fun w h => h.sel [4] (by decide)) (fun ps => ?_)
    refine WSs.pure rfl (y_asgn rfl) rfl ?_
    refine WSs.pure rfl (y_asgn rfl) rfl ?_
    refine WSs.nil ?_
    refine WEs.then_n ?_
    refine WCs.ret ?_
    refine WEs.ret2 (.inr rfl) rfl rfl rfl ?_
    have e : Sto.new c m = ⟨c, [], .arc ⟨m, 0, List.replicate 4 []⟩, [], 0, 0, 0, 0, 0⟩ := by simp [Sto.new, hp]
    rw [e]
    exact fun w hs => ⟨bt, pt1, pp, bs, ps, rfl, (hs.selN 6 [2, 3, 4, 1, 0] (by decide)).implAt 3 rfl (mapAt_new sesEnc lastv bs)⟩
  · refine WSs.mkmap rfl rfl (fun w h => h.sel [1] (by decide)) (fun bs => ?_)
    refine WSs.callX rfl Tryz.func31 rfl rfl rfl rfl (fun w hs => table_New2 hs) (fun _ w h => h.sel [4] (by decide)) (fun ⟨bt, pt1⟩ => ?_)
    refine WSs.pure rfl (y_build (is := [0, 1, 2, 3]) (xs := [.tmp 19, .tmp 20, .tmp 21, .tmp 22]) #[(0, .tmp 19), (1, .tmp 20), (2, .tmp 21), (3, .tmp 22)] rfl rfl pl94 zr94 rfl) rfl ?_
    refine WSs.box rfl rfl rfl (fun w h => h.sel [4] (by decide)) (fun ps => ?_)
    refine WSs.pure rfl (y_asgn rfl) rfl ?_
    refine WSs.pure rfl (y_asgn rfl) rfl ?_
    refine WSs.nil ?_
    refine WEs.then_n ?_
    refine WCs.ret ?_
    refine WEs.ret2 (.inr rfl) rfl rfl rfl ?_
    have e : Sto.new c m = ⟨c, [], .arc ⟨m, 0, List.replicate 4 []⟩, [], 0, 0, 0, 0, 0⟩ := by simp [Sto.new, hp]
    rw [e]
    exact fun w hs => ⟨bt, pt1, pp, bs, ps, rfl, (hs.selN 6 [1, 2, 4, 3, 0] (by decide)).implAt 3 rfl (mapAt_new sesEnc lastv bs)⟩

theorem store_New2 {w : World} {L : List Asrt} {c : Conf} {m : Nat} (hs : Sat w L) (hc : c.ok = true) (hp : c.policy = 2) (hm : c.entries = m) (h1 : 1 ≤ m) (h2 : m ≤ 1000) :
    Does Tryz.prog 8 [confv c] w fun v w' => ∃ bt pt' pp bs ps, v = .tuple #[rp ps, .int .i64 0] ∧ Sat w' (stoL bt pt' pp bs ps (Sto.new c m) L) := by
  refine Does.enters hs (n := 26) Tryz.func8 rfl rfl rfl rfl ?_
  refine WCs.seq ?_
  refine WCs.region ?_
  refine WLs.box rfl rfl (fun q => ?_)
  refine WLs.val (y_asgn rfl) rfl <| WLs.val (y_asgn rfl) rfl <| ?_
  refine WLs.nil ?_
  refine WEs.then_n ?_
  refine WCs.seq ?_
  refine WCs.seq ?_
  refine WCs.region ?_
  refine WLs.val (y_ldA rfl ag24 (Sat.at 0 rfl) (Nat.le_of_ble_eq_true rfl) (by rfl)) rfl <| ?_
  refine WLs.callE Tryz.func24 rfl rfl rfl rfl (fun w hs => hc ▸ store_Check (c := c) hs) ?_
  refine WLs.val (y_not rfl) rfl <| ?_
  refine WLs.nil ?_
  refine WEs.then_n ?_
  refine WCs.cond_f rfl rfl ?_
  refine WCs.skip ?_
  refine WEs.then_n ?_
  refine WCs.seq ?_
  refine WCs.region ?_
  refine WLs.val (y_fld rfl fl24_0) rfl <| WLs.val (y_ld rfl sc3 (Sat.at 0 rfl) (show _ = some (natv 2) from congrArg (fun x => some (Value.int .i64 x)) hp)) rfl <| ?_
  refine WLs.val (y_fld rfl fl24_1) rfl <| WLs.val (y_ld rfl sc3 (Sat.at 0 rfl) (show _ = some (natv m) from congrArg (fun x => some (Value.int .i64 x)) hm)) rfl <| ?_
  refine WLs.val (y_fld rfl fl24_3) rfl <| WLs.val (y_ld rfl sc22 (Sat.at 0 rfl) (by rfl)) rfl <| ?_
  refine WLs.callX Tryz.func30 rfl rfl rfl rfl (fun w hs => policy_New2 (m := m) (seed := c.seed) hs h1 h2) (fun pp => ?_)
  refine WLs.val (y_move rfl) rfl <| WLs.val (y_ext rfl rfl) rfl <| WLs.val (y_ext rfl rfl) rfl <| WLs.val (y_asgn rfl) rfl <| WLs.val (y_asgn rfl) rfl <| ?_
  refine WLs.nil ?_
  refine WEs.then_n ?_
  refine WCs.seq ?_
  refine WCs.draw (K := [pt q (.cells (confC c) 24 (0, 0))]) (.one 0 0 (.one 2 3 (.one 6 3 (.two 1 (.one 3 1 (.one 4 3 (.one 5 1 (.one 7 3 (.one 8 3 .nil))))) 3 (.one 1 1 (.one 4 3 (.one 5 1 (.one 7 3 (.one 8 3 .nil))))))))) [] Tryz.mixed (by kernel_rfl) (by kernel_rfl) rfl (Pf.then Pf.body) (fun w h => h.sel [1] (by decide)) ?_
  refine WSs.val rfl (y_ldA rfl ag24 (Sat.at 0 rfl) (Nat.le_of_ble_eq_true rfl) (by rfl)) rfl ?_
  refine WSs.pure rfl (y_move rfl) rfl ?_
  refine WSs.pure rfl (y_move rfl) rfl ?_
  refine WSs.two ?_ ?_ 
  · refine WSs.callX rfl Tryz.func31 rfl rfl rfl rfl (fun w hs => table_New2 hs) (fun _ w h => h.sel [3] (by decide)) (fun ⟨bt, pt1⟩ => ?_)
    refine WSs.mkmap rfl rfl (fun w h => h.sel [3] (by decide)) (fun bs => ?_)
    refine WSs.pure rfl (y_build (is := [0, 1, 2, 3]) (xs := [.tmp 19, .tmp 20, .tmp 21, .tmp 22]) #[(0, .tmp 19), (1, .tmp 20), (2, .tmp 21), (3, .tmp 22)] rfl rfl pl94 zr94 rfl) rfl ?_
    refine WSs.box rfl rfl rfl (fun w h => h.sel [4] (by decide)) (fun ps => ?_)
    refine WSs.pure rfl (y_asgn rfl) rfl ?_
    refine WSs.pure rfl (y_asgn rfl) rfl ?_
    refine WSs.nil ?_
    refine WEs.then_n ?_
    refine WCs.ret ?_
    refine WEs.ret2 (.inr rfl) rfl rfl rfl ?_
    have e : Sto.new c m = ⟨c, [], .tiny (Tiny.new m c.seed), [], 0, 0, 0, 0, 0⟩ := by simp [Sto.new, hp]
    rw [e]
    exact fun w hs => ⟨bt, pt1, pp, bs, ps, rfl, (hs.selN 6 [2, 3, 4, 1, 0] (by decide)).implAt 3 rfl (mapAt_new sesEnc lastv bs)⟩
  · refine WSs.mkmap rfl rfl (fun w h => h.sel [1] (by decide)) (fun bs => ?_)
    refine WSs.callX rfl Tryz.func31 rfl rfl rfl rfl (fun w hs => table_New2 hs) (fun _ w h => h.sel [4] (by decide)) (fun ⟨bt, pt1⟩ => ?_)
    refine WSs.pure rfl (y_build (is := [0, 1, 2, 3]) (xs := [.tmp 19, .tmp 20, .tmp 21, .tmp 22]) #[(0, .tmp 19), (1, .tmp 20), (2, .tmp 21), (3, .tmp 22)] rfl rfl pl94 zr94 rfl) rfl ?_
    refine WSs.box rfl rfl rfl (fun w h => h.sel [4] (by decide)) (fun ps => ?_)
    refine WSs.pure rfl (y_asgn rfl) rfl ?_
    refine WSs.pure rfl (y_asgn rfl) rfl ?_
    refine WSs.nil ?_
    refine WEs.then_n ?_
    refine WCs.ret ?_
    refine WEs.ret2 (.inr rfl) rfl rfl rfl ?_
    have e : Sto.new c m = ⟨c, [], .tiny (Tiny.new m c.seed), [], 0, 0, 0, 0, 0⟩ := by simp [Sto.new, hp]
    rw [e]
    exact fun w hs => ⟨bt, pt1, pp, bs, ps, rfl, (hs.selN 6 [1, 2, 4, 3, 0] (by decide)).implAt 3 rfl (mapAt_new sesEnc lastv bs)⟩
end Go.Proofs.YteoplijfofohkaaGreat
