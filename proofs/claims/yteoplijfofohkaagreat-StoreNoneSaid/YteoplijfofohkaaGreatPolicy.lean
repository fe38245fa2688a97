/- The contracts of package policy. -/
import Derived.Test.YteoplijfofohkaaGreatSketch
namespace Go.Proofs.YteoplijfofohkaaGreat
open Go Go.Sx Go.Hw
theorem fl135_1 : tFld Tryz.prog 135 1 1 = true := by kernel_rfl
theorem fl135_2 : tFld Tryz.prog 135 2 2 = true := by kernel_rfl
theorem sz132 : tSize Tryz.prog 132 1 = true := by kernel_rfl
theorem sz133 : tSize Tryz.prog 133 1 = true := by kernel_rfl
theorem zr135 : tZero Tryz.prog 135 (.agg #[(.int .i64 0), (.pointer none), (.pointer none)]) := tZero_of (by kernel_rfl)
theorem pl135 : tPlaces Tryz.prog 135 #[(0, 1), (1, 1), (2, 1)] := tPlaces_of (by kernel_rfl)
variable [Env]
inductive _root_.Go.Hw.Pol where
  | arc (a : Arc)
  | tiny (a : Tiny)
def polAt (p : Nat) : Pol → Asrt
  | .arc a => fun h => ∃ q, sepL [arcAt q a, pt p (.cells #[natv 1, rp q, .pointer none] 135 (0, 0))] h
  | .tiny a => fun h => ∃ q, sepL [tinyAt q a, pt p (.cells #[natv 2, .pointer none, rp q] 135 (0, 0))] h
theorem polArc_open {w : World} {p : Nat} {a : Arc} {L : List Asrt} (hs : Sat w (polAt p (.arc a) :: L)) : ∃ q r, Sat w (arcL r q a (pt p (.cells #[natv 1, rp q, .pointer none] 135 (0, 0)) :: L)) := by
  obtain ⟨q, hs⟩ := Sat.exists (A := fun q => sepL [arcAt q a, pt p (.cells #[natv 1, rp q, .pointer none] 135 (0, 0))]) hs
  obtain ⟨r, hs⟩ := arcAt_open hs.split
  exact ⟨q, r, hs⟩
theorem polArc_shut {w : World} {p q r : Nat} {a : Arc} {L : List Asrt} (hs : Sat w (arcL r q a (pt p (.cells #[natv 1, rp q, .pointer none] 135 (0, 0)) :: L))) : Sat w (polAt p (.arc a) :: L) :=
  (Sat.join (K := [arcAt q a, pt p (.cells #[natv 1, rp q, .pointer none] 135 (0, 0))]) (arcAt_shut hs)).impl fun _ hg => ⟨q, hg⟩
theorem polArc_shut' {w : World} {p q : Nat} {a : Arc} {L : List Asrt} (hs : Sat w (arcAt q a :: pt p (.cells #[natv 1, rp q, .pointer none] 135 (0, 0)) :: L)) : Sat w (polAt p (.arc a) :: L) :=
  (Sat.join (K := [arcAt q a, pt p (.cells #[natv 1, rp q, .pointer none] 135 (0, 0))]) hs).impl fun _ hg => ⟨q, hg⟩
theorem polTiny_shut' {w : World} {p q : Nat} {a : Tiny} {L : List Asrt} (hs : Sat w (tinyAt q a :: pt p (.cells #[natv 2, .pointer none, rp q] 135 (0, 0)) :: L)) : Sat w (polAt p (.tiny a) :: L) :=
  (Sat.join (K := [tinyAt q a, pt p (.cells #[natv 2, .pointer none, rp q] 135 (0, 0))]) hs).impl fun _ hg => ⟨q, hg⟩
def _root_.Go.Hw.Pol.new (kind most seed : Nat) : Pol := if kind = 1 then .arc ⟨most, 0, List.replicate 4 []⟩ else .tiny (Tiny.new most seed)

theorem policy_New1 {w : World} {L : List Asrt} {m seed : Nat} (hs : Sat w L) (h1 : 1 ≤ m) (h2 : m ≤ 1000) : Does Tryz.prog 30 [natv 1, natv m, u64v seed] w fun v w' => ∃ p, v = .tuple #[rp p, .int .i64 0] ∧ Sat w' (polAt p (.arc ⟨m, 0, List.replicate 4 []⟩) :: L) := by
  refine Does.enters hs (n := 39) Tryz.func30 rfl rfl rfl rfl ?_
  refine WCs.seq ?_
  refine WCs.region ?_
  refine WLs.val (y_asgn rfl) rfl <| WLs.val (y_asgn rfl) rfl <| ?_
  refine WLs.nil ?_
  refine WEs.then_n ?_
  refine WCs.seq ?_
  refine WCs.region ?_
  refine WLs.val (y_move rfl) rfl <| WLs.val (y_build (is := [0]) (xs := [.tmp 10]) #[(0, .tmp 10)] rfl rfl pl135 zr135 rfl) rfl <| ?_
  refine WLs.box rfl rfl (fun p => ?_)
  refine WLs.val (y_asgn rfl) rfl <| WLs.val (y_asgn rfl) rfl <| ?_
  refine WLs.nil ?_
  refine WEs.then_n ?_
  refine WCs.seq ?_
  refine WCs.seq ?_
  refine WCs.region ?_
  refine WLs.val (y_move rfl) rfl <| ?_
  refine WLs.nil ?_
  refine WEs.then_n ?_
  refine WCs.block ?_
  refine WCs.seq ?_
  refine WCs.region ?_
  refine WLs.val (y_eq rfl rfl rfl) rfl <| ?_
  refine WLs.val (y_asgn rfl) rfl <| ?_
  refine WLs.nil ?_
  refine WEs.then_n ?_
  refine WCs.cond_t rfl rfl ?_
  refine WCs.region ?_
  refine WLs.val (y_move rfl) rfl <| WLs.val (y_move rfl) rfl <| ?_
  refine WLs.callX Tryz.func60 rfl rfl rfl rfl (fun w hs => arc_New hs h1 h2) (fun q => ?_)
  refine WLs.val (y_move rfl) rfl <| WLs.val (y_ext rfl rfl) rfl <| WLs.val (y_ext rfl rfl) rfl <| WLs.val (y_nil rfl) rfl <| WLs.val (y_fld rfl fl135_1) rfl <| ?_
  refine WLs.store 1 rfl rfl sz132 rfl (show 1 < 3 by decide) rfl rfl ?_
  refine WLs.val (y_asgn rfl) rfl <| ?_
  refine WLs.nil ?_
  refine WEs.in_n ?_
  refine WEs.then_n ?_
  refine WCs.seq ?_
  refine WCs.seq ?_
  refine WCs.region ?_
  refine WLs.val (y_move rfl) rfl <| WLs.val (y_ne rfl rfl rfl) rfl <| ?_
  refine WLs.nil ?_
  refine WEs.then_n ?_
  refine WCs.cond_f rfl rfl ?_
  refine WCs.skip ?_
  refine WEs.then_n ?_
  refine WCs.seq ?_
  refine WCs.region ?_
  refine WLs.val (y_move rfl) rfl <| WLs.val (y_asgn rfl) rfl <| WLs.val (y_asgn rfl) rfl <| ?_
  refine WLs.nil ?_
  refine WEs.then_n ?_
  refine WCs.ret ?_
  refine WEs.ret2 (.inr rfl) rfl rfl rfl ?_
  exact fun w hs => ⟨p, rfl, polArc_shut' hs⟩

theorem policy_New2 {w : World} {L : List Asrt} {m seed : Nat} (hs : Sat w L) (h1 : 1 ≤ m) (h2 : m ≤ 1000) : Does Tryz.prog 30 [natv 2, natv m, u64v seed] w fun v w' => ∃ p, v = .tuple #[rp p, .int .i64 0] ∧ Sat w' (polAt p (.tiny (Tiny.new m seed)) :: L) := by
  refine Does.enters hs (n := 39) Tryz.func30 rfl rfl rfl rfl ?_
  refine WCs.seq ?_
  refine WCs.region ?_
  refine WLs.val (y_asgn rfl) rfl <| WLs.val (y_asgn rfl) rfl <| ?_
  refine WLs.nil ?_
  refine WEs.then_n ?_
  refine WCs.seq ?_
  refine WCs.region ?_
  refine WLs.val (y_move rfl) rfl <| WLs.val (y_build (is := [0]) (xs := [.tmp 10]) #[(0, .tmp 10)] rfl rfl pl135 zr135 rfl) rfl <| ?_
  refine WLs.box rfl rfl (fun p => ?_)
  refine WLs.val (y_asgn rfl) rfl <| WLs.val (y_asgn rfl) rfl <| ?_
  refine WLs.nil ?_
  refine WEs.then_n ?_
  refine WCs.seq ?_
  refine WCs.seq ?_
  refine WCs.region ?_
  refine WLs.val (y_move rfl) rfl <| ?_
  refine WLs.nil ?_
  refine WEs.then_n ?_
  refine WCs.block ?_
  refine WCs.seq ?_
  refine WCs.region ?_
  refine WLs.val (y_eq rfl rfl rfl) rfl <| ?_
  refine WLs.val (y_asgn rfl) rfl <| ?_
  refine WLs.nil ?_
  refine WEs.then_n ?_
  refine WCs.cond_f rfl rfl ?_
  refine WCs.seq ?_
  refine WCs.region ?_
  refine WLs.val (y_eq rfl rfl rfl) rfl <| ?_
  refine WLs.val (y_asgn rfl) rfl <| ?_
  refine WLs.nil ?_
  refine WEs.then_n ?_
  refine WCs.cond_t rfl rfl ?_
  refine WCs.region ?_
  refine WLs.val (y_move rfl) rfl <| WLs.val (y_move rfl) rfl <| WLs.val (y_move rfl) rfl <| ?_
  refine WLs.callX Tryz.func61 rfl rfl rfl rfl (fun w hs => tiny_New hs h1 h2) (fun q => ?_)
  refine WLs.val (y_move rfl) rfl <| WLs.val (y_ext rfl rfl) rfl <| WLs.val (y_ext rfl rfl) rfl <| WLs.val (y_nil rfl) rfl <| WLs.val (y_fld rfl fl135_2) rfl <| ?_
  refine WLs.store 1 rfl rfl sz133 rfl (show 2 < 3 by decide) rfl rfl ?_
  refine WLs.val (y_asgn rfl) rfl <| ?_
  refine WLs.nil ?_
  refine WEs.in_n ?_
  refine WEs.then_n ?_
  refine WCs.seq ?_
  refine WCs.seq ?_
  refine WCs.region ?_
  refine WLs.val (y_move rfl) rfl <| WLs.val (y_ne rfl rfl rfl) rfl <| ?_
  refine WLs.nil ?_
  refine WEs.then_n ?_
  refine WCs.cond_f rfl rfl ?_
  refine WCs.skip ?_
  refine WEs.then_n ?_
  refine WCs.seq ?_
  refine WCs.region ?_
  refine WLs.val (y_move rfl) rfl <| WLs.val (y_asgn rfl) rfl <| WLs.val (y_asgn rfl) rfl <| ?_
  refine WLs.nil ?_
  refine WEs.then_n ?_
  refine WCs.ret ?_
  refine WEs.ret2 (.inr rfl) rfl rfl rfl ?_
  exact fun w hs => ⟨p, rfl, polTiny_shut' hs⟩
end Go.Proofs.YteoplijfofohkaaGreat
