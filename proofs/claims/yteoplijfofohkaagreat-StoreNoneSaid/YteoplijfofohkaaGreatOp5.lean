/- Three results, the second in a cell; '==' of bools and of pointers. -/
import Derived.Test.YteoplijfofohkaaGreatOp4
namespace Go.Sx
open Go
variable [Env]
section
variable {P : Program} {n : Nat} {rs : RS} {L K : List Asrt} {v u : Value} {t : TypeId} {S : World → Prop}
theorem WEs.ret3 {fn : Func} {R : Value → World → Prop} {e : Exit} {q r s b m T E : Nat} {c vs : Array Value} {fr : Nat × Nat} (he : e = .normal ∨ e = .ret) (hr : fn.results = #[.tmp q, .cell r T, .tmp s]) (hq : rs.get q = some u) (hv : rs.get r = some (.pointer (some ⟨b, 0, none⟩))) (hu : rs.get s = some v) (ht : tAgg P T m = true)
    (i : Nat) (hi : L[i]? = some (pt b (.cells c E fr))) (hm : m ≤ c.size) (hc : c.extract 0 m = vs) (h : ∀ w, Sat w L → R (.tuple #[u, .agg vs, v]) w) : WEs (bodyPost P fn (Ret R)) e n rs L := fun w hs a ha => by
  have hg := ha.2.2 r _ hv
  have hg2 := ha.2.2 s _ hu
  have hg3 := ha.2.2 q _ hq
  have : (results fn a.tmps).run P w = .ok (.tuple #[u, .agg vs, v]) w := by
    have hl := run_loadA (P := P) (w := w) (o := 0) ht (hs.get i hi) (by omega)
    simp only [Nat.zero_add, hc] at hl
    have h1 : (do loadVar T (← asAddr (a.tmps.getD r undef)) : Sem Value).run P w = .ok (.agg vs) w := by
      rw [Array.getD_eq_getD_getElem?, hg]
      rw [run_bindOk (a := ⟨b, 0, none⟩) (w' := w) (by simp [asAddr, run_pure])]
      exact hl
    have h2 : a.tmps.getD s undef = v := by rw [Array.getD_eq_getD_getElem?, hg2]; rfl
    have h3 : a.tmps.getD q undef = u := by rw [Array.getD_eq_getD_getElem?, hg3]; rfl
    rw [results, hr]
    simp only [List.mapM_toArray, List.mapM_cons, List.mapM_nil, h2, h3]
    generalize (do loadVar T (← asAddr (a.tmps.getD r undef)) : Sem Value) = s at h1 ⊢
    simp [go_sem, h1]
  rcases he with rfl | rfl <;> exact ⟨ha.2.1, _, this, h w hs⟩
omit [Env] in
theorem y_beq {T T' : TypeId} {x y : Operand} {i j : Bool} (hx : ev rs x = some (.bool i)) (hy : ev rs y = some (.bool j)) (ht : P.underlying T = some .bool) {b : Bool} (hb : (i == j) = b) : Yv P S n rs (.binOp .eql T x y T') t (.bool b) := fun a ha w _ d pos af g => by
  subst hb
  simp only [execOp, ev_sound ha hx, ev_sound ha hy]
  refine run_value ?_
  have : (eqGuard .eql T x y (.bool i) (.bool j)).run P w = .ok () w := by unfold eqGuard; split <;> simp [run_pure]
  rw [run_bindOk this]
  have he : (Op.equal T (.bool i) (.bool j)).run P w = .ok (i == j) w := run_equalIn_bool' w 9999 T i j ht
  simp [binOp, he, run_pure, Result.andThen]
end
/-- what '&' comes to, left as it is -/
def andI (k : IntKind) (i j : Int) : Int := k.wrap ((BitVec.ofInt k.bits i &&& BitVec.ofInt k.bits j).toNat)
omit [Env] in
theorem run_and {P : Program} {k : IntKind} {i j : Int} (w : World) : (Op.intBits .and k i j).run P w = .ok (.int k (andI k i j)) w := by
  rfl
end Go.Sx
