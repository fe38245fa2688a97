/- Results of which the first is in a cell; a map written in a region that draws its order; calls of function values. -/
import Derived.Test.YteoplijfofohkaaGreatOp3
import Derived.Laws.StructEq
namespace Go.Sx
open Go
variable [Env]
section
variable {P : Program} {n : Nat} {rs : RS} {L K : List Asrt} {v : Value} {t : TypeId} {d i : Nat} {pos : String} {af : Array Edge} {ops : Array Oper} {Q : Exit → Act → World → Prop} {l : List Oper}
theorem WEs.retCT {fn : Func} {R : Value → World → Prop} {e : Exit} {r s b m T E : Nat} {c vs : Array Value} {fr : Nat × Nat} (he : e = .normal ∨ e = .ret) (hr : fn.results = #[.cell r T, .tmp s]) (hv : rs.get r = some (.pointer (some ⟨b, 0, none⟩))) (hu : rs.get s = some v) (ht : tAgg P T m = true)
    (i : Nat) (hi : L[i]? = some (pt b (.cells c E fr))) (hm : m ≤ c.size) (hc : c.extract 0 m = vs) (h : ∀ w, Sat w L → R (.tuple #[.agg vs, v]) w) : WEs (bodyPost P fn (Ret R)) e n rs L := fun w hs a ha => by
  have hg := ha.2.2 r _ hv
  have hg2 := ha.2.2 s _ hu
  have : (results fn a.tmps).run P w = .ok (.tuple #[.agg vs, v]) w := by
    have hl := run_loadA (P := P) (w := w) (o := 0) ht (hs.get i hi) (by omega)
    simp only [Nat.zero_add, hc] at hl
    have h1 : (do loadVar T (← asAddr (a.tmps.getD r undef)) : Sem Value).run P w = .ok (.agg vs) w := by
      rw [Array.getD_eq_getD_getElem?, hg]
      rw [run_bindOk (a := ⟨b, 0, none⟩) (w' := w) (by simp [asAddr, run_pure])]
      exact hl
    have h2 : a.tmps.getD s undef = v := by rw [Array.getD_eq_getD_getElem?, hg2]; rfl
    rw [results, hr]
    simp only [List.mapM_toArray, List.mapM_cons, List.mapM_nil, h2]
    generalize (do loadVar T (← asAddr (a.tmps.getD r undef)) : Sem Value) = s at h1 ⊢
    simp [go_sem, h1]
  rcases he with rfl | rfl <;> exact ⟨ha.2.1, _, this, h w hs⟩
omit [Env] in
/-- a call of a function value -/
theorem enter_runV {f : FuncId} {o : Operand} {args : List Operand} {vs ca : List Value} {tys : Array TypeId} {fn : Func} {c : Code} {w : World} (hv : ev rs o = some (.func (.func f) #[] ca.toArray)) (hf : P.funcs[f]? = some fn) (hb : fn.body = some c) (hne : (fn.name == "runtime.NumGoroutine") = false)
    (hx : evs rs args = some vs) : Av P n rs (.call ⟨.value o, args.toArray, tys⟩) t w (.enter f (vs ++ ca).toArray) w := fun a ha d pos af g => by
  have h1 : args.toArray.map a.eval = vs.toArray := Array.ext' (by simpa using evs_sound ha hx)
  have h2 := ev_sound ha hv
  simp only [execOp, resolve, h1, h2]
  have : (Deferred.ofValue (.func (.func f) #[] ca.toArray) vs.toArray).run P w = .ok ⟨.fn (.func f) ca.toArray, vs.toArray⟩ w := by
    simp [Deferred.ofValue, run_pure]
  have he : (callFunc f (vs ++ ca).toArray).run P w = .ok (.enter f (vs ++ ca).toArray) w := by
    rw [callFunc, run_bindOk (a := P) (w' := w) rfl]
    simp only [hf, hne, hb, Option.isNone_some, Bool.false_eq_true, if_false]
    rfl
  refine (run_bindOk this).trans ?_
  simpa [invoke] using he
theorem WLs.callVE {f : FuncId} {o : Operand} {args : List Operand} {vs ca : List Value} {tys : Array TypeId} {fn : Func} {c : Code} {r : Value} {L' : List Asrt} (hv : ev rs o = some (.func (.func f) #[] ca.toArray)) (hf : P.funcs[f]? = some fn) (hb : fn.body = some c) (hne : (fn.name == "runtime.NumGoroutine") = false)
    (hx : evs rs args = some vs) (hd : Nat.blt d n = true) (hc : ∀ w, Sat w L → Does P f (vs ++ ca) w (fun v w' => v = r ∧ Sat w' L')) (h : WLs P ops Q n l ((d, r) :: rs) L') :
    WLs P ops Q n (⟨some d, .call ⟨.value o, args.toArray, tys⟩, t, pos, af, none⟩ :: l) rs L := fun w hs =>
  WL.step fun a ha => by
    unfold Oper.wp
    rw [enter_runV hv hf hb hne hx a ha]
    refine Calls.mono (hc w hs) fun e w' he => ?_
    cases e with
    | returned v => obtain ⟨rfl, h1⟩ := he; exact h _ h1 _ (ha.put (blt_lt hd) _)
    | panicked c => exact he.elim
    | outgrown => exact he.elim
end
section
variable {P : Program} {n : Nat} {rs : RS} {L K : List Asrt} {t : TypeId} {i : Nat} {pos : String} {af : Array Edge} {ops : Array Oper} {Q : Exit → Act → World → Prop} {r : Tr}
variable {KT : TypeId} {κ ν : Type} [DecidableEq κ] {enc : κ → Value} {en : ν → Value} {m : List (κ × ν)}
/-- a map is written, behind all else -/
theorem WSs.mapput {x y z : Operand} {T E b : Nat} {k : κ} {v : ν} (j : Nat) (ho : ops[i]? = some ⟨none, .mapUpdate T x y z, t, pos, af, none⟩) (hx : ev rs x = some (.map (some b))) (hy : ev rs y = some (enc k)) (hz : ev rs z = some (en v))
    (hk : KeyEnc P KT κ enc) (ht : tMap P T KT E = true) (hi : L[j]? = some (mapAt enc en b m))
    (h : WSs P ops Q n r (L.set j (mapAt enc en b (mput m k v))) rs (L.set j (mapAt enc en b (mput m k v)))) : WSs P ops Q n (.one i 2 r) K rs L := fun w hs a ha => by
  obtain ⟨es, c, h1, h2⟩ := hs.map j hi
  obtain ⟨es', c', h3, h4⟩ := run_mapUpdate hk ht h1 h2 k v
  have hy : Av P n rs (.mapUpdate T x y z) t w .skip (wupd w b (.map es' c')) := fun a ha d pos af g => by
    simp only [execOp, ev_sound ha hx, ev_sound ha hy, ev_sound ha hz]
    rw [run_bindOk h3]; rfl
  exact wpOp_av ha ho hy ⟨_, hs.mapTurn j hi h4, h _ (hs.mapTurn j hi h4) a ha⟩
end
section
variable {P : Program} {n : Nat} {rs : RS} {L : List Asrt} {t : TypeId} {pos : String} {af : Array Edge} {ops : Array Oper} {Q : Exit → Act → World → Prop} {l : List Oper}
/-- clear of a slice of one-cell elements -/
theorem WLs.clear0 {x : Operand} {T E E' b o k cap : Nat} {z : Value} {u : Value} {c : Array Value} (i : Nat) (hx : ev rs x = some (.slice (some ⟨b, o, none⟩) k cap)) (ht : tSlice P T E 1 = true) (hz : tZero P E z) (hz1 : z.cells = #[u])
    (hu : oneCell u = true) (hi : L[i]? = some (pt b (.cells c E' (0, 0)))) (ho : o + k ≤ c.size) (h : WLs P ops Q n l rs (L.set i (pt b (.cells (blit c o (List.replicate k u)) E' (0, 0))))) :
    WLs P ops Q n (⟨none, .call ⟨.builtin .clear, #[x], #[T]⟩, t, pos, af, none⟩ :: l) rs L := fun w hs => by
  have hu2 := und_of ht
  have hb := hs.get i hi
  refine WL.act0v (v := .tuple #[]) (w' := wupd w b (.cells (blit c o (List.replicate k u)) E' (0, 0))) (fun a ha d pos af g => ?_) (h _ (hs.updAt i hi))
  refine run_bi (l := [x]) (vs := [.slice (some ⟨b, o, none⟩) k cap]) ha (by simp [evs, hx]) (fun cs => run_value ?_) d pos af g
  cases k with
  | zero =>
    have : wupd w b (.cells (blit c o (List.replicate 0 u)) E' (0, 0)) = w := upd_same w hb
    rw [this]
    simp [Builtin.clear_, go_sem, run_underlying hu2]
  | succ k =>
    have hc : (Builtin.zeroCells z.cells (k + 1)).toList = List.replicate (k + 1) u := by
      rw [hz1]
      have := zero_row #[u] (by simp) (k + 1)
      unfold Builtin.zeroCells
      rw [this]
      simp
    have hst := run_storeCells (P := P) (o := o) (List.replicate (k + 1) u) 0 c w hb (by simp; omega) (by simp [hu])
    simp only [Nat.add_zero] at hst
    rw [← hc] at hst ⊢
    simp only [Value.cells] at hst
    simp [Builtin.clear_, go_sem, run_underlying hu2, run_zero hz, hst]
end
section
variable {P : Program} {n : Nat} {rs : RS} {L K : List Asrt} {t : TypeId} {d i : Nat} {pos : String} {af : Array Edge} {ops : Array Oper} {Q : Exit → Act → World → Prop} {l : List Oper} {o : Op} {r : Tr}
/-- a comparison, both ways -/
theorem WLs.cmp {p : Prop} [Decidable p] (hy : ∀ b, decide p = b → Yv P (Sat · L) n rs o t (.bool b)) (hd : Nat.blt d n = true) (ht : p → WLs P ops Q n l ((d, .bool true) :: rs) L) (hf : ¬ p → WLs P ops Q n l ((d, .bool false) :: rs) L) :
    WLs P ops Q n (⟨some d, o, t, pos, af, none⟩ :: l) rs L := by
  by_cases h : p
  · exact WLs.val (hy true (decide_eq_true h)) hd (ht h)
  · exact WLs.val (hy false (decide_eq_false h)) hd (hf h)
omit [Env] in
theorem y_aeq {S : World → Prop} {T T' : TypeId} {x y : Operand} {xs ys : Array Value} {b : Bool} (hx : ev rs x = some (.agg xs)) (hy : ev rs y = some (.agg ys)) (hm : P.eqGuardType P.depth T = false) (hr : ∀ w, (Op.equalIn 10000 T (.agg xs) (.agg ys)).run P w = .ok b w) :
    Yv P S n rs (.binOp .eql T x y T') t (.bool b) := fun a ha w _ d pos af g => by
  simp only [execOp, ev_sound ha hx, ev_sound ha hy]
  refine run_value ?_
  rw [run_bindOk (run_eqGuard_agg w .eql T _ _ xs ys hm), run_eql_struct, hr w]
  rfl
end
section
variable {P : Program} {n : Nat} {rs : RS} {L K : List Asrt} {t : TypeId} {d i : Nat} {pos : String} {af : Array Edge} {ops : Array Oper} {Q : Exit → Act → World → Prop} {r : Tr}
theorem WSs.alloc {T : TypeId} {z : Value} (ho : ops[i]? = some ⟨some d, .alloc T, t, pos, af, none⟩) (hz : tZero P T z) (hd : Nat.blt d n = true) (hk : ∀ b w, Sat w (pt b (.cells z.cells T (0, 0)) :: L) → Sat w K)
    (h : ∀ b, WSs P ops Q n r K ((d, .pointer (some ⟨b, 0, none⟩)) :: rs) (pt b (.cells z.cells T (0, 0)) :: L)) : WSs P ops Q n (.one i 1 r) K rs L := fun w hs a ha =>
  wpOp_av ha ho (a_alloc hz) ⟨hk _ _ (hs.alloc _), h _ _ (hs.alloc _) _ (ha.put (blt_lt hd) _)⟩
end
section
variable {P : Program} {n : Nat} {rs : RS} {L K : List Asrt} {t : TypeId} {d i : Nat} {pos : String} {af : Array Edge} {ops : Array Oper} {Q : Exit → Act → World → Prop} {tr : Tr}
theorem WSs.callX {σ : Type} {r : σ → Value} {L' : σ → List Asrt} {f : FuncId} {args : List Operand} {vs : List Value} {tys : Array TypeId} {fn : Func} {c : Code} (ho : ops[i]? = some ⟨some d, .call ⟨.value (.func f), args.toArray, tys⟩, t, pos, af, none⟩)
    (hf : P.funcs[f]? = some fn) (hb : fn.body = some c) (hne : (fn.name == "runtime.NumGoroutine") = false)
    (hx : evs rs args = some vs) (hd : Nat.blt d n = true) (hc : ∀ w, Sat w L → Does P f vs w (fun v w' => ∃ x, v = r x ∧ Sat w' (L' x))) (hk : ∀ x w, Sat w (L' x) → Sat w K) (h : ∀ x, WSs P ops Q n tr K ((d, r x) :: rs) (L' x)) :
    WSs P ops Q n (.one i 1 tr) K rs L :=
  WSs.call ho hf hb hne hx hd hc fun _ w ⟨x, hv, hs⟩ => by subst hv; exact ⟨hk x w hs, WSs.go hs (h x)⟩
end
end Go.Sx
