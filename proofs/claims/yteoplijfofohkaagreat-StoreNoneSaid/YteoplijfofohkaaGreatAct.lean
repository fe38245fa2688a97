/- Operations that write or make memory; regions that draw their order, in one canonical order. -/
import Derived.Test.YteoplijfofohkaaGreatOps
namespace Go.Sx
open Go

/-- From every frame that holds 'rs' the operation, in world w, comes to r and w'. -/
def Av (P : Program) (n : Nat) (rs : RS) (o : Op) (t : TypeId) (w : World) (r : Next) (w' : World) : Prop :=
  ∀ a, Has a n rs → ∀ d pos af g, (execOp a.eval ⟨d, o, t, pos, af, g⟩).run P w = .ok r w'

section
variable {P : Program} {ops : Array Oper} {Q : Exit → Act → World → Prop} {n : Nat} {rs : RS} {w w' : World} {l : List Oper} {t : TypeId}

theorem WL.act {o : Op} {d : Nat} {pos : String} {af : Array Edge} {v : Value}
    (hy : Av P n rs o t w (.value v) w') (hd : d < n) (h : WL P ops Q n l ((d, v) :: rs) w') : WL P ops Q n (⟨some d, o, t, pos, af, none⟩ :: l) rs w :=
  WL.step fun a ha => by
    unfold Oper.wp
    rw [hy a ha]
    exact h _ (ha.put hd v)
theorem WL.act0 {o : Op} {pos : String} {af : Array Edge}
    (hy : Av P n rs o t w .skip w') (h : WL P ops Q n l rs w') : WL P ops Q n (⟨none, o, t, pos, af, none⟩ :: l) rs w :=
  WL.step fun a ha => by
    unfold Oper.wp
    rw [hy a ha]
    exact h _ ha
theorem WL.act0v {o : Op} {pos : String} {af : Array Edge} {v : Value}
    (hy : Av P n rs o t w (.value v) w') (h : WL P ops Q n l rs w') : WL P ops Q n (⟨none, o, t, pos, af, none⟩ :: l) rs w :=
  WL.step fun a ha => by
    unfold Oper.wp
    rw [hy a ha]
    exact h _ ha

/-- A call of a Go function by its contract. -/
theorem enter_run {f : FuncId} {args : List Operand} {vs : List Value} {tys : Array TypeId} {fn : Func} {c : Code} (hf : P.funcs[f]? = some fn) (hb : fn.body = some c) (hne : (fn.name == "runtime.NumGoroutine") = false)
    (hx : evs rs args = some vs) : Av P n rs (.call ⟨.value (.func f), args.toArray, tys⟩) t w (.enter f vs.toArray) w := fun a ha d pos af g => by
  have h1 : args.toArray.map a.eval = vs.toArray := Array.ext' (by simpa using evs_sound ha hx)
  simp only [execOp, resolve, Act.eval, h1]
  have : (Deferred.ofValue (.func (.func f) #[] #[]) vs.toArray).run P w = .ok ⟨.fn (.func f) #[], vs.toArray⟩ w := by
    simp [Deferred.ofValue, run_pure]
  have he : (callFunc f vs.toArray).run P w = .ok (.enter f vs.toArray) w := by
    rw [callFunc, run_bindOk (a := P) (w' := w) rfl]
    simp only [hf, hne, hb, Option.isNone_some, Bool.false_eq_true, if_false]
    rfl
  refine (run_bindOk this).trans ?_
  simpa [invoke] using he
theorem WL.call {f : FuncId} {args : List Operand} {vs : List Value} {tys : Array TypeId} {fn : Func} {c : Code} {d : Nat} {pos : String} {af : Array Edge} {R : Value → World → Prop}
    (hf : P.funcs[f]? = some fn) (hb : fn.body = some c) (hne : (fn.name == "runtime.NumGoroutine") = false)
    (hx : evs rs args = some vs) (hd : d < n) (hc : Does P f vs w R) (h : ∀ v w', R v w' → WL P ops Q n l ((d, v) :: rs) w') :
    WL P ops Q n (⟨some d, .call ⟨.value (.func f), args.toArray, tys⟩, t, pos, af, none⟩ :: l) rs w :=
  WL.step fun a ha => by
    unfold Oper.wp
    rw [enter_run hf hb hne hx a ha]
    refine Calls.mono hc fun e w' he => ?_
    cases e with
    | returned v => exact h v w' he _ (ha.put hd v)
    | panicked c => exact he.elim
    | outgrown => exact he.elim

theorem a_store {x y : Operand} {T b o : Nat} {c : Array Value} {E : TypeId} {v : Value} (hx : ev rs x = some (.pointer (some ⟨b, o, none⟩))) (hy : ev rs y = some v) (ht : tSize P T 1 = true)
    (hb : w.heap[b]? = some (.cells c E (0, 0))) (ho : o < c.size) (hv : oneCell v = true) : Av P n rs (.store T x y) t w .skip (wupd w b (.cells (c.setIfInBounds o v) E (0, 0))) := fun a ha d pos af g => by
  simp only [execOp, ev_sound ha hx, ev_sound ha hy]
  have : (Instr.storeAt T (.pointer (some ⟨b, o, none⟩)) v).run P w = .ok () (wupd w b (.cells (c.setIfInBounds o v) E (0, 0))) := by
    rw [Instr.storeAt, Instr.sureAddr, run_bindOk (run_pure _)]; exact run_store1 ht hb ho hv
  rw [run_bindOk this]; rfl
theorem a_storeA {x y : Operand} {T b o m : Nat} {c vs : Array Value} {E : TypeId} (hx : ev rs x = some (.pointer (some ⟨b, o, none⟩))) (hy : ev rs y = some (.agg vs)) (ht : tSize P T m = true)
    (hb : w.heap[b]? = some (.cells c E (0, 0))) (hm : vs.size = m) (ho : o + m ≤ c.size) (hv : vs.toList.all oneCell = true) : Av P n rs (.store T x y) t w .skip (wupd w b (.cells (blit c o vs.toList) E (0, 0))) := fun a ha d pos af g => by
  simp only [execOp, ev_sound ha hx, ev_sound ha hy]
  have : (Instr.storeAt T (.pointer (some ⟨b, o, none⟩)) (.agg vs)).run P w = .ok () (wupd w b (.cells (blit c o vs.toList) E (0, 0))) := by
    rw [Instr.storeAt, Instr.sureAddr, run_bindOk (run_pure _)]; exact run_storeA ht hb hm ho hv
  rw [run_bindOk this]; rfl
def tZero (P : Program) (T : TypeId) (z : Value) : Prop := ∃ i, P.info? T = some i ∧ i.zero = some z
theorem tZero_of {P : Program} {T : TypeId} {z : Value} (h : (P.info? T).bind (·.zero) = some z) : tZero P T z := by
  cases hi : P.info? T with
  | none => simp [hi] at h
  | some i => rw [hi] at h; exact ⟨i, hi, h⟩
theorem run_zero {T : TypeId} {z : Value} (h : tZero P T z) : (zeroValue T).run P w = .ok z w := by
  obtain ⟨i, h1, h2⟩ := h
  rw [zeroValue, run_bindOk (run_info h1), h2]; rfl
theorem a_alloc {T : TypeId} {z : Value} (h : tZero P T z) : Av P n rs (.alloc T) t w (.value (.pointer (some ⟨w.heap.size, 0, none⟩))) (wnew w (.cells z.cells T)) := fun a ha d pos af g => by
  simp only [execOp]
  refine run_value ?_
  rw [Instr.alloc, run_bindOk (run_zero h)]
  rfl
theorem a_box {T : TypeId} {x : Operand} {v : Value} (hx : ev rs x = some v) : Av P n rs (.box T x) t w (.value (.pointer (some ⟨w.heap.size, 0, none⟩))) (wnew w (.cells v.cells T)) := fun a ha d pos af g => by
  simp only [execOp, ev_sound ha hx]
  refine run_value ?_
  rfl
theorem a_mkmap {T : TypeId} : Av P n rs (.makeMap T none) t w (.value (.map (some w.heap.size))) (wnew w (.map #[] 0)) := fun a ha d pos af g => by
  simp only [execOp]
  refine run_value ?_
  rfl
end

section
variable {P : Program} {n : Nat} {rs : RS} {w : World}
/-- The end of a body: the results. -/
theorem WE.ret1 {fn : Func} {R : Value → World → Prop} {e : Exit} {r : Nat} {v : Value} (he : e = .normal ∨ e = .ret) (hr : fn.results = #[.tmp r]) (hv : rs.get r = some v) (h : R v w) : WE (bodyPost P fn (Ret R)) e n rs w := fun a ha => by
  have hg := ha.2.2 r v hv
  have : (results fn a.tmps).run P w = .ok v w := by
    simp [results, hr, go_sem, Array.getD_eq_getD_getElem?, hg]
  rcases he with rfl | rfl <;> exact ⟨ha.2.1, v, this, h⟩
theorem WE.ret0 {fn : Func} {R : Value → World → Prop} {e : Exit} (he : e = .normal ∨ e = .ret) (hr : fn.results = #[]) (h : R (.tuple #[]) w) : WE (bodyPost P fn (Ret R)) e n rs w := fun a ha => by
  have : (results fn a.tmps).run P w = .ok (.tuple #[]) w := by
    simp [results, hr, go_sem]
  rcases he with rfl | rfl <;> exact ⟨ha.2.1, _, this, h⟩
theorem WE.ret2 {fn : Func} {R : Value → World → Prop} {e : Exit} {r s : Nat} {v u : Value} (he : e = .normal ∨ e = .ret) (hr : fn.results = #[.tmp r, .tmp s]) (hv : rs.get r = some v) (hu : rs.get s = some u) (h : R (.tuple #[v, u]) w) : WE (bodyPost P fn (Ret R)) e n rs w := fun a ha => by
  have hg := ha.2.2 r v hv
  have hg' := ha.2.2 s u hu
  have : (results fn a.tmps).run P w = .ok (.tuple #[v, u]) w := by
    simp [results, hr, go_sem, Array.getD_eq_getD_getElem?, hg, hg']
  rcases he with rfl | rfl <;> exact ⟨ha.2.1, _, this, h⟩
end
end Go.Sx
