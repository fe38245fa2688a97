/- Calls whose contract names the result and the memory behind it. -/
import Derived.Test.YteoplijfofohkaaGreatOp2
import Derived.LoopN
namespace Go.Sx
open Go
variable [Env]
theorem Sat.swap {w : World} {A B : Asrt} {L : List Asrt} (h : Sat w (A :: B :: L)) : Sat w (B :: A :: L) := h.perm (.swap B A L)
section
variable {P : Program} {ops : Array Oper} {Q : Exit → Act → World → Prop} {n : Nat} {rs : RS} {l : List Oper} {w : World}
omit [Env] in
theorem WL.skippedU {o : Op} {t : TypeId} {d : Nat} {pos : String} {af : Array Edge} {j gd : Nat} {b : Bool}
    (hj : (ops[j]?).bind (·.dst) = some gd) (hg : rs.get gd = some undef) (hd : d < n)
    (h : WL P ops Q n l ((d, undef) :: rs) w) : WL P ops Q n (⟨some d, o, t, pos, af, some (j, b)⟩ :: l) rs w := fun a ha => by
  unfold wpList
  have : Region.wanted ⟨some d, o, t, pos, af, some (j, b)⟩ (yielded ops a.tmps) = false := by
    have := ha.2.2 gd _ hg
    simp only [Region.wanted, yielded, hj]
    simp [this, undef]
  rw [if_neg (by simp [this])]
  exact h _ (ha.put hd _)
omit [Env] in
theorem WL.skippedU0 {o : Op} {t : TypeId} {pos : String} {af : Array Edge} {j gd : Nat} {b : Bool}
    (hj : (ops[j]?).bind (·.dst) = some gd) (hg : rs.get gd = some undef)
    (h : WL P ops Q n l rs w) : WL P ops Q n (⟨none, o, t, pos, af, some (j, b)⟩ :: l) rs w := fun a ha => by
  unfold wpList
  have : Region.wanted ⟨none, o, t, pos, af, some (j, b)⟩ (yielded ops a.tmps) = false := by
    have := ha.2.2 gd _ hg
    simp only [Region.wanted, yielded, hj]
    simp [this, undef]
  rw [if_neg (by simp [this])]
  exact h _ ha
end
section
variable {P : Program} {ops : Array Oper} {Q : Exit → Act → World → Prop} {n : Nat} {rs : RS} {L K : List Asrt} {l : List Oper} {t : TypeId} {d : Nat} {pos : String} {af : Array Edge} {o : Op} {r : Tr} {i : Nat}
theorem WLs.skippedU {j gd : Nat} {b : Bool} (hj : (ops[j]?).bind (·.dst) = some gd) (hg : rs.get gd = some undef) (hd : Nat.blt d n = true)
    (h : WLs P ops Q n l ((d, undef) :: rs) L) : WLs P ops Q n (⟨some d, o, t, pos, af, some (j, b)⟩ :: l) rs L := fun w hs => WL.skippedU hj hg (blt_lt hd) (h w hs)
theorem WLs.skippedU0 {j gd : Nat} {b : Bool} (hj : (ops[j]?).bind (·.dst) = some gd) (hg : rs.get gd = some undef)
    (h : WLs P ops Q n l rs L) : WLs P ops Q n (⟨none, o, t, pos, af, some (j, b)⟩ :: l) rs L := fun w hs => WL.skippedU0 hj hg (h w hs)
theorem WSs.pureU {j gd : Nat} {b : Bool} (ho : ops[i]? = some ⟨some d, o, t, pos, af, some (j, b)⟩) (hj : (ops[j]?).bind (·.dst) = some gd) (hg : rs.get gd = some undef)
    (hd : Nat.blt d n = true) (h : WSs P ops Q n r K ((d, undef) :: rs) L) : WSs P ops Q n (.one i 3 r) K rs L := fun w hs a ha =>
  ⟨_, undef, ho, .inr ⟨by have := ha.2.2 gd _ hg; simp [Region.wanted, yielded, hj, this, undef], rfl⟩, h w hs _ (ha.put (blt_lt hd) _)⟩
theorem WSs.valU {j gd : Nat} {b : Bool} (ho : ops[i]? = some ⟨some d, o, t, pos, af, some (j, b)⟩) (hj : (ops[j]?).bind (·.dst) = some gd) (hg : rs.get gd = some undef)
    (hd : Nat.blt d n = true) (h : WSs P ops Q n r K ((d, undef) :: rs) L) : WSs P ops Q n (.one i 0 r) K rs L := fun w hs a ha =>
  ⟨_, undef, ho, .inr ⟨by have := ha.2.2 gd _ hg; simp [Region.wanted, yielded, hj, this, undef], rfl⟩, h w hs _ (ha.put (blt_lt hd) _)⟩
end
section
variable {P : Program} {ops : Array Oper} {Q : Exit → Act → World → Prop} {n : Nat} {rs : RS} {L L' K : List Asrt} {l : List Oper} {t : TypeId} {d i : Nat} {pos : String} {af : Array Edge} {r : Value} {tr : Tr}
variable {f : FuncId} {args : List Operand} {vs : List Value} {tys : Array TypeId} {fn : Func} {c : Code}
theorem WLs.callE (hf : P.funcs[f]? = some fn) (hb : fn.body = some c) (hne : (fn.name == "runtime.NumGoroutine") = false)
    (hx : evs rs args = some vs) (hd : Nat.blt d n = true) (hc : ∀ w, Sat w L → Does P f vs w (fun v w' => v = r ∧ Sat w' L')) (h : WLs P ops Q n l ((d, r) :: rs) L') :
    WLs P ops Q n (⟨some d, .call ⟨.value (.func f), args.toArray, tys⟩, t, pos, af, none⟩ :: l) rs L :=
  WLs.call hf hb hne hx hd hc fun _ _ ⟨hv, hs⟩ => by subst hv; exact WLs.go hs h
theorem WLs.callX {σ : Type} {r : σ → Value} {L' : σ → List Asrt} (hf : P.funcs[f]? = some fn) (hb : fn.body = some c) (hne : (fn.name == "runtime.NumGoroutine") = false)
    (hx : evs rs args = some vs) (hd : Nat.blt d n = true) (hc : ∀ w, Sat w L → Does P f vs w (fun v w' => ∃ x, v = r x ∧ Sat w' (L' x))) (h : ∀ x, WLs P ops Q n l ((d, r x) :: rs) (L' x)) :
    WLs P ops Q n (⟨some d, .call ⟨.value (.func f), args.toArray, tys⟩, t, pos, af, none⟩ :: l) rs L :=
  WLs.call hf hb hne hx hd hc fun _ _ ⟨x, hv, hs⟩ => by subst hv; exact WLs.go hs (h x)
theorem WSs.callE (ho : ops[i]? = some ⟨some d, .call ⟨.value (.func f), args.toArray, tys⟩, t, pos, af, none⟩)
    (hf : P.funcs[f]? = some fn) (hb : fn.body = some c) (hne : (fn.name == "runtime.NumGoroutine") = false)
    (hx : evs rs args = some vs) (hd : Nat.blt d n = true) (hc : ∀ w, Sat w L → Does P f vs w (fun v w' => v = r ∧ Sat w' L')) (hk : ∀ w, Sat w L' → Sat w K) (h : WSs P ops Q n tr K ((d, r) :: rs) L') :
    WSs P ops Q n (.one i 1 tr) K rs L :=
  WSs.call ho hf hb hne hx hd hc fun _ w ⟨hv, hs⟩ => by subst hv; exact ⟨hk w hs, WSs.go hs h⟩
theorem WSs.callBE (ho : ops[i]? = some ⟨some d, .call ⟨.value (.func f), args.toArray, tys⟩, t, pos, af, none⟩)
    (hf : P.funcs[f]? = some fn) (hb : fn.body = some c) (hne : (fn.name == "runtime.NumGoroutine") = false)
    (hx : evs rs args = some vs) (hd : Nat.blt d n = true) (hc : ∀ w, Sat w L → Does P f vs w (fun v w' => v = r ∧ Sat w' L')) (h : WSs P ops Q n tr L' ((d, r) :: rs) L') :
    WSs P ops Q n (.one i 2 tr) K rs L :=
  WSs.callB ho hf hb hne hx hd hc fun _ w ⟨hv, hs⟩ => by subst hv; exact ⟨L', hs, WSs.go hs h⟩
theorem WSs.callBX {σ : Type} {r : σ → Value} {L' : σ → List Asrt} (ho : ops[i]? = some ⟨some d, .call ⟨.value (.func f), args.toArray, tys⟩, t, pos, af, none⟩)
    (hf : P.funcs[f]? = some fn) (hb : fn.body = some c) (hne : (fn.name == "runtime.NumGoroutine") = false)
    (hx : evs rs args = some vs) (hd : Nat.blt d n = true) (hc : ∀ w, Sat w L → Does P f vs w (fun v w' => ∃ x, v = r x ∧ Sat w' (L' x))) (h : ∀ x, WSs P ops Q n tr (L' x) ((d, r x) :: rs) (L' x)) :
    WSs P ops Q n (.one i 2 tr) K rs L :=
  WSs.callB ho hf hb hne hx hd hc fun _ w ⟨x, hv, hs⟩ => by subst hv; exact ⟨L' x, hs, WSs.go hs (h x)⟩
end
theorem Sat.third {w : World} {A B C : Asrt} {L : List Asrt} (h : Sat w (A :: B :: C :: L)) : Sat w (B :: C :: A :: L) :=
  h.perm ((List.Perm.swap B A (C :: L)).trans ((List.Perm.swap C A L).cons B))
theorem Sat.unthird {w : World} {A B C : Asrt} {L : List Asrt} (h : Sat w (B :: C :: A :: L)) : Sat w (A :: B :: C :: L) :=
  h.perm (((List.Perm.swap A C L).cons B).trans (List.Perm.swap A B (C :: L)))
section
variable {P : Program} {ops : Array Oper} {Q : Exit → Act → World → Prop} {n : Nat} {rs : RS} {L L' K : List Asrt} {t : TypeId} {d i : Nat} {pos : String} {af : Array Edge} {r : Value} {tr : Tr} {o : Op}
omit [Env] in
theorem wpOp_avG {K : Act → World → Prop} {nx : Next} {dd : Option Tmp} {a : Act} {w w' : World} {j gd : Nat} {b : Bool} (ha : Has a n rs) (ho : ops[i]? = some ⟨dd, o, t, pos, af, some (j, b)⟩)
    (hj : (ops[j]?).bind (·.dst) = some gd) (hg : rs.get gd = some (.bool b)) (hy : Av P n rs o t w nx w')
    (h : Oper.upon P ⟨dd, o, t, pos, af, none⟩ a K Q (.ok nx w')) : wpOp P ops Q i K a w := by
  unfold wpOp
  simp only [ho]
  rw [if_pos (by have := ha.2.2 gd _ hg; simp [Region.wanted, yielded, hj, this])]
  refine .inl ?_
  unfold Oper.wp
  have := hy a ha
  rw [this]
  exact h
theorem WSs.callEG {f : FuncId} {args : List Operand} {vs : List Value} {tys : Array TypeId} {fn : Func} {c : Code} {j gd : Nat} {b : Bool} (ho : ops[i]? = some ⟨some d, .call ⟨.value (.func f), args.toArray, tys⟩, t, pos, af, some (j, b)⟩)
    (hj : (ops[j]?).bind (·.dst) = some gd) (hg : rs.get gd = some (.bool b))
    (hf : P.funcs[f]? = some fn) (hb : fn.body = some c) (hne : (fn.name == "runtime.NumGoroutine") = false)
    (hx : evs rs args = some vs) (hd : Nat.blt d n = true) (hc : ∀ w, Sat w L → Does P f vs w (fun v w' => v = r ∧ Sat w' L')) (hk : ∀ w, Sat w L' → Sat w K) (h : WSs P ops Q n tr K ((d, r) :: rs) L') :
    WSs P ops Q n (.one i 1 tr) K rs L := fun w hs a ha =>
  wpOp_avG ha ho hj hg (enter_run hf hb hne hx) (Calls.mono (hc w hs) fun e w' he => by
    cases e with
    | returned v => obtain ⟨rfl, h1⟩ := he; exact ⟨hk _ h1, h _ h1 _ (ha.put (blt_lt hd) _)⟩
    | panicked c => exact he.elim
    | outgrown => exact he.elim)
theorem WSs.callBEG {f : FuncId} {args : List Operand} {vs : List Value} {tys : Array TypeId} {fn : Func} {c : Code} {j gd : Nat} {b : Bool} (ho : ops[i]? = some ⟨some d, .call ⟨.value (.func f), args.toArray, tys⟩, t, pos, af, some (j, b)⟩)
    (hj : (ops[j]?).bind (·.dst) = some gd) (hg : rs.get gd = some (.bool b))
    (hf : P.funcs[f]? = some fn) (hb : fn.body = some c) (hne : (fn.name == "runtime.NumGoroutine") = false)
    (hx : evs rs args = some vs) (hd : Nat.blt d n = true) (hc : ∀ w, Sat w L → Does P f vs w (fun v w' => v = r ∧ Sat w' L')) (h : WSs P ops Q n tr L' ((d, r) :: rs) L') :
    WSs P ops Q n (.one i 2 tr) K rs L := fun w hs a ha =>
  wpOp_avG ha ho hj hg (enter_run hf hb hne hx) (Calls.mono (hc w hs) fun e w' he => by
    cases e with
    | returned v => obtain ⟨rfl, h1⟩ := he; exact ⟨_, h1, h _ h1 _ (ha.put (blt_lt hd) _)⟩
    | panicked c => exact he.elim
    | outgrown => exact he.elim)
omit [Env] in
theorem wpOp_skip {K : Act → World → Prop} {oo : Oper} {a : Act} {w : World} (ho : ops[i]? = some oo) (hw : Region.wanted oo (yielded ops a.tmps) = false) (h : K (a.put oo.dst undef) w) : wpOp P ops Q i K a w := by
  unfold wpOp
  simp only [ho]
  rw [if_neg (by simp [hw])]
  exact h
theorem WSs.skip1 {j gd : Nat} {b : Bool} {u : Value} (ho : ops[i]? = some ⟨some d, o, t, pos, af, some (j, b)⟩) (hj : (ops[j]?).bind (·.dst) = some gd) (hg : rs.get gd = some u) (hu : u = .bool (!b) ∨ u = undef)
    (hd : Nat.blt d n = true) (hk : ∀ w, Sat w L → Sat w K) (h : WSs P ops Q n tr K ((d, undef) :: rs) L) : WSs P ops Q n (.one i 1 tr) K rs L := fun w hs a ha =>
  wpOp_skip ho (by have := ha.2.2 gd _ hg; rcases hu with rfl | rfl <;> simp [Region.wanted, yielded, hj, this, undef]) ⟨hk w hs, h w hs _ (ha.put (blt_lt hd) _)⟩
theorem WSs.skip2 {j gd : Nat} {b : Bool} {u : Value} (ho : ops[i]? = some ⟨some d, o, t, pos, af, some (j, b)⟩) (hj : (ops[j]?).bind (·.dst) = some gd) (hg : rs.get gd = some u) (hu : u = .bool (!b) ∨ u = undef)
    (hd : Nat.blt d n = true) (h : WSs P ops Q n tr L ((d, undef) :: rs) L) : WSs P ops Q n (.one i 2 tr) K rs L := fun w hs a ha =>
  wpOp_skip ho (by have := ha.2.2 gd _ hg; rcases hu with rfl | rfl <;> simp [Region.wanted, yielded, hj, this, undef]) ⟨_, hs, h w hs _ (ha.put (blt_lt hd) _)⟩
end
omit [Env] in
theorem sliceAt_one (E b : Nat) (v : Value) : ∀ g, pt b (.cells #[v] E (0, 0)) g → sliceAt E 1 (.slice (some ⟨b, 0, none⟩) 1 1) 1 [v] g :=
  sliceAt_intro (pre := []) (cs := [v]) (spare := []) rfl rfl
section
variable {P : Program} {ops : Array Oper} {Q : Exit → Act → World → Prop} {n : Nat} {rs : RS} {L : List Asrt} {l : List Oper} {A B C : Asrt}
theorem WLs.third (h : WLs P ops Q n l rs (B :: C :: A :: L)) : WLs P ops Q n l rs (A :: B :: C :: L) := fun w hs => h w hs.third
theorem WLs.swap (h : WLs P ops Q n l rs (B :: A :: L)) : WLs P ops Q n l rs (A :: B :: L) := fun w hs => h w hs.swap
end
section
variable {P : Program} {Q : Exit → Act → World → Prop} {n : Nat} {rs : RS} {L : List Asrt} {c : Code}
/-- a loop that goes round so often at most: k more times -/
theorem WCs.unroll (k : Nat) (h : WCs P (Exit.then (Code.rounds P c Q k) Q) n c rs L) : WCs P Q n (.loop c) rs L :=
  fun w hs a ha => wp_loop_rounds (k + 1) (h w hs a ha)
theorem WEs.again {k : Nat} (h : WCs P (Exit.then (Code.rounds P c Q k) Q) n c rs L) : WEs (Exit.then (Code.rounds P c Q (k + 1)) Q) .normal n rs L :=
  fun w hs a ha => h w hs a ha
end
end Go.Sx
