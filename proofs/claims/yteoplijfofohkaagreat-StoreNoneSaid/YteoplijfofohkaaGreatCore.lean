/- The walk's own calculus: registers as a list of pairs, regions in one canonical order, calls by contracts. No program in sight. -/
import Derived.WalkKit
import Derived.Deep.RegionHeld3
import Derived.Deep.LoopGhost
namespace Go.Sx
open Go

abbrev RS := List (Nat × Value)

def RS.get : RS → Nat → Option Value
  | [], _ => none
  | (i, v) :: r, j => bif Nat.beq i j then some v else RS.get r j

/-- The frame holds what the list says; nothing is deferred. -/
def Has (a : Act) (n : Nat) (rs : RS) : Prop := a.tmps.size = n ∧ a.defers = [] ∧ ∀ i v, rs.get i = some v → a.tmps[i]? = some v

theorem RS.get_cons_self (d : Nat) (v : Value) (r : RS) : RS.get ((d, v) :: r) d = some v := by simp [RS.get]
theorem RS.get_cons_ne {d j : Nat} (v : Value) (r : RS) (h : d ≠ j) : RS.get ((d, v) :: r) j = RS.get r j := by
  have : Nat.beq d j = false := by
    cases hb : Nat.beq d j with
    | false => rfl
    | true => exact absurd (Nat.eq_of_beq_eq_true hb) h
  simp [RS.get, this]

theorem Has.put {a : Act} {n : Nat} {rs : RS} (h : Has a n rs) {d : Nat} (hd : d < n) (v : Value) : Has (a.put (some d) v) n ((d, v) :: rs) := by
  obtain ⟨h1, h2, h3⟩ := h
  refine ⟨by simp [Act.put, h1], h2, fun i u hu => ?_⟩
  by_cases hi : d = i
  · subst hi
    rw [RS.get_cons_self] at hu
    cases hu
    simp [Act.put, h1, hd]
  · rw [RS.get_cons_ne v rs hi] at hu
    have := h3 i u hu
    simp [Act.put, Array.getElem?_setIfInBounds, hi, this]

theorem Has.put_none {a : Act} {n : Nat} {rs : RS} (h : Has a n rs) (v : Value) : Has (a.put none v) n rs := h

/-- What the second list says, the first says too. -/
def Cov (rs rs' : RS) : Prop := ∀ i v, rs'.get i = some v → rs.get i = some v
theorem Has.cov {a : Act} {n : Nat} {rs rs' : RS} (h : Has a n rs) (hc : Cov rs rs') : Has a n rs' := ⟨h.1, h.2.1, fun i v hv => h.2.2 i v (hc i v hv)⟩
theorem Cov.nil (rs : RS) : Cov rs [] := fun i v h => by cases h
theorem Cov.cons {rs rs' : RS} {d : Nat} {v : Value} (h : rs.get d = some v) (hc : Cov rs rs') : Cov rs ((d, v) :: rs') := fun i u hu => by
  by_cases hi : d = i
  · subst hi; rw [RS.get_cons_self] at hu; cases hu; exact h
  · rw [RS.get_cons_ne v rs' hi] at hu; exact hc i u hu

def ev (rs : RS) : Operand → Option Value
  | .tmp t => rs.get t
  | .const v => some v
  | .global g => some (.pointer (some ⟨g, 0, none⟩))
  | .func f => some (.func (.func f) #[] #[])

theorem ev_sound {a : Act} {n : Nat} {rs : RS} (h : Has a n rs) {x : Operand} {v : Value} (hx : ev rs x = some v) : a.eval x = v := by
  cases x with
  | tmp t =>
    have := h.2.2 t v hx
    simp [Act.eval, Array.getD_eq_getD_getElem?, this]
  | const u => cases hx; rfl
  | global g => cases hx; rfl
  | func f => cases hx; rfl

def evs (rs : RS) : List Operand → Option (List Value)
  | [] => some []
  | x :: l => match ev rs x, evs rs l with
    | some v, some vs => some (v :: vs)
    | _, _ => none

theorem evs_sound {a : Act} {n : Nat} {rs : RS} (h : Has a n rs) : ∀ {l : List Operand} {vs : List Value}, evs rs l = some vs → l.map a.eval = vs
  | [], vs, hx => by simp [evs] at hx; simp [← hx]
  | x :: l, vs, hx => by
    simp only [evs] at hx
    split at hx
    · rename_i v us h1 h2
      cases hx
      simp [ev_sound h h1, evs_sound h h2]
    · cases hx

/-- In every world of S, from every frame that holds 'rs', the operation yields v and leaves the world as it is. -/
def Yv (P : Program) (S : World → Prop) (n : Nat) (rs : RS) (o : Op) (t : TypeId) (v : Value) : Prop :=
  ∀ a, Has a n rs → ∀ w, S w → ∀ d pos af g, (execOp a.eval ⟨d, o, t, pos, af, g⟩).run P w = .ok (.value v) w

/-- A run of operations in the text's order. -/
def WL (P : Program) (ops : Array Oper) (Q : Exit → Act → World → Prop) (n : Nat) (l : List Oper) (rs : RS) (w : World) : Prop :=
  ∀ a, Has a n rs → wpList P ops Q l a w
def WC (P : Program) (Q : Exit → Act → World → Prop) (n : Nat) (c : Code) (rs : RS) (w : World) : Prop :=
  ∀ a, Has a n rs → c.wp P Q a w
def WE (Q : Exit → Act → World → Prop) (e : Exit) (n : Nat) (rs : RS) (w : World) : Prop :=
  ∀ a, Has a n rs → Q e a w

section
variable {P : Program} {ops : Array Oper} {Q Q' : Exit → Act → World → Prop} {n : Nat} {rs : RS} {w : World} {l : List Oper}

theorem WL.nil (h : WE Q .normal n rs w) : WL P ops Q n [] rs w := fun a ha => h a ha

/-- One step: o's own run is known from every frame. -/
theorem WL.step {o : Op} {t : TypeId} {d : Option Tmp} {pos : String} {af : Array Edge}
    (h : ∀ a, Has a n rs → (Oper.mk d o t pos af none).wp P a w (fun a' w' => wpList P ops Q l a' w') Q) : WL P ops Q n (⟨d, o, t, pos, af, none⟩ :: l) rs w := fun a ha => by
  unfold wpList
  rw [if_pos (by simp [Region.wanted])]
  exact .inl (h a ha)

theorem WL.val {o : Op} {t : TypeId} {d : Nat} {pos : String} {af : Array Edge} {v : Value}
    (hy : Yv P (· = w) n rs o t v) (hd : d < n) (h : WL P ops Q n l ((d, v) :: rs) w) : WL P ops Q n (⟨some d, o, t, pos, af, none⟩ :: l) rs w :=
  WL.step fun a ha => by
    unfold Oper.wp
    rw [hy a ha w rfl]
    exact h _ (ha.put hd v)

/-- A guarded operation whose guard says no. -/
theorem WL.skipped {o : Op} {t : TypeId} {d : Nat} {pos : String} {af : Array Edge} {j gd : Nat} {b : Bool}
    (hj : (ops[j]?).bind (·.dst) = some gd) (hg : rs.get gd = some (.bool (!b))) (hd : d < n)
    (h : WL P ops Q n l ((d, undef) :: rs) w) : WL P ops Q n (⟨some d, o, t, pos, af, some (j, b)⟩ :: l) rs w := fun a ha => by
  unfold wpList
  have : Region.wanted ⟨some d, o, t, pos, af, some (j, b)⟩ (yielded ops a.tmps) = false := by
    have := ha.2.2 gd _ hg
    simp only [Region.wanted, yielded, hj]
    simp [this]
  rw [if_neg (by simp [this])]
  exact h _ (ha.put hd _)
theorem WL.skipped0 {o : Op} {t : TypeId} {pos : String} {af : Array Edge} {j gd : Nat} {b : Bool}
    (hj : (ops[j]?).bind (·.dst) = some gd) (hg : rs.get gd = some (.bool (!b)))
    (h : WL P ops Q n l rs w) : WL P ops Q n (⟨none, o, t, pos, af, some (j, b)⟩ :: l) rs w := fun a ha => by
  unfold wpList
  have : Region.wanted ⟨none, o, t, pos, af, some (j, b)⟩ (yielded ops a.tmps) = false := by
    have := ha.2.2 gd _ hg
    simp only [Region.wanted, yielded, hj]
    simp [this]
  rw [if_neg (by simp [this])]
  exact h _ ha

/-- A guarded operation whose guard says yes. -/
theorem WL.guarded {o : Op} {t : TypeId} {d : Option Tmp} {pos : String} {af : Array Edge} {j gd : Nat} {b : Bool}
    (hj : (ops[j]?).bind (·.dst) = some gd) (hg : rs.get gd = some (.bool b))
    (h : WL P ops Q n (⟨d, o, t, pos, af, none⟩ :: l) rs w) : WL P ops Q n (⟨d, o, t, pos, af, some (j, b)⟩ :: l) rs w := fun a ha => by
  have h' := h a ha
  unfold wpList at h' ⊢
  have : Region.wanted ⟨d, o, t, pos, af, some (j, b)⟩ (yielded ops a.tmps) = true := by
    have := ha.2.2 gd _ hg
    simp only [Region.wanted, yielded, hj]
    simp [this]
  rw [if_pos this]
  rw [if_pos (by simp [Region.wanted])] at h'
  exact h'

theorem WL.cov {rs' : RS} (hc : Cov rs rs') (h : WL P ops Q n l rs' w) : WL P ops Q n l rs w := fun a ha => h a (ha.cov hc)
theorem WC.cov {rs' : RS} {c : Code} (hc : Cov rs rs') (h : WC P Q n c rs' w) : WC P Q n c rs w := fun a ha => h a (ha.cov hc)
theorem WE.cov {rs' : RS} {e : Exit} (hc : Cov rs rs') (h : WE Q e n rs' w) : WE Q e n rs w := fun a ha => h a (ha.cov hc)

theorem WC.region {id : Nat} (h : WL P l.toArray Q n l rs w) : WC P Q n (.region id l.toArray false) rs w := fun a ha => wp_region_lit (h a ha)
theorem WC.seq {x y : Code} (h : WC P (Exit.then (y.wp P Q) Q) n x rs w) : WC P Q n (.seq x y) rs w := fun a ha => wp_seq (h a ha)
theorem WC.block {id : Nat} {c : Code} (h : WC P (Exit.inBlock id Q) n c rs w) : WC P Q n (.block id c) rs w := fun a ha => wp_block (h a ha)
theorem WC.skip (h : WE Q .normal n rs w) : WC P Q n .skip rs w := fun a ha => wp_skip (h a ha)
theorem WC.ret (h : WE Q .ret n rs w) : WC P Q n .ret rs w := fun a ha => wp_ret (h a ha)
theorem WC.exit {id : Nat} (h : WE Q (.exit id) n rs w) : WC P Q n (.exit id) rs w := fun a ha => wp_exit (h a ha)
theorem WC.cond {c : Operand} {x y : Code} {b : Bool} (hc : ev rs c = some (.bool b)) (ht : b = true → WC P Q n x rs w) (hf : b = false → WC P Q n y rs w) :
    WC P Q n (.cond c x y) rs w := fun a ha => wp_cond_split (ev_sound ha hc) (fun h => ht h a ha) (fun h => hf h a ha)
theorem WC.cond_t {c : Operand} {x y : Code} (hc : ev rs c = some (.bool true)) (ht : WC P Q n x rs w) : WC P Q n (.cond c x y) rs w :=
  fun a ha => wp_cond_true (ev_sound ha hc) (ht a ha)
theorem WC.cond_f {c : Operand} {x y : Code} (hc : ev rs c = some (.bool false)) (hf : WC P Q n y rs w) : WC P Q n (.cond c x y) rs w :=
  fun a ha => wp_cond_false (ev_sound ha hc) (hf a ha)

theorem WE.then_n {y : Code} (h : WC P Q n y rs w) : WE (Exit.then (y.wp P Q) Q') .normal n rs w := h
theorem WE.then_ret {K : Act → World → Prop} (h : WE Q .ret n rs w) : WE (Exit.then K Q) .ret n rs w := h
theorem WE.then_exit {K : Act → World → Prop} {id : Nat} (h : WE Q (.exit id) n rs w) : WE (Exit.then K Q) (.exit id) n rs w := h
theorem WE.in_n {id : Nat} (h : WE Q .normal n rs w) : WE (Exit.inBlock id Q) .normal n rs w := h
theorem WE.in_ret {id : Nat} (h : WE Q .ret n rs w) : WE (Exit.inBlock id Q) .ret n rs w := h
theorem WE.in_same {id : Nat} (h : WE Q .normal n rs w) : WE (Exit.inBlock id Q) (.exit id) n rs w := fun a ha => by
  simp only [Exit.inBlock, if_true]; exact h a ha
theorem WE.in_other {id id' : Nat} (hne : Nat.beq id' id = false) (h : WE Q (.exit id') n rs w) : WE (Exit.inBlock id Q) (.exit id') n rs w := fun a ha => by
  have : ¬ id' = id := fun e => by subst e; simp at hne
  simp only [Exit.inBlock, this, if_false]; exact h a ha

/-- A loop: what the slots hold is told by s; every round lowers the measure, or leaves. -/
theorem WC.loop {σ : Type} {c : Code} (rsOf : σ → RS) (I : σ → World → Prop) (μ : σ → Nat) (s₀ : σ) (hI : I s₀ w) (hc : Cov rs (rsOf s₀))
    (round : ∀ s w, I s w → WC P (Exit.then (fun a' w' => ∃ s', Has a' n (rsOf s') ∧ I s' w' ∧ μ s' < μ s) Q) n c (rsOf s) w) : WC P Q n (.loop c) rs w := fun a ha => by
  refine wp_loop_ghost (fun k a w => ∃ s, Has a n (rsOf s) ∧ I s w ∧ μ s = k) (μ s₀) ⟨s₀, ha.cov hc, hI, rfl⟩ ?_
  rintro k a w ⟨s, hs, hIs, rfl⟩
  refine Code.wp_mono ?_ (round s w hIs a hs)
  intro e a' w' h
  cases e with
  | normal => obtain ⟨s', h1, h2, h3⟩ := h; exact ⟨μ s', h3, s', h1, h2, rfl⟩
  | _ => exact h
theorem WE.round {σ : Type} {rsOf : σ → RS} {I : σ → World → Prop} {μ : σ → Nat} {m : Nat} (s' : σ) (hc : Cov rs (rsOf s')) (hI : I s' w) (hm : μ s' < m) :
    WE (Exit.then (fun a' w' => ∃ s', Has a' n (rsOf s') ∧ I s' w' ∧ μ s' < m) Q) .normal n rs w := fun _ ha => ⟨s', ha.cov hc, hI, hm⟩
end

/-- What a contract says: the call returns, and R holds of what it returns and of the world. -/
def Ret (R : Value → World → Prop) : Ending → World → Prop
  | .returned v, w => R v w
  | _, _ => False

abbrev Does (P : Program) (f : FuncId) (args : List Value) (w : World) (R : Value → World → Prop) : Prop := Calls P f args.toArray w (Ret R)

theorem Does.mono {P : Program} {f : FuncId} {args : List Value} {w : World} {R R' : Value → World → Prop} (h : Does P f args w R) (hr : ∀ v w', R v w' → R' v w') : Does P f args w R' :=
  Calls.mono h fun e w' he => by cases e <;> first | exact hr _ _ he | exact he

def RS.ofArgs : Nat → List Value → RS
  | _, [] => []
  | k, v :: l => (k, v) :: RS.ofArgs (k + 1) l
theorem RS.get_ofArgs : ∀ (l : List Value) (k i : Nat), (RS.ofArgs k l).get i = if k ≤ i then l[i - k]? else none
  | [], k, i => by simp [RS.ofArgs, RS.get]
  | v :: l, k, i => by
    rw [RS.ofArgs]
    by_cases h : k = i
    · subst h; rw [RS.get_cons_self]; simp
    · rw [RS.get_cons_ne _ _ h, RS.get_ofArgs l (k + 1) i]
      by_cases h2 : k ≤ i
      · rw [if_pos h2, if_pos (by omega), show i - k = (i - (k + 1)) + 1 by omega]; simp
      · rw [if_neg h2, if_neg (by omega)]

/-- A function's body. -/
theorem Does.enter {P : Program} {f : FuncId} {fn : Func} {c : Code} {args : List Value} {w : World} {R : Value → World → Prop} {n : Nat} {rs : RS}
    (hf : P.funcs[f]? = some fn) (hb : fn.body = some c) (hn : fn.ntmps = n) (hle : args.length ≤ n)
    (hr : RS.ofArgs 0 args = rs) (h : WC P (bodyPost P fn (Ret R)) n c rs w) : Does P f args w R := by
  refine calls_of_wp hf hb (h _ ⟨by simp [hn]; omega, rfl, fun i v hv => ?_⟩)
  have : args[i]? = some v := by rw [← hr, RS.get_ofArgs] at hv; simpa using hv
  have hi : i < args.length := by
    rcases Nat.lt_or_ge i args.length with h | h
    · exact h
    · simp [List.getElem?_eq_none h] at this
  simp [Array.getElem?_append, hi]
  simpa [List.getElem?_eq_getElem hi] using this

end Go.Sx
