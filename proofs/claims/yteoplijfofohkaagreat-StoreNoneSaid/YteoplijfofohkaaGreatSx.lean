/- The walk's second tongue: splits at registers, parts that are opened and shut, loops told by their states. -/
import Derived.Test.YteoplijfofohkaaGreatOp5
namespace Go.Sx
open Go
variable [Env]
omit [Env] in
theorem Cov.refl (rs : RS) : Cov rs rs := fun _ _ h => h
section
variable {P : Program} {ops : Array Oper} {Q Q' : Exit → Act → World → Prop} {n : Nat} {rs : RS} {L K : List Asrt} {l : List Oper} {t : TypeId} {d g : Nat} {r : Tr}
theorem WLs.dup {v : Value} (hg : rs.get g = some v) (h : WLs P ops Q n l ((g, v) :: rs) L) : WLs P ops Q n l rs L := WLs.cov (Cov.cons hg (Cov.refl _)) h
theorem WSs.dup {v : Value} (hg : rs.get g = some v) (h : WSs P ops Q n r K ((g, v) :: rs) L) : WSs P ops Q n r K rs L := fun w hs a ha => h w hs a (ha.cov (Cov.cons hg (Cov.refl _)))
theorem WCs.dup {c : Code} {v : Value} (hg : rs.get g = some v) (h : WCs P Q n c ((g, v) :: rs) L) : WCs P Q n c rs L := WCs.cov (Cov.cons hg (Cov.refl _)) h
theorem WLs.bsp {p : Prop} [Decidable p] (hg : rs.get g = some (.bool (decide p))) (ht : p → WLs P ops Q n l ((g, .bool true) :: rs) L) (hf : ¬ p → WLs P ops Q n l ((g, .bool false) :: rs) L) : WLs P ops Q n l rs L := by
  by_cases h : p
  · rw [decide_eq_true h] at hg; exact WLs.dup hg (ht h)
  · rw [decide_eq_false h] at hg; exact WLs.dup hg (hf h)
theorem WLs.bspB {b : Bool} (hg : rs.get g = some (.bool b)) (ht : b = true → WLs P ops Q n l ((g, .bool true) :: rs) L) (hf : b = false → WLs P ops Q n l ((g, .bool false) :: rs) L) : WLs P ops Q n l rs L := by
  cases b
  · exact WLs.dup hg (hf rfl)
  · exact WLs.dup hg (ht rfl)
theorem WSs.bsp {p : Prop} [Decidable p] (hg : rs.get g = some (.bool (decide p))) (ht : p → WSs P ops Q n r K ((g, .bool true) :: rs) L) (hf : ¬ p → WSs P ops Q n r K ((g, .bool false) :: rs) L) : WSs P ops Q n r K rs L := by
  by_cases h : p
  · rw [decide_eq_true h] at hg; exact WSs.dup hg (ht h)
  · rw [decide_eq_false h] at hg; exact WSs.dup hg (hf h)
theorem WSs.bspB {b : Bool} (hg : rs.get g = some (.bool b)) (ht : b = true → WSs P ops Q n r K ((g, .bool true) :: rs) L) (hf : b = false → WSs P ops Q n r K ((g, .bool false) :: rs) L) : WSs P ops Q n r K rs L := by
  cases b
  · exact WSs.dup hg (hf rfl)
  · exact WSs.dup hg (ht rfl)
theorem WCs.condD {p : Prop} [Decidable p] {c : Operand} {x y : Code} (hc : ev rs c = some (.bool (decide p))) (ht : p → WCs P Q n x rs L) (hf : ¬ p → WCs P Q n y rs L) : WCs P Q n (.cond c x y) rs L :=
  WCs.cond hc (fun h => ht (of_decide_eq_true h)) (fun h => hf (of_decide_eq_false h))
/-- a register, said in another way -/
theorem WLs.turn {v u : Value} (e : v = u) (hg : rs.get g = some v) (h : WLs P ops Q n l ((g, u) :: rs) L) : WLs P ops Q n l rs L := WLs.dup (e ▸ hg) h
theorem WSs.turn {v u : Value} (e : v = u) (hg : rs.get g = some v) (h : WSs P ops Q n r K ((g, u) :: rs) L) : WSs P ops Q n r K rs L := WSs.dup (e ▸ hg) h
theorem WCs.turn {c : Code} {v u : Value} (e : v = u) (hg : rs.get g = some v) (h : WCs P Q n c ((g, u) :: rs) L) : WCs P Q n c rs L := WCs.dup (e ▸ hg) h
omit [Env] in
theorem bool_t {p : Prop} [Decidable p] (h : p) : Value.bool (decide p) = .bool true := by rw [decide_eq_true h]
omit [Env] in
theorem bool_f {p : Prop} [Decidable p] (h : ¬ p) : Value.bool (decide p) = .bool false := by rw [decide_eq_false h]

theorem WLs.yes {p : Prop} [Decidable p] (g : Nat) (hg : rs.get g = some (.bool (decide p))) (hp : p) (h : WLs P ops Q n l ((g, .bool true) :: rs) L) : WLs P ops Q n l rs L := WLs.turn (bool_t hp) hg h
theorem WLs.no {p : Prop} [Decidable p] (g : Nat) (hg : rs.get g = some (.bool (decide p))) (hp : ¬ p) (h : WLs P ops Q n l ((g, .bool false) :: rs) L) : WLs P ops Q n l rs L := WLs.turn (bool_f hp) hg h
theorem WLs.isB {b c' : Bool} (g : Nat) (hg : rs.get g = some (.bool b)) (hp : b = c') (h : WLs P ops Q n l ((g, .bool c') :: rs) L) : WLs P ops Q n l rs L := WLs.turn (congrArg Value.bool hp) hg h
theorem WSs.yes {p : Prop} [Decidable p] (g : Nat) (hg : rs.get g = some (.bool (decide p))) (hp : p) (h : WSs P ops Q n r K ((g, .bool true) :: rs) L) : WSs P ops Q n r K rs L := WSs.turn (bool_t hp) hg h
theorem WSs.no {p : Prop} [Decidable p] (g : Nat) (hg : rs.get g = some (.bool (decide p))) (hp : ¬ p) (h : WSs P ops Q n r K ((g, .bool false) :: rs) L) : WSs P ops Q n r K rs L := WSs.turn (bool_f hp) hg h
theorem WSs.isB {b c' : Bool} (g : Nat) (hg : rs.get g = some (.bool b)) (hp : b = c') (h : WSs P ops Q n r K ((g, .bool c') :: rs) L) : WSs P ops Q n r K rs L := WSs.turn (congrArg Value.bool hp) hg h
theorem WCs.yes {c : Code} {p : Prop} [Decidable p] (g : Nat) (hg : rs.get g = some (.bool (decide p))) (hp : p) (h : WCs P Q n c ((g, .bool true) :: rs) L) : WCs P Q n c rs L := WCs.turn (bool_t hp) hg h
theorem WCs.no {c : Code} {p : Prop} [Decidable p] (g : Nat) (hg : rs.get g = some (.bool (decide p))) (hp : ¬ p) (h : WCs P Q n c ((g, .bool false) :: rs) L) : WCs P Q n c rs L := WCs.turn (bool_f hp) hg h
theorem WCs.isB {c : Code} {b c' : Bool} (g : Nat) (hg : rs.get g = some (.bool b)) (hp : b = c') (h : WCs P Q n c ((g, .bool c') :: rs) L) : WCs P Q n c rs L := WCs.turn (congrArg Value.bool hp) hg h

theorem Sat.openAt {w : World} {α : Type} {K : α → List Asrt} (h : Sat w L) (i : Nat) (hi : L[i]? = some (fun h => ∃ x, sepL (K x) h)) : ∃ x, Sat w (K x ++ L.eraseIdx i) := by
  obtain ⟨x, hx⟩ := (h.front i hi).exists
  exact ⟨x, hx.split⟩
theorem WLs.openAt {α : Type} {K : α → List Asrt} (i : Nat) (hi : L[i]? = some (fun h => ∃ x, sepL (K x) h)) (h : ∀ x, WLs P ops Q n l rs (K x ++ L.eraseIdx i)) : WLs P ops Q n l rs L := fun w hs => by
  obtain ⟨x, hx⟩ := hs.openAt i hi; exact h x w hx
theorem WCs.openAt {c : Code} {α : Type} {K : α → List Asrt} (i : Nat) (hi : L[i]? = some (fun h => ∃ x, sepL (K x) h)) (h : ∀ x, WCs P Q n c rs (K x ++ L.eraseIdx i)) : WCs P Q n c rs L := fun w hs => by
  obtain ⟨x, hx⟩ := hs.openAt i hi; exact h x w hx
theorem Sat.shutK {w : World} {α : Type} {K : α → List Asrt} (a : α) (h : Sat w (K a ++ L)) : Sat w ((fun h => ∃ x, sepL (K x) h) :: L) := h.join.impl fun _ hg => ⟨a, hg⟩
theorem WLs.to {L' : List Asrt} (k : Nat) (is : List Nat) (hn : is.Nodup) (he : is.filterMap ((L.take k)[·]?) ++ L.drop k = L') (h : WLs P ops Q n l rs L') : WLs P ops Q n l rs L := fun w hs => h w (he ▸ hs.selN k is hn)
theorem WCs.to {c : Code} {L' : List Asrt} (k : Nat) (is : List Nat) (hn : is.Nodup) (he : is.filterMap ((L.take k)[·]?) ++ L.drop k = L') (h : WCs P Q n c rs L') : WCs P Q n c rs L := fun w hs => h w (he ▸ hs.selN k is hn)
theorem WEs.to {e : Exit} {L' : List Asrt} (k : Nat) (is : List Nat) (hn : is.Nodup) (he : is.filterMap ((L.take k)[·]?) ++ L.drop k = L') (h : WEs Q e n rs L') : WEs Q e n rs L := fun w hs => h w (he ▸ hs.selN k is hn)
theorem Sat.go {w : World} {L' : List Asrt} (hs : Sat w L) (k : Nat) (is : List Nat) (hn : is.Nodup) (he : is.filterMap ((L.take k)[·]?) ++ L.drop k = L') : Sat w L' := he ▸ hs.selN k is hn
/-- the ways out: the normal one is told in between -/
def JQ {σ : Type} (n : Nat) (rsOf : σ → RS) (LOf : σ → List Asrt) (Q : Exit → Act → World → Prop) : Exit → Act → World → Prop
  | .normal, a, w => ∃ s, Has a n (rsOf s) ∧ Sat w (LOf s)
  | e, a, w => Q e a w
theorem WCs.join {σ : Type} {c : Code} (rsOf : σ → RS) (LOf : σ → List Asrt) (h1 : WCs P (JQ n rsOf LOf Q) n c rs L) (h2 : ∀ s, WEs Q .normal n (rsOf s) (LOf s)) : WCs P Q n c rs L := fun w hs a ha => by
  refine Code.wp_mono ?_ (h1 w hs a ha)
  intro e a' w' h
  cases e with
  | normal => obtain ⟨s, h3, h4⟩ := h; exact h2 s w' h4 a' h3
  | _ => exact h
theorem WEs.j_n {σ : Type} {rsOf : σ → RS} {LOf : σ → List Asrt} (s : σ) (hc : Cov rs (rsOf s)) (hL : ∀ w, Sat w L → Sat w (LOf s)) : WEs (JQ n rsOf LOf Q) .normal n rs L := fun w hs a ha => ⟨s, ha.cov hc, hL w hs⟩
theorem WEs.j_ret {σ : Type} {rsOf : σ → RS} {LOf : σ → List Asrt} (h : WEs Q .ret n rs L) : WEs (JQ n rsOf LOf Q) .ret n rs L := h
theorem WEs.j_exit {σ : Type} {rsOf : σ → RS} {LOf : σ → List Asrt} {id : Nat} (h : WEs Q (.exit id) n rs L) : WEs (JQ n rsOf LOf Q) (.exit id) n rs L := h
theorem Pf.j {σ : Type} {rsOf : σ → RS} {LOf : σ → List Asrt} (h : Pf Q) : Pf (JQ n rsOf LOf Q) := fun d v c a w => h d v c a w
end
section
variable {P : Program} {S : World → Prop} {n : Nat} {rs : RS} {t : TypeId}
omit [Env] in
theorem y_notD {x : Operand} {p : Prop} [Decidable p] {T : TypeId} (hx : ev rs x = some (.bool (decide p))) : Yv P S n rs (.unOp .not T x) t (.bool (decide (¬ p))) := by
  rw [show decide (¬ p) = !decide p by simp]; exact y_not hx
/-- the byte at a place -/
def bt (s : List UInt8) (i : Int) : Int := ((s.getD i.toNat 0).toNat : Int)
omit [Env] in
theorem y_sxg {x y : Operand} {T : TypeId} {s : List UInt8} {k : IntKind} {i : Int} (hx : ev rs x = some (str s)) (hy : ev rs y = some (.int k i)) (ht : tStr P T = true) (h : 0 ≤ i ∧ i < s.length) : Yv P S n rs (.index T x y) t (.int .u8 (bt s i)) := by
  have hl : i.toNat < s.length := by omega
  have := y_sx (P := P) (S := S) (n := n) (t := t) (c := s[i.toNat]) hx hy ht h.1 (List.getElem?_eq_getElem hl)
  unfold bt
  rw [List.getD_eq_getElem?_getD, List.getElem?_eq_getElem hl]
  exact this
omit [Env] in
theorem cut_lo (s : List UInt8) (k : Nat) : (s.take s.length).drop k = s.drop k := by rw [List.take_length]
def orI (k : IntKind) (i j : Int) : Int := k.wrap ((BitVec.ofInt k.bits i ||| BitVec.ofInt k.bits j).toNat)
def xorI (k : IntKind) (i j : Int) : Int := k.wrap ((BitVec.ofInt k.bits i ^^^ BitVec.ofInt k.bits j).toNat)
omit [Env] in
theorem run_or {k : IntKind} {i j : Int} (w : World) : (Op.intBits .or k i j).run P w = .ok (.int k (orI k i j)) w := rfl
omit [Env] in
theorem run_xor {k : IntKind} {i j : Int} (w : World) : (Op.intBits .xor k i j).run P w = .ok (.int k (xorI k i j)) w := rfl
end
end Go.Sx
