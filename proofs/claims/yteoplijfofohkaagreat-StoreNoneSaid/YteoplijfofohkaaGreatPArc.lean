/- The cache's first policy as plain lists: once, often, and those that went of each. -/
import Derived.Test.YteoplijfofohkaaGreatPRing3
namespace Go.Hw
open Go Go.Sx
structure Arc where
  most : Nat
  target : Nat
  K : List (List Str)
namespace Arc
def n (a : Arc) (j : Nat) : Nat := (a.K.getD j []).length
def len (a : Arc) : Nat := a.n 0 + a.n 1
def all (a : Arc) : Nat := a.n 0 + a.n 2 + a.n 1 + a.n 3
def has (a : Arc) (k : Str) : Bool := decide (k ∈ a.K.getD 0 [] ∨ k ∈ a.K.getD 1 [])
def front (a : Arc) (l : Nat) (k : Str) : Arc := { a with K := frontK a.K l k }
def drop (a : Arc) (k : Str) : Arc := { a with K := dropK a.K k }
def touch (a : Arc) (k : Str) : Arc := if a.has k then a.front 1 k else a
def fromOnce (a : Arc) (wanted : Bool) : Bool := decide (0 < a.n 0) && (decide (a.target < a.n 0) || (wanted && decide (a.n 0 = a.target)) || decide (a.n 1 = 0))
def move (a : Arc) (i j : Nat) : Arc × List Str :=
  match (a.K.getD i []).getLast? with
  | none => (a, [])
  | some k => (a.front j k, [k])
def replace (a : Arc) (wanted : Bool) : Arc × List Str := if a.fromOnce wanted then a.move 0 2 else a.move 1 3
def forget (a : Arc) (l : Nat) : Arc :=
  match (a.K.getD l []).getLast? with
  | none => a
  | some k => a.drop k
def room (a : Arc) (wanted : Bool) : Arc × List Str := if a.most ≤ a.len then a.replace wanted else (a, [])
def aim (a : Arc) (l : Nat) : Arc :=
  if l = 2 then { a with target := min a.most (a.target + max 1 (a.n 3 / a.n 2)) } else { a with target := a.target - max 1 (a.n 2 / a.n 3) }
def again (a : Arc) (k : Str) (l : Nat) : Arc × List Str :=
  let r := (a.aim l).room (decide (l = 3))
  (r.1.front 1 k, r.2)
def fresh (a : Arc) : Arc × List Str :=
  if a.most ≤ a.n 0 + a.n 2 then
    if a.n 0 < a.most then (a.forget 2).room false
    else match (a.K.getD 0 []).getLast? with
      | none => (a, [[]])
      | some k => (a.drop k, [k])
  else if a.most ≤ a.all then
    (if 2 * a.most ≤ a.all then a.forget 3 else a).room false
  else (a, [])
def insert (a : Arc) (k : Str) : Arc × List Str :=
  if 64 < k.length then (a, [])
  else if a.has k then (a.front 1 k, [])
  else match whichK a.K k with
    | some l => a.again k l
    | none => let r := a.fresh; (r.1.front 0 k, r.2)
def evict (a : Arc) : Arc × Option Str := if a.len = 0 then (a, none) else ((a.replace false).1, (a.replace false).2.head?)

/-- how things are between any two steps -/
structure Ok (a : Arc) : Prop where
  m1 : 1 ≤ a.most
  m2 : a.most ≤ 1000
  t1 : a.target ≤ a.most
  k4 : a.K.length = 4
  nd : a.K.flatten.Nodup
  ks : ∀ k ∈ a.K.flatten, k.length ≤ 64
  all1 : a.K.flatten.length ≤ 2 * a.most
structure Inv (a : Arc) : Prop extends Ok a where
  n01 : a.n 0 + a.n 1 ≤ a.most
  n02 : a.n 0 + a.n 2 ≤ a.most
variable {a : Arc} {k : Str}
theorem Ok.flen (h : a.Ok) : a.K.flatten.length = a.n 0 + a.n 1 + a.n 2 + a.n 3 := by
  have := h.k4
  rcases hK : a.K with _ | ⟨A, _ | ⟨B, _ | ⟨C, _ | ⟨D, _ | ⟨E, r⟩⟩⟩⟩⟩ <;> simp [hK] at this
  simp [n, hK]; omega
theorem Ok.getD_lt (h : a.Ok) {j : Nat} (hk : k ∈ a.K.getD j []) : j < 4 := by have := lt_of_mem_getD hk; have := h.k4; omega
theorem Ok.front (h : a.Ok) {l : Nat} (hl : l < 4) (hk : k.length ≤ 64) (hr : k ∈ a.K.flatten ∨ a.K.flatten.length < 2 * a.most) : (a.front l k).Ok := by
  have hl' : l < a.K.length := by rw [h.k4]; exact hl
  refine ⟨h.m1, h.m2, h.t1, (frontK_len l).trans h.k4, frontK_nodup hl' h.nd, fun x hx => ?_, ?_⟩
  · rcases (mem_frontK hl').1 hx with rfl | hx
    · exact hk
    · exact h.ks x hx
  · show (frontK a.K l k).flatten.length ≤ 2 * a.most
    by_cases hm : k ∈ a.K.flatten
    · rw [frontK_flen_old hl' h.nd hm]; exact h.all1
    · rw [frontK_flen_new hl' hm]; rcases hr with hr | hr
      · exact absurd hr hm
      · omega
theorem Ok.drop (h : a.Ok) : (a.drop k).Ok := by
  refine ⟨h.m1, h.m2, h.t1, dropK_len.trans h.k4, dropK_nodup h.nd, fun x hx => h.ks x (mem_dropK.1 hx).1, ?_⟩
  show (dropK a.K k).flatten.length ≤ 2 * a.most
  by_cases hm : k ∈ a.K.flatten
  · have := dropK_flen h.nd hm; have := h.all1; omega
  · rw [dropK_self hm]; exact h.all1
theorem Ok.n_front (h : a.Ok) {l m : Nat} (hl : l < 4) (hm : k ∈ a.K.getD m []) (j : Nat) : (a.front l k).n j + (if j = m then 1 else 0) = a.n j + (if j = l then 1 else 0) :=
  frontK_n (by rw [h.k4]; exact hl) h.nd hm j
theorem Ok.n_new (h : a.Ok) {l : Nat} (hl : l < 4) (hm : k ∉ a.K.flatten) (j : Nat) : (a.front l k).n j = a.n j + (if j = l then 1 else 0) :=
  frontK_n_new (by rw [h.k4]; exact hl) hm j
theorem Ok.n_drop (h : a.Ok) {m : Nat} (hm : k ∈ a.K.getD m []) (j : Nat) : (a.drop k).n j + (if j = m then 1 else 0) = a.n j := dropK_n h.nd hm j
theorem Ok.drop_no (hm : k ∉ a.K.flatten) : a.drop k = a := by show ({ a with K := dropK a.K k } : Arc) = a; rw [dropK_self hm]
theorem Ok.which (h : a.Ok) {l : Nat} (hw : whichK a.K k = some l) (h0 : a.has k = false) : k ∈ a.K.getD l [] ∧ (l = 2 ∨ l = 3) := by
  have hm := which_mem hw
  have hl := h.getD_lt hm
  refine ⟨hm, ?_⟩
  simp only [has, decide_eq_false_iff_not, not_or] at h0
  rcases Nat.lt_or_ge l 1 with h1 | h1
  · have : l = 0 := by omega
    subst this; exact absurd hm h0.1
  · rcases Nat.lt_or_ge l 2 with h2 | h2
    · have : l = 1 := by omega
      subst this; exact absurd hm h0.2
    · omega
theorem has_iff : a.has k = true ↔ k ∈ a.K.getD 0 [] ∨ k ∈ a.K.getD 1 [] := by simp only [has, decide_eq_true_eq]
theorem n_last {j : Nat} (h : (a.K.getD j []).getLast? = none) : a.n j = 0 := by
  unfold n; rw [List.getLast?_eq_none_iff.1 h]; rfl
theorem n_pos {j : Nat} (h : k ∈ a.K.getD j []) : 0 < a.n j := List.length_pos_of_mem h

/-- what a move from one list to another one leaves -/
theorem Ok.move (h : a.Ok) {i j : Nat} (hi : i < 4) (hj : j < 4) : (a.move i j).1.Ok ∧ (a.move i j).1.most = a.most ∧ (a.move i j).1.target = a.target ∧
    (a.n i = 0 ∧ (a.move i j).1 = a ∨ ∀ m, (a.move i j).1.n m + (if m = i then 1 else 0) = a.n m + (if m = j then 1 else 0)) ∧ (∀ x, x ∈ (a.move i j).1.K.flatten ↔ x ∈ a.K.flatten) ∧ ∀ k ∈ (a.move i j).2, k ∈ a.K.getD i [] := by
  unfold Arc.move
  cases hx : (a.K.getD i []).getLast? with
  | none => exact ⟨h, rfl, rfl, .inl ⟨n_last hx, rfl⟩, fun _ => .rfl, by simp⟩
  | some x =>
    have hm := getLast_mem hx
    have hf := mem_flatten_getD hm
    refine ⟨h.front hj (h.ks x hf) (.inl hf), rfl, rfl, .inr fun m => h.n_front hj hm m, fun y => ?_, by simpa using hm⟩
    show y ∈ (frontK a.K j x).flatten ↔ _
    rw [mem_frontK (by rw [h.k4]; exact hj)]
    exact ⟨fun e => e.elim (fun e => e ▸ hf) id, .inr⟩
theorem move_which (h : a.Ok) {i j : Nat} (hj : j < 4) (hk : k ∉ a.K.getD i []) {m : Nat} (hm : k ∈ a.K.getD m []) : k ∈ (a.move i j).1.K.getD m [] := by
  unfold Arc.move
  cases hx : (a.K.getD i []).getLast? with
  | none => exact hm
  | some x =>
    have hne : k ≠ x := fun e => hk (e ▸ getLast_mem hx)
    show k ∈ (frontK a.K j x).getD m []
    rw [frontK_getD (by rw [h.k4]; exact hj)]
    have : k ∈ (a.K.getD m []).filter fun y => decide (y ≠ x) := List.mem_filter.2 ⟨hm, by simpa using hne⟩
    split
    · exact .tail _ this
    · exact this
/-- what making room leaves -/
theorem Ok.room (h : a.Ok) (h01 : a.n 0 + a.n 1 ≤ a.most) (wanted : Bool) : (a.room wanted).1.Ok ∧ (a.room wanted).1.most = a.most ∧ (a.room wanted).1.n 0 + (a.room wanted).1.n 1 < a.most ∧
    (a.room wanted).1.n 0 + (a.room wanted).1.n 2 = a.n 0 + a.n 2 ∧ (a.room wanted).1.K.flatten.length = a.K.flatten.length ∧ (∀ x, x ∈ (a.room wanted).1.K.flatten ↔ x ∈ a.K.flatten) ∧
    (∀ m, k ∈ a.K.getD m [] → 2 ≤ m → k ∈ (a.room wanted).1.K.getD m []) ∧ (∀ k ∈ (a.room wanted).2, a.has k = true) := by
  have hm1 := h.m1
  unfold Arc.room Arc.len
  by_cases hl : a.most ≤ a.n 0 + a.n 1
  · rw [if_pos hl]
    have stay : ∀ {i m : Nat}, i < 2 → 2 ≤ m → k ∈ a.K.getD m [] → k ∉ a.K.getD i [] := fun hi hm hk hk' => by have := flatten_apart h.nd hk hk'; omega
    unfold Arc.replace
    by_cases hf : a.fromOnce wanted = true
    · rw [if_pos hf]
      have h0 : 0 < a.n 0 := by simp only [fromOnce, Bool.and_eq_true, decide_eq_true_eq] at hf; exact hf.1
      obtain ⟨e1, e2, e3, e4, e5, e6⟩ := h.move (i := 0) (j := 2) (by omega) (by omega)
      have e4 := e4.resolve_left (by omega)
      have a0 := e4 0; have a1 := e4 1; have a2 := e4 2; have a3 := e4 3
      simp at a0 a1 a2 a3
      have f1 := e1.flen; have f2 := h.flen
      exact ⟨e1, e2, by omega, by omega, by omega, e5, fun m hm h2 => move_which h (by omega) (stay (by omega) h2 hm) hm, fun k hk => has_iff.2 (.inl (e6 k hk))⟩
    · rw [if_neg hf]
      have h0 : 0 < a.n 1 := by
        rcases Nat.eq_zero_or_pos (a.n 1) with h1 | h1
        · exfalso; apply hf
          have : 0 < a.n 0 := by omega
          simp [fromOnce, h1, this]
        · exact h1
      obtain ⟨e1, e2, e3, e4, e5, e6⟩ := h.move (i := 1) (j := 3) (by omega) (by omega)
      have e4 := e4.resolve_left (by omega)
      have a0 := e4 0; have a1 := e4 1; have a2 := e4 2; have a3 := e4 3
      simp at a0 a1 a2 a3
      have f1 := e1.flen; have f2 := h.flen
      exact ⟨e1, e2, by omega, by omega, by omega, e5, fun m hm h2 => move_which h (by omega) (stay (by omega) h2 hm) hm, fun k hk => has_iff.2 (.inr (e6 k hk))⟩
  · rw [if_neg hl]
    exact ⟨h, rfl, by show a.n 0 + a.n 1 < a.most; omega, rfl, rfl, fun _ => .rfl, fun m hm _ => hm, by simp⟩
theorem Ok.forget (h : a.Ok) {l : Nat} : (a.forget l).Ok ∧ (a.forget l).most = a.most ∧ (∀ x, x ∈ (a.forget l).K.flatten → x ∈ a.K.flatten) ∧
    (∀ j, (a.forget l).n j = a.n j - (if j = l then 1 else 0)) ∧ (∀ j, j ≠ l → (a.forget l).K.getD j [] = a.K.getD j []) := by
  unfold Arc.forget
  cases hx : (a.K.getD l []).getLast? with
  | none => exact ⟨h, rfl, fun _ h => h, fun j => by
      have := n_last hx
      show a.n j = _
      by_cases hj : j = l
      · subst hj; rw [if_pos rfl]; omega
      · rw [if_neg hj]; rfl, fun _ _ => rfl⟩
  | some x =>
    have hm := getLast_mem hx
    refine ⟨h.drop, rfl, fun y hy => (mem_dropK.1 hy).1, fun j => ?_, fun j hj => ?_⟩
    · have := h.n_drop hm j; show (a.drop x).n j = _; omega
    · show (dropK a.K x).getD j [] = _
      rw [dropK_getD, filter_ne_self]
      intro hx'; exact hj (flatten_apart h.nd hx' hm)
theorem Ok.setTarget (h : a.Ok) {t : Nat} (ht : t ≤ a.most) : ({ a with target := t } : Arc).Ok := ⟨h.m1, h.m2, ht, h.k4, h.nd, h.ks, h.all1⟩
theorem Ok.aim (h : a.Ok) (l : Nat) : (a.aim l).Ok ∧ (a.aim l).K = a.K ∧ (a.aim l).most = a.most := by
  unfold Arc.aim
  split
  · exact ⟨h.setTarget (Nat.min_le_left _ _), rfl, rfl⟩
  · exact ⟨h.setTarget (by have := h.t1; omega), rfl, rfl⟩
theorem has_false (h : a.has k = false) : k ∉ a.K.getD 0 [] ∧ k ∉ a.K.getD 1 [] := by
  simpa only [has, decide_eq_false_iff_not, not_or] using h
theorem Inv.again (h : a.Inv) {l : Nat} (h0 : a.has k = false) (hk : k ∈ a.K.getD l []) (hl : l = 2 ∨ l = 3) : (a.again k l).1.Inv ∧ (a.again k l).1.most = a.most ∧ ∀ x ∈ (a.again k l).2, a.has x = true := by
  unfold Arc.again
  generalize hwb : decide (l = 3) = wb
  obtain ⟨o1, o2, o3⟩ := h.toOk.aim l
  have hn : ∀ j, (a.aim l).n j = a.n j := fun j => by unfold n; rw [o2]
  obtain ⟨e1, e2, e3, e4, e5, e6, e7, e8⟩ := o1.room (k := k) (by rw [hn, hn, o3]; exact h.n01) wb
  have hk' := e7 l (by rw [o2]; exact hk) (by omega)
  have f := fun j => e1.n_front (l := 1) (by omega) hk' j
  have f0 := f 0; have f1 := f 1; have f2 := f 2; have f3 := f 3
  have hks : k.length ≤ 64 := h.ks k (mem_flatten_getD hk)
  have hh := h.n02
  rw [hn, hn] at e4
  rw [o3] at e2 e3
  refine ⟨⟨e1.front (by omega) hks (.inl (mem_flatten_getD hk')), ?_, ?_⟩, ?_, ?_⟩
  · show (((a.aim l).room wb).1.front 1 k).n 0 + (((a.aim l).room wb).1.front 1 k).n 1 ≤ ((a.aim l).room wb).1.most
    rcases hl with rfl | rfl <;> simp at f0 f1 <;> omega
  · show (((a.aim l).room wb).1.front 1 k).n 0 + (((a.aim l).room wb).1.front 1 k).n 2 ≤ ((a.aim l).room wb).1.most
    rcases hl with rfl | rfl <;> simp at f0 f2 <;> omega
  · exact e2
  · intro x hx
    have := e8 x hx
    rw [has_iff, o2] at this
    exact has_iff.2 this
theorem Inv.fresh (h : a.Inv) (hk : k ∉ a.K.flatten) : a.fresh.1.Ok ∧ a.fresh.1.most = a.most ∧ k ∉ a.fresh.1.K.flatten ∧ a.fresh.1.n 0 + a.fresh.1.n 1 < a.most ∧ a.fresh.1.n 0 + a.fresh.1.n 2 < a.most ∧ a.fresh.1.K.flatten.length < 2 * a.most ∧ ∀ x ∈ a.fresh.2, a.has x = true := by
  have hf := h.toOk.flen
  have h1 := h.n01; have h2 := h.n02; have hm1 := h.m1; have ha := h.all1
  have hx4 : a.all = a.K.flatten.length := by unfold all; omega
  unfold Arc.fresh
  rw [hx4]
  by_cases c1 : a.most ≤ a.n 0 + a.n 2
  · rw [if_pos c1]
    by_cases c2 : a.n 0 < a.most
    · rw [if_pos c2]
      obtain ⟨g1, g2, g3, g4, g5⟩ := h.toOk.forget (l := 2)
      have b0 := g4 0; have b1 := g4 1; have b2 := g4 2; have b3 := g4 3
      simp at b0 b1 b2 b3
      obtain ⟨e1, e2, e3, e4, e5, e6, e7, e8⟩ := g1.room (k := k) (by omega) false
      have gf := g1.flen
      refine ⟨e1, by omega, fun hx => hk (g3 _ ((e6 _).1 hx)), by omega, by omega, by omega, fun x hx => ?_⟩
      have := has_iff.1 (e8 x hx)
      rw [g5 0 (by omega), g5 1 (by omega)] at this
      exact has_iff.2 this
    · rw [if_neg c2]
      cases hx : (a.K.getD 0 []).getLast? with
      | none => have := n_last hx; omega
      | some x =>
        have hm := getLast_mem hx
        have f := fun j => h.toOk.n_drop hm j
        have f0 := f 0; have f1 := f 1; have f2 := f 2; have f3 := f 3
        simp at f0 f1 f2 f3
        have o := h.toOk.drop (k := x)
        have of := o.flen
        refine ⟨o, rfl, fun hx => hk (mem_dropK.1 hx).1, ?_, ?_, ?_, by simpa using has_iff.2 (.inl hm)⟩
        · show (a.drop x).n 0 + (a.drop x).n 1 < a.most; omega
        · show (a.drop x).n 0 + (a.drop x).n 2 < a.most; omega
        · show (a.drop x).K.flatten.length < 2 * a.most; omega
  · rw [if_neg c1]
    by_cases c3 : a.most ≤ a.K.flatten.length
    · rw [if_pos c3]
      by_cases c4 : 2 * a.most ≤ a.K.flatten.length
      · rw [if_pos c4]
        obtain ⟨g1, g2, g3, g4, g5⟩ := h.toOk.forget (l := 3)
        have b0 := g4 0; have b1 := g4 1; have b2 := g4 2; have b3 := g4 3
        simp at b0 b1 b2 b3
        obtain ⟨e1, e2, e3, e4, e5, e6, e7, e8⟩ := g1.room (k := k) (by omega) false
        have gf := g1.flen
        refine ⟨e1, by omega, fun hx => hk (g3 _ ((e6 _).1 hx)), by omega, by omega, by omega, fun x hx => ?_⟩
        have := has_iff.1 (e8 x hx)
        rw [g5 0 (by omega), g5 1 (by omega)] at this
        exact has_iff.2 this
      · rw [if_neg c4]
        obtain ⟨e1, e2, e3, e4, e5, e6, e7, e8⟩ := h.toOk.room (k := k) (by omega) false
        exact ⟨e1, by omega, fun hx => hk ((e6 _).1 hx), by omega, by omega, by omega, e8⟩
    · rw [if_neg c3]
      refine ⟨h.toOk, rfl, hk, ?_, ?_, ?_, by simp⟩
      · show a.n 0 + a.n 1 < a.most; omega
      · show a.n 0 + a.n 2 < a.most; omega
      · show a.K.flatten.length < 2 * a.most; omega
theorem Inv.touch1 (h : a.Inv) (hk : a.has k = true) : (a.front 1 k).Inv := by
  rcases has_iff.1 hk with hm | hm
  all_goals
    have f := fun j => h.toOk.n_front (l := 1) (by omega) hm j
    have f0 := f 0; have f1 := f 1; have f2 := f 2
    simp at f0 f1 f2
    have h1 := h.n01; have h2 := h.n02
    have hf := mem_flatten_getD hm
    refine ⟨h.toOk.front (by omega) (h.ks k hf) (.inl hf), ?_, ?_⟩
    · show (a.front 1 k).n 0 + (a.front 1 k).n 1 ≤ a.most; omega
    · show (a.front 1 k).n 0 + (a.front 1 k).n 2 ≤ a.most; omega
theorem Inv.touch (h : a.Inv) : (a.touch k).Inv := by
  unfold Arc.touch
  by_cases hk : a.has k = true
  · rw [if_pos hk]; exact h.touch1 hk
  · rw [if_neg hk]; exact h
theorem Inv.insert (h : a.Inv) : (a.insert k).1.Inv := by
  unfold Arc.insert
  split
  · exact h
  · rename_i hlen
    split
    · rename_i hk; exact h.touch1 hk
    · rename_i hk
      have hk : a.has k = false := by simpa using hk
      split
      · rename_i l hw
        obtain ⟨hm, hl⟩ := h.toOk.which hw hk
        exact (h.again hk hm hl).1
      · rename_i hw
        have hw := which_isNone.1 hw
        obtain ⟨e1, e2, e3, e4, e5, e6, e7⟩ := h.fresh hw
        have f := fun j => e1.n_new (l := 0) (by omega) e3 j
        have f0 := f 0; have f1 := f 1; have f2 := f 2
        simp at f0 f1 f2
        refine ⟨e1.front (by omega) (by omega) (.inr (by omega)), ?_, ?_⟩
        · show (a.fresh.1.front 0 k).n 0 + (a.fresh.1.front 0 k).n 1 ≤ a.fresh.1.most; omega
        · show (a.fresh.1.front 0 k).n 0 + (a.fresh.1.front 0 k).n 2 ≤ a.fresh.1.most; omega
theorem Inv.drop (h : a.Inv) : (a.drop k).Inv := by
  by_cases hm : k ∈ a.K.flatten
  · obtain ⟨m, _, hm⟩ := flatten_getD hm
    have f := fun j => h.toOk.n_drop hm j
    have f0 := f 0; have f1 := f 1; have f2 := f 2
    have h1 := h.n01; have h2 := h.n02
    refine ⟨h.toOk.drop, ?_, ?_⟩
    · show (a.drop k).n 0 + (a.drop k).n 1 ≤ a.most; omega
    · show (a.drop k).n 0 + (a.drop k).n 2 ≤ a.most; omega
  · rw [Ok.drop_no hm]; exact h
theorem Inv.replace (h : a.Inv) (hl : a.len ≠ 0) : (a.replace false).1.Inv := by
  unfold Arc.replace
  unfold Arc.len at hl
  have h1 := h.n01; have h2 := h.n02
  by_cases hf : a.fromOnce false = true
  · rw [if_pos hf]
    obtain ⟨e1, e2, e3, e4, e5, e6⟩ := h.toOk.move (i := 0) (j := 2) (by omega) (by omega)
    rcases e4 with ⟨_, e⟩ | e4
    · rw [e]; exact h
    have a0 := e4 0; have a1 := e4 1; have a2 := e4 2
    simp at a0 a1 a2
    exact ⟨e1, by omega, by omega⟩
  · rw [if_neg hf]
    obtain ⟨e1, e2, e3, e4, e5, e6⟩ := h.toOk.move (i := 1) (j := 3) (by omega) (by omega)
    rcases e4 with ⟨_, e⟩ | e4
    · rw [e]; exact h
    have a0 := e4 0; have a1 := e4 1; have a2 := e4 2
    simp at a0 a1 a2
    exact ⟨e1, by omega, by omega⟩
theorem replace_some (hl : a.len ≠ 0) : ∃ k, (a.replace false).2 = [k] := by
  unfold Arc.replace Arc.len at *
  by_cases hf : a.fromOnce false = true
  · rw [if_pos hf]
    have h0 : 0 < a.n 0 := by simp only [fromOnce, Bool.and_eq_true, decide_eq_true_eq] at hf; exact hf.1
    unfold Arc.move
    cases hx : (a.K.getD 0 []).getLast? with
    | none => have := n_last hx; omega
    | some k => exact ⟨k, rfl⟩
  · rw [if_neg hf]
    have h0 : 0 < a.n 1 := by
      rcases Nat.eq_zero_or_pos (a.n 1) with h1 | h1
      · exfalso; apply hf
        have : 0 < a.n 0 := by omega
        simp [fromOnce, h1, this]
      · exact h1
    unfold Arc.move
    cases hx : (a.K.getD 1 []).getLast? with
    | none => have := n_last hx; omega
    | some k => exact ⟨k, rfl⟩
theorem Inv.new {most : Nat} (h1 : 1 ≤ most) (h2 : most ≤ 1000) : ({ most := most, target := 0, K := List.replicate 4 [] } : Arc).Inv := by
  refine ⟨⟨h1, h2, Nat.zero_le _, rfl, ?_, ?_, ?_⟩, ?_, ?_⟩ <;> simp [n, List.replicate]
end Arc
end Go.Hw
