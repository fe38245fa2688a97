/- Regions that draw their order: one canonical order is enough. -/
import Derived.Test.YteoplijfofohkaaGreatSat
namespace Go.Sx
open Go
variable [Env]
section
variable {P : Program} {ops : Array Oper} {Q : Exit → Act → World → Prop}

def ancB (ops : Array Oper) : Nat → Nat → Nat → Bool
  | 0, _, _ => false
  | f + 1, j, i => match ops[j]? with
    | none => false
    | some o => o.after.any fun e => Region.binds .any e && (e.on == i || ancB ops f e.on i)
def Ideal (ops : Array Oper) (listed : Array Bool) : Prop :=
  ∀ j o, ops[j]? = some o → listed.getD j false = true → ∀ e ∈ o.after, Region.binds .any e = true → listed.getD e.on false = true
omit [Env] in
theorem getD_set {l : Array Bool} {i k : Nat} {b : Bool} (h : (l.setIfInBounds i true).getD k b = true) : l.getD k b = true ∨ k = i := by
  by_cases hk : i = k
  · exact .inr hk.symm
  · refine .inl ?_
    simpa [Array.getD_eq_getD_getElem?, Array.getElem?_setIfInBounds, hk] using h
omit [Env] in
theorem getD_set_of {l : Array Bool} {i k : Nat} (h : l.getD k false = true) : (l.setIfInBounds i true).getD k false = true := by
  rw [Array.getD_eq_getD_getElem?] at *
  rw [Array.getElem?_setIfInBounds]
  split
  · rename_i e; subst e
    split
    · simp
    · rename_i hlt; simp [Array.getElem?_eq_none (Nat.le_of_not_lt hlt)] at h
  · exact h
omit [Env] in
theorem Ideal.start {n : Nat} : Ideal ops (Array.replicate n false) := fun j o _ h => by
  rw [Array.getD_eq_getD_getElem?, Array.getElem?_replicate] at h
  split at h <;> simp at h
omit [Env] in
theorem Ideal.step {listed : Array Bool} {i : Nat} (h : Ideal ops listed) (hr : i ∈ Region.ready .any ops listed) : Ideal ops (listed.setIfInBounds i true) := fun j o ho hl e he hb => by
  rcases getD_set hl with h1 | rfl
  · exact getD_set_of (h j o ho h1 e he hb)
  · obtain ⟨_, o', ho', hall⟩ := mem_ready.1 hr
    rw [ho] at ho'; cases ho'
    exact getD_set_of (hall e he hb)
omit [Env] in
theorem Ideal.anc {listed : Array Bool} (h : Ideal ops listed) : ∀ (f j i : Nat), listed.getD j false = true → ancB ops f j i = true → listed.getD i false = true
  | 0, _, _, _, ha => by simp [ancB] at ha
  | f + 1, j, i, hj, ha => by
    unfold ancB at ha
    cases ho : ops[j]? with
    | none => simp [ho] at ha
    | some o =>
      simp only [ho, ← Array.any_toList, List.any_eq_true, Bool.and_eq_true, Bool.or_eq_true, beq_iff_eq, Array.mem_toList_iff] at ha
      obtain ⟨e, he, hb, h1⟩ := ha
      have := h j o ho hj e he hb
      rcases h1 with rfl | h1
      · exact this
      · exact h.anc f e.on i this h1
omit [Env] in
theorem Ideal.anc_ready {listed : Array Bool} (h : Ideal ops listed) {f j i : Nat} (hr : j ∈ Region.ready .any ops listed) (ha : ancB ops f j i = true) : listed.getD i false = true := by
  obtain ⟨_, o, ho, hall⟩ := mem_ready.1 hr
  cases f with
  | zero => simp [ancB] at ha
  | succ f =>
    unfold ancB at ha
    simp only [ho, ← Array.any_toList, List.any_eq_true, Bool.and_eq_true, Bool.or_eq_true, beq_iff_eq, Array.mem_toList_iff] at ha
    obtain ⟨e, he, hb, h1⟩ := ha
    have := hall e he hb
    rcases h1 with rfl | h1
    · exact this
    · exact h.anc f e.on i this h1

/-- Whatever order is picked; what the world is held to be turns at a barrier. -/
def wpR (P : Program) (ops : Array Oper) (Q : Exit → Act → World → Prop) (isB : Nat → Bool) : Nat → Array Bool → (World → Prop) → Act → World → Prop
  | 0, listed, _, a, w => Region.ready .any ops listed = [] ∧ Q .normal a w
  | fuel + 1, listed, S, a, w =>
    (Region.ready .any ops listed = [] → Q .normal a w) ∧
    ∀ i ∈ Region.ready .any ops listed, wpOp P ops Q i (fun a' w' => if isB i = true then ∃ S' : World → Prop, S' w' ∧ wpR P ops Q isB fuel (listed.setIfInBounds i true) S' a' w' else S w' ∧ wpR P ops Q isB fuel (listed.setIfInBounds i true) S a' w') a w
omit [Env] in
theorem wpAny_of_R {isB : Nat → Bool} : ∀ (fuel : Nat) (listed : Array Bool) (S : World → Prop) (a : Act) (w : World), wpR P ops Q isB fuel listed S a w → wpAny P .any ops Q fuel listed a w
  | 0, _, _, _, _, h => h
  | fuel + 1, _, _, _, _, h => ⟨h.1, fun i hi => wpOp_mono (fun a' w' h' => by
      split at h'
      · obtain ⟨S', _, h'⟩ := h'; exact wpAny_of_R fuel _ _ a' w' h'
      · exact wpAny_of_R fuel _ _ a' w' h'.2) (h.2 i hi)⟩

omit [Env] in
theorem wpR_first {isB : Nat → Bool} {F i : Nat} {oi : Oper} {v : Value} (hi : ops[i]? = some oi) (hnb : isB i = false) (hsel : ∀ (j : Nat) (o : Oper) cs b, ops[j]? = some o → o.op ≠ .select cs b)
    (hQ : ∀ c a w, Q (.panic c) (a.put oi.dst v) w → Q (.panic c) a w) :
    ∀ (fuel : Nat) (listed : Array Bool) (S : World → Prop) (a : Act) (w : World),
      (∀ j oj, ops[j]? = some oj → j ≠ i → listed.getD j true = false → (∀ e ∈ oj.after, Region.binds .any e = true → e.on ≠ i) → oi.apart ops oj = true) →
      i ∈ Region.ready .any ops listed → (∀ j, isB j = true → listed.getD j true = false → ancB ops F j i = true) → Ideal ops listed → YieldsIf P ops S oi v a → S w →
      wpR P ops Q isB fuel (listed.setIfInBounds i true) S (a.put oi.dst v) w → wpR P ops Q isB (fuel + 1) listed S a w := by
  intro fuel
  induction fuel with
  | zero =>
    intro listed S a w _ hr hb hid hy hS H
    refine ⟨fun h => (by rw [h] at hr; cases hr), fun j hj => ?_⟩
    by_cases hji : j = i
    · subst hji; exact hy.wpOp hi hS (by rw [if_neg (by simp [hnb])]; exact ⟨hS, H⟩)
    · have := ready_mono hj hji
      rw [H.1] at this
      cases this
  | succ fuel ih =>
    intro listed S a w hfree hr hb hid hy hS H
    refine ⟨fun h => (by rw [h] at hr; cases hr), fun j hj => ?_⟩
    by_cases hji : j = i
    · subst hji; exact hy.wpOp hi hS (by rw [if_neg (by simp [hnb])]; exact ⟨hS, H⟩)
    · have hiun : listed.getD i false = false := by
        have := (mem_ready.1 hr).1
        rw [Array.getD_eq_getD_getElem?] at this ⊢
        cases hg : listed[i]? with
        | none => rfl
        | some x => rw [hg] at this; exact this
      have hjB : isB j = false := by
        cases hjb : isB j with
        | false => rfl
        | true =>
          have := hid.anc_ready hj (hb j hjb (mem_ready.1 hj).1)
          rw [hiun] at this; cases this
      have h1 := H.2 j (ready_mono hj hji)
      obtain ⟨hjun, oj, hoj, hall⟩ := mem_ready.1 hj
      have hnot : ∀ e ∈ oj.after, Region.binds .any e = true → e.on ≠ i := fun e he hbb heq => by
        have h1 := hall e he hbb
        rw [heq, hiun] at h1; cases h1
      have h2 := wpOp_putIf hoj (hfree j oj hoj hji hjun hnot) (fun cs b => hsel i oi cs b hi) (fun cs b => hsel j oj cs b hoj) hQ hy h1
      have hfree' : ∀ k ok, ops[k]? = some ok → k ≠ i → (listed.setIfInBounds j true).getD k true = false →
          (∀ e ∈ ok.after, Region.binds .any e = true → e.on ≠ i) → oi.apart ops ok = true := fun k ok hk hki hun hno => by
        refine hfree k ok hk hki ?_ hno
        by_cases hjk : j = k
        · subst hjk; exact hjun
        · rw [getD_set_ne true hjk] at hun; exact hun
      have hb' : ∀ k, isB k = true → (listed.setIfInBounds j true).getD k true = false → ancB ops F k i = true := fun k hk hun => by
        refine hb k hk ?_
        by_cases hjk : j = k
        · subst hjk; exact hjun
        · rw [getD_set_ne true hjk] at hun; exact hun
      refine wpOp_mono (fun a' w' h3 => ?_) h2
      rw [if_neg (by simp [hjB])]
      obtain ⟨hy', h3⟩ := h3
      rw [if_neg (by simp [hjB])] at h3
      refine ⟨h3.1, ih (listed.setIfInBounds j true) S a' w' hfree' (ready_mono hr (Ne.symm hji)) hb' (hid.step hj) hy' h3.1 ?_⟩
      rw [Array.setIfInBounds_comm _ _ hji]
      exact h3.2

omit [Env] in
theorem wpR_pure {isB : Nat → Bool} {i : Nat} {oi : Oper} {v : Value} (hi : ops[i]? = some oi) (hnb : isB i = false) (hsel : ∀ (j : Nat) (o : Oper) cs b, ops[j]? = some o → o.op ≠ .select cs b)
    (hQ : ∀ c a w, Q (.panic c) (a.put oi.dst v) w → Q (.panic c) a w) :
    ∀ (fuel : Nat) (listed : Array Bool) (S : World → Prop) (a : Act) (w : World),
      (∀ j oj, ops[j]? = some oj → j ≠ i → listed.getD j true = false → (∀ e ∈ oj.after, Region.binds .any e = true → e.on ≠ i) → oi.apart ops oj = true) →
      i ∈ Region.ready .any ops listed → YieldsIf P ops (fun _ => True) oi v a → S w →
      wpR P ops Q isB fuel (listed.setIfInBounds i true) S (a.put oi.dst v) w → wpR P ops Q isB (fuel + 1) listed S a w := by
  intro fuel
  induction fuel with
  | zero =>
    intro listed S a w _ hr hy hS H
    refine ⟨fun h => (by rw [h] at hr; cases hr), fun j hj => ?_⟩
    by_cases hji : j = i
    · subst hji; exact hy.wpOp hi trivial (by rw [if_neg (by simp [hnb])]; exact ⟨hS, H⟩)
    · have := ready_mono hj hji
      rw [H.1] at this
      cases this
  | succ fuel ih =>
    intro listed S a w hfree hr hy hS H
    refine ⟨fun h => (by rw [h] at hr; cases hr), fun j hj => ?_⟩
    by_cases hji : j = i
    · subst hji; exact hy.wpOp hi trivial (by rw [if_neg (by simp [hnb])]; exact ⟨hS, H⟩)
    · have hiun : listed.getD i false = false := by
        have := (mem_ready.1 hr).1
        rw [Array.getD_eq_getD_getElem?] at this ⊢
        cases hg : listed[i]? with
        | none => rfl
        | some x => rw [hg] at this; exact this
      have h1 := H.2 j (ready_mono hj hji)
      obtain ⟨hjun, oj, hoj, hall⟩ := mem_ready.1 hj
      have hnot : ∀ e ∈ oj.after, Region.binds .any e = true → e.on ≠ i := fun e he hbb heq => by
        have h1 := hall e he hbb
        rw [heq, hiun] at h1; cases h1
      have h2 := wpOp_putIf hoj (hfree j oj hoj hji hjun hnot) (fun cs b => hsel i oi cs b hi) (fun cs b => hsel j oj cs b hoj) hQ hy h1
      have hfree' : ∀ k ok, ops[k]? = some ok → k ≠ i → (listed.setIfInBounds j true).getD k true = false →
          (∀ e ∈ ok.after, Region.binds .any e = true → e.on ≠ i) → oi.apart ops ok = true := fun k ok hk hki hun hno => by
        refine hfree k ok hk hki ?_ hno
        by_cases hjk : j = k
        · subst hjk; exact hjun
        · rw [getD_set_ne true hjk] at hun; exact hun
      refine wpOp_mono (fun a' w' h3 => ?_) h2
      obtain ⟨hy', h3⟩ := h3
      cases hjB : isB j with
      | true =>
        rw [if_pos rfl]
        rw [if_pos hjB] at h3
        obtain ⟨S', hS', h3⟩ := h3
        refine ⟨S', hS', ih (listed.setIfInBounds j true) S' a' w' hfree' (ready_mono hr (Ne.symm hji)) hy' hS' ?_⟩
        rw [Array.setIfInBounds_comm _ _ hji]
        exact h3
      | false =>
        rw [if_neg (by simp)]
        rw [if_neg (by simp [hjB])] at h3
        refine ⟨h3.1, ih (listed.setIfInBounds j true) S a' w' hfree' (ready_mono hr (Ne.symm hji)) hy' h3.1 ?_⟩
        rw [Array.setIfInBounds_comm _ _ hji]
        exact h3.2

/-- Orders that are enough: one by one (place, kind): 0: its value is the same in every world of S: it may be taken first; 1: it leaves S as it is; 2: a barrier: all that was taken by 0 is ahead of it by the edges; 3: its value is the same in whatever world. two, three: so many may come up, that leave S as it is: one way for each. -/
inductive Tr where
  | nil
  | one (i k : Nat) (r : Tr)
  | two (i : Nat) (r : Tr) (j : Nat) (q : Tr)
  | three (i : Nat) (r : Tr) (j : Nat) (q : Tr) (k : Nat) (p : Tr)
def Tr.depth : Tr → Nat
  | .nil => 0
  | .one _ _ r => r.depth + 1
  | .two _ r _ q => max r.depth q.depth + 1
  | .three _ r _ q _ p => max r.depth (max q.depth p.depth) + 1
def chkS (ops : Array Oper) (bs : List Nat) : Tr → Array Bool → Bool
  | .nil, listed => (Region.ready .any ops listed).isEmpty
  | .one i 0 r, listed => !bs.contains i && (Region.ready .any ops listed).contains i && Region.free .any ops listed i && (bs.all fun j => listed.getD j true || ancB ops ops.size j i) && chkS ops bs r (listed.setIfInBounds i true)
  | .one i 1 r, listed => !bs.contains i && (Region.ready .any ops listed) == [i] && chkS ops bs r (listed.setIfInBounds i true)
  | .one i 2 r, listed => bs.contains i && (Region.ready .any ops listed) == [i] && chkS ops bs r (listed.setIfInBounds i true)
  | .one i (_ + 3) r, listed => !bs.contains i && (Region.ready .any ops listed).contains i && Region.free .any ops listed i && chkS ops bs r (listed.setIfInBounds i true)
  | .two i r j q, listed => !bs.contains i && !bs.contains j && (Region.ready .any ops listed) == [i, j] && chkS ops bs r (listed.setIfInBounds i true) && chkS ops bs q (listed.setIfInBounds j true)
  | .three i r j q k p, listed => !bs.contains i && !bs.contains j && !bs.contains k && (Region.ready .any ops listed) == [i, j, k] && chkS ops bs r (listed.setIfInBounds i true) && chkS ops bs q (listed.setIfInBounds j true) && chkS ops bs p (listed.setIfInBounds k true)
def wpS (P : Program) (ops : Array Oper) (Q : Exit → Act → World → Prop) : Tr → (World → Prop) → Act → World → Prop
  | .nil, _, a, w => Q .normal a w
  | .one i 0 r, S, a, w => ∃ o v, ops[i]? = some o ∧ YieldsIf P ops S o v a ∧ wpS P ops Q r S (a.put o.dst v) w
  | .one i 1 r, S, a, w => wpOp P ops Q i (fun a' w' => S w' ∧ wpS P ops Q r S a' w') a w
  | .one i 2 r, _, a, w => wpOp P ops Q i (fun a' w' => ∃ S' : World → Prop, S' w' ∧ wpS P ops Q r S' a' w') a w
  | .one i (_ + 3) r, S, a, w => ∃ o v, ops[i]? = some o ∧ YieldsIf P ops (fun _ => True) o v a ∧ wpS P ops Q r S (a.put o.dst v) w
  | .two i r j q, S, a, w => wpOp P ops Q i (fun a' w' => S w' ∧ wpS P ops Q r S a' w') a w ∧ wpOp P ops Q j (fun a' w' => S w' ∧ wpS P ops Q q S a' w') a w
  | .three i r j q k p, S, a, w => wpOp P ops Q i (fun a' w' => S w' ∧ wpS P ops Q r S a' w') a w ∧ wpOp P ops Q j (fun a' w' => S w' ∧ wpS P ops Q q S a' w') a w ∧ wpOp P ops Q k (fun a' w' => S w' ∧ wpS P ops Q p S a' w') a w
omit [Env] in
theorem wpS_sound (bs : List Nat) (hs : Region.noSelect ops = true) (hQ : ∀ d v c a w, Q (.panic c) (a.put d v) w → Q (.panic c) a w) : ∀ (l : Tr) (fuel : Nat) (listed : Array Bool) (S : World → Prop) (a : Act) (w : World), l.depth ≤ fuel →
    chkS ops bs l listed = true → Ideal ops listed → S w → wpS P ops Q l S a w → wpR P ops Q (fun i => bs.contains i) fuel listed S a w
  | .nil, fuel, listed, S, a, w, _, hc, _, _, h => by
    have hc : Region.ready .any ops listed = [] := by simpa [chkS] using hc
    cases fuel with
    | zero => exact ⟨hc, h⟩
    | succ fuel => exact ⟨fun _ => h, by rw [hc]; simp⟩
  | .one i k r, 0, listed, S, a, w, hf, _, _, _, _ => by simp [Tr.depth] at hf
  | .two .., 0, listed, S, a, w, hf, _, _, _, _ => by simp [Tr.depth] at hf
  | .three .., 0, listed, S, a, w, hf, _, _, _, _ => by simp [Tr.depth] at hf
  | .one i 0 r, fuel + 1, listed, S, a, w, hf, hc, hid, hS, h => by
    simp only [chkS, Bool.and_eq_true, Bool.not_eq_true', List.all_eq_true, Bool.or_eq_true] at hc
    obtain ⟨⟨⟨⟨h0, h1⟩, h2⟩, h3⟩, h4⟩ := hc
    obtain ⟨o, v, ho, hy, h⟩ := h
    have hr : i ∈ Region.ready .any ops listed := by simpa using h1
    refine wpR_first (F := ops.size) ho h0 (Region.noSelect_spec hs) (hQ _ _) fuel listed S a w (Region.free_spec ho h2) hr (fun j hj hl => ?_) hid hy hS (wpS_sound bs hs hQ r fuel _ _ _ _ (by simpa [Tr.depth] using hf) h4 (hid.step hr) hS h)
    rcases h3 j (by simpa using hj) with h5 | h5
    · rw [hl] at h5; cases h5
    · exact h5
  | .one i 1 r, fuel + 1, listed, S, a, w, hf, hc, hid, hS, h => by
    simp only [chkS, Bool.and_eq_true, beq_iff_eq, Bool.not_eq_true'] at hc
    obtain ⟨⟨h0, h1⟩, h2⟩ := hc
    have hr : i ∈ Region.ready .any ops listed := by simp [h1]
    refine ⟨fun h => (by rw [h] at hr; cases hr), fun j hj => ?_⟩
    obtain rfl : j = i := by rw [h1] at hj; simpa using hj
    exact wpOp_mono (fun a' w' hh => by rw [if_neg (fun e => by rw [show bs.contains j = true from e] at h0; cases h0)]; exact ⟨hh.1, wpS_sound bs hs hQ r fuel _ _ _ _ (by simpa [Tr.depth] using hf) h2 (hid.step hr) hh.1 hh.2⟩) h
  | .one i 2 r, fuel + 1, listed, S, a, w, hf, hc, hid, hS, h => by
    simp only [chkS, Bool.and_eq_true, beq_iff_eq] at hc
    obtain ⟨⟨h0, h1⟩, h2⟩ := hc
    have hr : i ∈ Region.ready .any ops listed := by simp [h1]
    refine ⟨fun h => (by rw [h] at hr; cases hr), fun j hj => ?_⟩
    obtain rfl : j = i := by rw [h1] at hj; simpa using hj
    exact wpOp_mono (fun a' w' hh => by rw [if_pos h0]; obtain ⟨S', hS', hh⟩ := hh; exact ⟨S', hS', wpS_sound bs hs hQ r fuel _ _ _ _ (by simpa [Tr.depth] using hf) h2 (hid.step hr) hS' hh⟩) h
  | .one i (k + 3) r, fuel + 1, listed, S, a, w, hf, hc, hid, hS, h => by
    simp only [chkS, Bool.and_eq_true, Bool.not_eq_true'] at hc
    obtain ⟨⟨⟨h0, h1⟩, h2⟩, h4⟩ := hc
    obtain ⟨o, v, ho, hy, h⟩ := h
    have hr : i ∈ Region.ready .any ops listed := by simpa using h1
    exact wpR_pure ho h0 (Region.noSelect_spec hs) (hQ _ _) fuel listed S a w (Region.free_spec ho h2) hr hy hS (wpS_sound bs hs hQ r fuel _ _ _ _ (by simpa [Tr.depth] using hf) h4 (hid.step hr) hS h)
  | .two i r j q, fuel + 1, listed, S, a, w, hf, hc, hid, hS, h => by
    simp only [chkS, Bool.and_eq_true, beq_iff_eq, Bool.not_eq_true'] at hc
    obtain ⟨⟨⟨⟨h0, h0'⟩, h1⟩, h2⟩, h3⟩ := hc
    simp only [Tr.depth, Nat.succ_le_succ_iff] at hf
    have hri : i ∈ Region.ready .any ops listed := by simp [h1]
    have hrj : j ∈ Region.ready .any ops listed := by simp [h1]
    refine ⟨fun h => (by rw [h] at hri; cases hri), fun m hm => ?_⟩
    have hm : m = i ∨ m = j := by rw [h1] at hm; simpa using hm
    rcases hm with rfl | rfl
    · exact wpOp_mono (fun a' w' hh => by rw [if_neg (fun e => by rw [show bs.contains m = true from e] at h0; cases h0)]; exact ⟨hh.1, wpS_sound bs hs hQ r fuel _ _ _ _ (by omega) h2 (hid.step hri) hh.1 hh.2⟩) h.1
    · exact wpOp_mono (fun a' w' hh => by rw [if_neg (fun e => by rw [show bs.contains m = true from e] at h0'; cases h0')]; exact ⟨hh.1, wpS_sound bs hs hQ q fuel _ _ _ _ (by omega) h3 (hid.step hrj) hh.1 hh.2⟩) h.2
  | .three i r j q k p, fuel + 1, listed, S, a, w, hf, hc, hid, hS, h => by
    simp only [chkS, Bool.and_eq_true, beq_iff_eq, Bool.not_eq_true'] at hc
    obtain ⟨⟨⟨⟨⟨⟨h0, h0'⟩, h0''⟩, h1⟩, h2⟩, h3⟩, h4⟩ := hc
    simp only [Tr.depth, Nat.succ_le_succ_iff] at hf
    have hri : i ∈ Region.ready .any ops listed := by simp [h1]
    have hrj : j ∈ Region.ready .any ops listed := by simp [h1]
    have hrk : k ∈ Region.ready .any ops listed := by simp [h1]
    refine ⟨fun h => (by rw [h] at hri; cases hri), fun m hm => ?_⟩
    have hm : m = i ∨ m = j ∨ m = k := by rw [h1] at hm; simpa using hm
    rcases hm with rfl | rfl | rfl
    · exact wpOp_mono (fun a' w' hh => by rw [if_neg (fun e => by rw [show bs.contains m = true from e] at h0; cases h0)]; exact ⟨hh.1, wpS_sound bs hs hQ r fuel _ _ _ _ (by omega) h2 (hid.step hri) hh.1 hh.2⟩) h.1
    · exact wpOp_mono (fun a' w' hh => by rw [if_neg (fun e => by rw [show bs.contains m = true from e] at h0'; cases h0')]; exact ⟨hh.1, wpS_sound bs hs hQ q fuel _ _ _ _ (by omega) h3 (hid.step hrj) hh.1 hh.2⟩) h.2.1
    · exact wpOp_mono (fun a' w' hh => by rw [if_neg (fun e => by rw [show bs.contains m = true from e] at h0''; cases h0'')]; exact ⟨hh.1, wpS_sound bs hs hQ p fuel _ _ _ _ (by omega) h4 (hid.step hrk) hh.1 hh.2⟩) h.2.2

/-- A way out by a panic does not look at the slots. -/
def Pf (Q : Exit → Act → World → Prop) : Prop := ∀ d v c a w, Q (.panic c) (a.put d v) w → Q (.panic c) a w
omit [Env] in
theorem Pf.then {K : Act → World → Prop} (h : Pf Q) : Pf (Exit.then K Q) := fun d v c a w => h d v c a w
omit [Env] in
theorem Pf.block {id : Nat} (h : Pf Q) : Pf (Exit.inBlock id Q) := fun d v c a w => h d v c a w
omit [Env] in
theorem Pf.body {fn : Func} {R : Ending → World → Prop} : Pf (bodyPost P fn R) := fun d v c a w h => by
  cases d <;> exact h
end

/- The judgements over lists of parts. -/
def WLs (P : Program) (ops : Array Oper) (Q : Exit → Act → World → Prop) (n : Nat) (l : List Oper) (rs : RS) (L : List Asrt) : Prop := ∀ w, Sat w L → WL P ops Q n l rs w
def WCs (P : Program) (Q : Exit → Act → World → Prop) (n : Nat) (c : Code) (rs : RS) (L : List Asrt) : Prop := ∀ w, Sat w L → WC P Q n c rs w
def WEs (Q : Exit → Act → World → Prop) (e : Exit) (n : Nat) (rs : RS) (L : List Asrt) : Prop := ∀ w, Sat w L → WE Q e n rs w
def WS (P : Program) (ops : Array Oper) (Q : Exit → Act → World → Prop) (n : Nat) (l : Tr) (S : World → Prop) (rs : RS) (w : World) : Prop := ∀ a, Has a n rs → wpS P ops Q l S a w
/-- In a region that draws: K is what is held. -/
def WSs (P : Program) (ops : Array Oper) (Q : Exit → Act → World → Prop) (n : Nat) (l : Tr) (K : List Asrt) (rs : RS) (L : List Asrt) : Prop := ∀ w, Sat w L → WS P ops Q n l (Sat · K) rs w

section
variable {P : Program} {ops : Array Oper} {Q Q' : Exit → Act → World → Prop} {n : Nat} {rs : RS} {L K : List Asrt} {l : List Oper} {t : TypeId} {d : Nat} {pos : String} {af : Array Edge} {o : Op} {v : Value}

omit [Env] in
theorem blt_lt {d n : Nat} (h : Nat.blt d n = true) : d < n := by simpa using h
theorem Yv.at {w : World} (hy : Yv P (Sat · L) n rs o t v) (hs : Sat w L) : Yv P (· = w) n rs o t v := fun a ha w' hw' => hw' ▸ hy a ha w hs

theorem WLs.go {w : World} (hs : Sat w L) (h : WLs P ops Q n l rs L) : WL P ops Q n l rs w := h w hs
theorem WSs.go {w : World} {r : Tr} (hs : Sat w L) (h : WSs P ops Q n r K rs L) : WS P ops Q n r (Sat · K) rs w := h w hs
theorem WLs.nil (h : WEs Q .normal n rs L) : WLs P ops Q n [] rs L := fun w hs => WL.nil (h w hs)
theorem WLs.val (hy : Yv P (Sat · L) n rs o t v) (hd : Nat.blt d n = true) (h : WLs P ops Q n l ((d, v) :: rs) L) : WLs P ops Q n (⟨some d, o, t, pos, af, none⟩ :: l) rs L :=
  fun w hs => WL.val (hy.at hs) (blt_lt hd) (h w hs)
theorem WLs.skipped {j gd : Nat} {b : Bool} (hj : (ops[j]?).bind (·.dst) = some gd) (hg : rs.get gd = some (.bool (!b))) (hd : Nat.blt d n = true)
    (h : WLs P ops Q n l ((d, undef) :: rs) L) : WLs P ops Q n (⟨some d, o, t, pos, af, some (j, b)⟩ :: l) rs L := fun w hs => WL.skipped hj hg (blt_lt hd) (h w hs)
theorem WLs.skipped0 {j gd : Nat} {b : Bool} (hj : (ops[j]?).bind (·.dst) = some gd) (hg : rs.get gd = some (.bool (!b)))
    (h : WLs P ops Q n l rs L) : WLs P ops Q n (⟨none, o, t, pos, af, some (j, b)⟩ :: l) rs L := fun w hs => WL.skipped0 hj hg (h w hs)
theorem WLs.guarded {dd : Option Tmp} {j gd : Nat} {b : Bool} (hj : (ops[j]?).bind (·.dst) = some gd) (hg : rs.get gd = some (.bool b))
    (h : WLs P ops Q n (⟨dd, o, t, pos, af, none⟩ :: l) rs L) : WLs P ops Q n (⟨dd, o, t, pos, af, some (j, b)⟩ :: l) rs L := fun w hs => WL.guarded hj hg (h w hs)
theorem WLs.cov {rs' : RS} (hc : Cov rs rs') (h : WLs P ops Q n l rs' L) : WLs P ops Q n l rs L := fun w hs => (h w hs).cov hc
theorem WCs.cov {rs' : RS} {c : Code} (hc : Cov rs rs') (h : WCs P Q n c rs' L) : WCs P Q n c rs L := fun w hs => (h w hs).cov hc
theorem WEs.cov {rs' : RS} {e : Exit} (hc : Cov rs rs') (h : WEs Q e n rs' L) : WEs Q e n rs L := fun w hs => (h w hs).cov hc
theorem WCs.perm {L' : List Asrt} {c : Code} (hp : L.Perm L') (h : WCs P Q n c rs L') : WCs P Q n c rs L := fun w hs => h w (hs.perm hp)
theorem WLs.perm {L' : List Asrt} (hp : L.Perm L') (h : WLs P ops Q n l rs L') : WLs P ops Q n l rs L := fun w hs => h w (hs.perm hp)

theorem WCs.region {id : Nat} (h : WLs P l.toArray Q n l rs L) : WCs P Q n (.region id l.toArray false) rs L := fun w hs => WC.region (h w hs)
theorem WCs.seq {x y : Code} (h : WCs P (Exit.then (y.wp P Q) Q) n x rs L) : WCs P Q n (.seq x y) rs L := fun w hs => WC.seq (h w hs)
theorem WCs.block {id : Nat} {c : Code} (h : WCs P (Exit.inBlock id Q) n c rs L) : WCs P Q n (.block id c) rs L := fun w hs => WC.block (h w hs)
theorem WCs.skip (h : WEs Q .normal n rs L) : WCs P Q n .skip rs L := fun w hs => WC.skip (h w hs)
theorem WCs.ret (h : WEs Q .ret n rs L) : WCs P Q n .ret rs L := fun w hs => WC.ret (h w hs)
theorem WCs.exit {id : Nat} (h : WEs Q (.exit id) n rs L) : WCs P Q n (.exit id) rs L := fun w hs => WC.exit (h w hs)
theorem WCs.cond {c : Operand} {x y : Code} {b : Bool} (hc : ev rs c = some (.bool b)) (ht : b = true → WCs P Q n x rs L) (hf : b = false → WCs P Q n y rs L) :
    WCs P Q n (.cond c x y) rs L := fun w hs => WC.cond hc (fun h => ht h w hs) (fun h => hf h w hs)
theorem WCs.cond_t {c : Operand} {x y : Code} {b : Bool} (hc : ev rs c = some (.bool b)) (hb : b = true) (ht : WCs P Q n x rs L) : WCs P Q n (.cond c x y) rs L := fun w hs => WC.cond_t (hb ▸ hc) (ht w hs)
theorem WCs.cond_f {c : Operand} {x y : Code} {b : Bool} (hc : ev rs c = some (.bool b)) (hb : b = false) (hf : WCs P Q n y rs L) : WCs P Q n (.cond c x y) rs L := fun w hs => WC.cond_f (hb ▸ hc) (hf w hs)

theorem WEs.then_n {y : Code} (h : WCs P Q n y rs L) : WEs (Exit.then (y.wp P Q) Q') .normal n rs L := fun w hs => WE.then_n (h w hs)
theorem WEs.then_ret {K : Act → World → Prop} (h : WEs Q .ret n rs L) : WEs (Exit.then K Q) .ret n rs L := fun w hs => WE.then_ret (h w hs)
theorem WEs.then_exit {K : Act → World → Prop} {id : Nat} (h : WEs Q (.exit id) n rs L) : WEs (Exit.then K Q) (.exit id) n rs L := fun w hs => WE.then_exit (h w hs)
theorem WEs.in_n {id : Nat} (h : WEs Q .normal n rs L) : WEs (Exit.inBlock id Q) .normal n rs L := fun w hs => WE.in_n (h w hs)
theorem WEs.in_ret {id : Nat} (h : WEs Q .ret n rs L) : WEs (Exit.inBlock id Q) .ret n rs L := fun w hs => WE.in_ret (h w hs)
theorem WEs.in_same {id : Nat} (h : WEs Q .normal n rs L) : WEs (Exit.inBlock id Q) (.exit id) n rs L := fun w hs => WE.in_same (h w hs)
theorem WEs.in_other {id id' : Nat} (hne : Nat.beq id' id = false) (h : WEs Q (.exit id') n rs L) : WEs (Exit.inBlock id Q) (.exit id') n rs L := fun w hs => WE.in_other hne (h w hs)

theorem WCs.loop {σ : Type} {c : Code} (rsOf : σ → RS) (LOf : σ → List Asrt) (μ : σ → Nat) (s₀ : σ) (hL : ∀ w, Sat w L → Sat w (LOf s₀)) (hc : Cov rs (rsOf s₀))
    (round : ∀ s, WCs P (Exit.then (fun a' w' => ∃ s', Has a' n (rsOf s') ∧ Sat w' (LOf s') ∧ μ s' < μ s) Q) n c (rsOf s) (LOf s)) : WCs P Q n (.loop c) rs L :=
  fun w hs => WC.loop rsOf (fun s w => Sat w (LOf s)) μ s₀ (hL w hs) hc fun s w hw => round s w hw
theorem WEs.round {σ : Type} {rsOf : σ → RS} {LOf : σ → List Asrt} {μ : σ → Nat} {m : Nat} (s' : σ) (hc : Cov rs (rsOf s')) (hL : ∀ w, Sat w L → Sat w (LOf s')) (hm : μ s' < m) :
    WEs (Exit.then (fun a' w' => ∃ s', Has a' n (rsOf s') ∧ Sat w' (LOf s') ∧ μ s' < m) Q) .normal n rs L := fun w hs => WE.round (I := fun s w => Sat w (LOf s)) s' hc (hL w hs) hm

theorem WLs.store {x y : Operand} {T b k : Nat} {c : Array Value} {E : TypeId} (i : Nat) (hx : ev rs x = some (.pointer (some ⟨b, k, none⟩))) (hy : ev rs y = some v) (ht : tSize P T 1 = true)
    (hi : L[i]? = some (pt b (.cells c E (0, 0)))) (ho : k < c.size) (hv : oneCell v = true) {c' : Array Value} (hc : c.setIfInBounds k v = c')
    (h : WLs P ops Q n l rs (L.set i (pt b (.cells c' E (0, 0))))) : WLs P ops Q n (⟨none, .store T x y, t, pos, af, none⟩ :: l) rs L := fun w hs =>
  WL.act0 (a_store hx hy ht (hs.get i hi) ho hv) (hc ▸ h _ (hc ▸ hs.updAt i hi))
theorem WLs.storeA {x y : Operand} {T b k m : Nat} {c vs : Array Value} {E : TypeId} (i : Nat) (hx : ev rs x = some (.pointer (some ⟨b, k, none⟩))) (hy : ev rs y = some (.agg vs)) (ht : tSize P T m = true)
    (hi : L[i]? = some (pt b (.cells c E (0, 0)))) (hm : vs.size = m) (ho : k + m ≤ c.size) (hv : vs.toList.all oneCell = true) {c' : Array Value} (hc : blit c k vs.toList = c')
    (h : WLs P ops Q n l rs (L.set i (pt b (.cells c' E (0, 0))))) : WLs P ops Q n (⟨none, .store T x y, t, pos, af, none⟩ :: l) rs L := fun w hs =>
  WL.act0 (a_storeA hx hy ht (hs.get i hi) hm ho hv) (hc ▸ h _ (hc ▸ hs.updAt i hi))
theorem WLs.alloc {T : TypeId} {z : Value} (hz : tZero P T z) (hd : Nat.blt d n = true) (h : ∀ b, WLs P ops Q n l ((d, .pointer (some ⟨b, 0, none⟩)) :: rs) (pt b (.cells z.cells T) :: L)) :
    WLs P ops Q n (⟨some d, .alloc T, t, pos, af, none⟩ :: l) rs L := fun w hs => WL.act (a_alloc hz) (blt_lt hd) (h _ _ (hs.alloc _))
theorem WLs.box {T : TypeId} {x : Operand} (hx : ev rs x = some v) (hd : Nat.blt d n = true) (h : ∀ b, WLs P ops Q n l ((d, .pointer (some ⟨b, 0, none⟩)) :: rs) (pt b (.cells v.cells T) :: L)) :
    WLs P ops Q n (⟨some d, .box T x, t, pos, af, none⟩ :: l) rs L := fun w hs => WL.act (a_box hx) (blt_lt hd) (h _ _ (hs.alloc _))
theorem WLs.mkmap {T : TypeId} (hd : Nat.blt d n = true) (h : ∀ b, WLs P ops Q n l ((d, .map (some b)) :: rs) (pt b (.map #[] 0) :: L)) :
    WLs P ops Q n (⟨some d, .makeMap T none, t, pos, af, none⟩ :: l) rs L := fun w hs => WL.act a_mkmap (blt_lt hd) (h _ _ (hs.alloc _))
theorem WLs.call {f : FuncId} {args : List Operand} {vs : List Value} {tys : Array TypeId} {fn : Func} {c : Code} {R : Value → World → Prop}
    (hf : P.funcs[f]? = some fn) (hb : fn.body = some c) (hne : (fn.name == "runtime.NumGoroutine") = false)
    (hx : evs rs args = some vs) (hd : Nat.blt d n = true) (hc : ∀ w, Sat w L → Does P f vs w R) (h : ∀ v w', R v w' → WL P ops Q n l ((d, v) :: rs) w') :
    WLs P ops Q n (⟨some d, .call ⟨.value (.func f), args.toArray, tys⟩, t, pos, af, none⟩ :: l) rs L := fun w hs => WL.call hf hb hne hx (blt_lt hd) (hc w hs) h

theorem WCs.draw {id : Nat} (sched : Tr) (bs : List Nat) (hm : P.follows .mixedOrders = true) (hs : Region.noSelect l.toArray = true)
    (hc : chkS l.toArray bs sched (Array.replicate l.length false) = true) (hl : Nat.ble sched.depth l.length = true) (hQ : Pf Q) (hK : ∀ w, Sat w L → Sat w K) (h : WSs P l.toArray Q n sched K rs L) :
    WCs P Q n (.region id l.toArray true) rs L := fun w hw a ha => by
  refine wp_region_any hm ?_
  have hl : sched.depth ≤ l.length := Nat.le_of_ble_eq_true hl
  exact wpAny_of_R _ _ _ _ _ (wpS_sound bs hs hQ sched _ _ _ a _ (by simpa using hl) (by simpa using hc) Ideal.start (hK _ hw.drew) (h _ hw.drew a ha))

section
variable {r : Tr} {i : Nat}
theorem WSs.nil (h : WEs Q .normal n rs L) : WSs P ops Q n .nil K rs L := fun w hs a ha => h w hs a ha
theorem WSs.val (ho : ops[i]? = some ⟨some d, o, t, pos, af, none⟩) (hy : Yv P (Sat · K) n rs o t v) (hd : Nat.blt d n = true) (h : WSs P ops Q n r K ((d, v) :: rs) L) : WSs P ops Q n (.one i 0 r) K rs L := fun w hs a ha =>
  ⟨_, v, ho, .inl ⟨by simp [Region.wanted], fun w' hw' => hy a ha w' hw' _ _ _ _⟩, h w hs _ (ha.put (blt_lt hd) v)⟩
theorem WSs.pure (ho : ops[i]? = some ⟨some d, o, t, pos, af, none⟩) (hy : Yv P (fun _ => True) n rs o t v) (hd : Nat.blt d n = true) (h : WSs P ops Q n r K ((d, v) :: rs) L) : WSs P ops Q n (.one i 3 r) K rs L := fun w hs a ha =>
  ⟨_, v, ho, .inl ⟨by simp [Region.wanted], fun w' hw' => hy a ha w' hw' _ _ _ _⟩, h w hs _ (ha.put (blt_lt hd) v)⟩
theorem WSs.pureG {j gd : Nat} {b : Bool} (ho : ops[i]? = some ⟨some d, o, t, pos, af, some (j, b)⟩) (hj : (ops[j]?).bind (·.dst) = some gd) (hg : rs.get gd = some (.bool b))
    (hy : Yv P (fun _ => True) n rs o t v) (hd : Nat.blt d n = true) (h : WSs P ops Q n r K ((d, v) :: rs) L) : WSs P ops Q n (.one i 3 r) K rs L := fun w hs a ha =>
  ⟨_, v, ho, .inl ⟨by have := ha.2.2 gd _ hg; simp [Region.wanted, yielded, hj, this], fun w' hw' => hy a ha w' hw' _ _ _ _⟩, h w hs _ (ha.put (blt_lt hd) v)⟩
theorem WSs.pureN {j gd : Nat} {b : Bool} (ho : ops[i]? = some ⟨some d, o, t, pos, af, some (j, b)⟩) (hj : (ops[j]?).bind (·.dst) = some gd) (hg : rs.get gd = some (.bool (!b)))
    (hd : Nat.blt d n = true) (h : WSs P ops Q n r K ((d, undef) :: rs) L) : WSs P ops Q n (.one i 3 r) K rs L := fun w hs a ha =>
  ⟨_, undef, ho, .inr ⟨by have := ha.2.2 gd _ hg; simp [Region.wanted, yielded, hj, this], rfl⟩, h w hs _ (ha.put (blt_lt hd) _)⟩
theorem WSs.valG {j gd : Nat} {b : Bool} (ho : ops[i]? = some ⟨some d, o, t, pos, af, some (j, b)⟩) (hj : (ops[j]?).bind (·.dst) = some gd) (hg : rs.get gd = some (.bool b))
    (hy : Yv P (Sat · K) n rs o t v) (hd : Nat.blt d n = true) (h : WSs P ops Q n r K ((d, v) :: rs) L) : WSs P ops Q n (.one i 0 r) K rs L := fun w hs a ha =>
  ⟨_, v, ho, .inl ⟨by have := ha.2.2 gd _ hg; simp [Region.wanted, yielded, hj, this], fun w' hw' => hy a ha w' hw' _ _ _ _⟩, h w hs _ (ha.put (blt_lt hd) v)⟩
theorem WSs.valN {j gd : Nat} {b : Bool} (ho : ops[i]? = some ⟨some d, o, t, pos, af, some (j, b)⟩) (hj : (ops[j]?).bind (·.dst) = some gd) (hg : rs.get gd = some (.bool (!b)))
    (hd : Nat.blt d n = true) (h : WSs P ops Q n r K ((d, undef) :: rs) L) : WSs P ops Q n (.one i 0 r) K rs L := fun w hs a ha =>
  ⟨_, undef, ho, .inr ⟨by have := ha.2.2 gd _ hg; simp [Region.wanted, yielded, hj, this], rfl⟩, h w hs _ (ha.put (blt_lt hd) _)⟩
omit [Env] in
theorem wpOp_av {K : Act → World → Prop} {nx : Next} {dd : Option Tmp} {a : Act} {w w' : World} (ha : Has a n rs) (ho : ops[i]? = some ⟨dd, o, t, pos, af, none⟩) (hy : Av P n rs o t w nx w')
    (h : Oper.upon P ⟨dd, o, t, pos, af, none⟩ a K Q (.ok nx w')) : wpOp P ops Q i K a w := by
  unfold wpOp
  simp only [ho]
  rw [if_pos (by simp [Region.wanted])]
  refine .inl ?_
  unfold Oper.wp
  rw [hy a ha]
  exact h
/-- a store behind which all that is left is held anew -/
theorem WSs.store {x y : Operand} {T b k : Nat} {c : Array Value} {E : TypeId} (j : Nat) (ho : ops[i]? = some ⟨none, .store T x y, t, pos, af, none⟩)
    (hx : ev rs x = some (.pointer (some ⟨b, k, none⟩))) (hy : ev rs y = some v) (ht : tSize P T 1 = true)
    (hi : L[j]? = some (pt b (.cells c E (0, 0)))) (hk : k < c.size) (hv : oneCell v = true) {c' : Array Value} (hc : c.setIfInBounds k v = c')
    (h : WSs P ops Q n r (L.set j (pt b (.cells c' E (0, 0)))) rs (L.set j (pt b (.cells c' E (0, 0))))) : WSs P ops Q n (.one i 2 r) K rs L := fun w hs a ha => by
  subst hc
  exact wpOp_av ha ho (a_store hx hy ht (hs.get j hi) hk hv) ⟨_, hs.updAt j hi, h _ (hs.updAt j hi) a ha⟩
theorem WSs.storeA {x y : Operand} {T b k m : Nat} {c vs : Array Value} {E : TypeId} (j : Nat) (ho : ops[i]? = some ⟨none, .store T x y, t, pos, af, none⟩)
    (hx : ev rs x = some (.pointer (some ⟨b, k, none⟩))) (hy : ev rs y = some (.agg vs)) (ht : tSize P T m = true)
    (hi : L[j]? = some (pt b (.cells c E (0, 0)))) (hm : vs.size = m) (hk : k + m ≤ c.size) (hv : vs.toList.all oneCell = true) {c' : Array Value} (hc : blit c k vs.toList = c')
    (h : WSs P ops Q n r (L.set j (pt b (.cells c' E (0, 0)))) rs (L.set j (pt b (.cells c' E (0, 0))))) : WSs P ops Q n (.one i 2 r) K rs L := fun w hs a ha => by
  subst hc
  exact wpOp_av ha ho (a_storeA hx hy ht (hs.get j hi) hm hk hv) ⟨_, hs.updAt j hi, h _ (hs.updAt j hi) a ha⟩
/-- a call that leaves what is held as it is -/
theorem WSs.call {f : FuncId} {args : List Operand} {vs : List Value} {tys : Array TypeId} {fn : Func} {c : Code} {R : Value → World → Prop}
    (ho : ops[i]? = some ⟨some d, .call ⟨.value (.func f), args.toArray, tys⟩, t, pos, af, none⟩)
    (hf : P.funcs[f]? = some fn) (hb : fn.body = some c) (hne : (fn.name == "runtime.NumGoroutine") = false)
    (hx : evs rs args = some vs) (hd : Nat.blt d n = true) (hc : ∀ w, Sat w L → Does P f vs w R) (h : ∀ v w', R v w' → Sat w' K ∧ WS P ops Q n r (Sat · K) ((d, v) :: rs) w') :
    WSs P ops Q n (.one i 1 r) K rs L := fun w hs a ha =>
  wpOp_av ha ho (enter_run hf hb hne hx) (Calls.mono (hc w hs) fun e w' he => by
    cases e with
    | returned v => exact ⟨(h v w' he).1, (h v w' he).2 _ (ha.put (blt_lt hd) v)⟩
    | panicked c => exact he.elim
    | outgrown => exact he.elim)
/-- a call behind which all is held anew -/
theorem WSs.callB {f : FuncId} {args : List Operand} {vs : List Value} {tys : Array TypeId} {fn : Func} {c : Code} {R : Value → World → Prop}
    (ho : ops[i]? = some ⟨some d, .call ⟨.value (.func f), args.toArray, tys⟩, t, pos, af, none⟩)
    (hf : P.funcs[f]? = some fn) (hb : fn.body = some c) (hne : (fn.name == "runtime.NumGoroutine") = false)
    (hx : evs rs args = some vs) (hd : Nat.blt d n = true) (hc : ∀ w, Sat w L → Does P f vs w R) (h : ∀ v w', R v w' → ∃ K', Sat w' K' ∧ WS P ops Q n r (Sat · K') ((d, v) :: rs) w') :
    WSs P ops Q n (.one i 2 r) K rs L := fun w hs a ha =>
  wpOp_av ha ho (enter_run hf hb hne hx) (Calls.mono (hc w hs) fun e w' he => by
    cases e with
    | returned v => obtain ⟨K', h1, h2⟩ := h v w' he; exact ⟨_, h1, h2 _ (ha.put (blt_lt hd) v)⟩
    | panicked c => exact he.elim
    | outgrown => exact he.elim)
end

section
variable {r q p : Tr} {i j k : Nat}
theorem Sat.tails {w : World} {A : Asrt} (h : Sat w (A :: L)) (hK : ∀ w, Sat w L → Sat w K) : Sat w K := hK _ h.tail
/-- memory that is made in a drawn region: what is held stays -/
theorem WSs.box {T : TypeId} {x : Operand} (ho : ops[i]? = some ⟨some d, .box T x, t, pos, af, none⟩) (hx : ev rs x = some v) (hd : Nat.blt d n = true) (hK : ∀ w, Sat w L → Sat w K)
    (h : ∀ b, WSs P ops Q n r K ((d, .pointer (some ⟨b, 0, none⟩)) :: rs) (pt b (.cells v.cells T) :: L)) : WSs P ops Q n (.one i 1 r) K rs L := fun w hs a ha =>
  wpOp_av ha ho (a_box hx) ⟨(hs.alloc _).tails hK, h _ _ (hs.alloc _) _ (ha.put (blt_lt hd) _)⟩
theorem WSs.mkmap {T : TypeId} (ho : ops[i]? = some ⟨some d, .makeMap T none, t, pos, af, none⟩) (hd : Nat.blt d n = true) (hK : ∀ w, Sat w L → Sat w K)
    (h : ∀ b, WSs P ops Q n r K ((d, .map (some b)) :: rs) (pt b (.map #[] 0) :: L)) : WSs P ops Q n (.one i 1 r) K rs L := fun w hs a ha =>
  wpOp_av ha ho a_mkmap ⟨(hs.alloc _).tails hK, h _ _ (hs.alloc _) _ (ha.put (blt_lt hd) _)⟩
/-- any operation that only makes memory -/
theorem WSs.made {o : Op} {B : List Asrt} (ho : ops[i]? = some ⟨some d, o, t, pos, af, none⟩) (hd : Nat.blt d n = true) (hK : ∀ w, Sat w L → Sat w K)
    (hy : ∀ w, Sat w L → ∃ v w', Av P n rs o t w (.value v) w' ∧ ∃ b : Nat, Sat w' (B ++ L) ∧ WSs P ops Q n r K ((d, v) :: rs) (B ++ L)) (hB : ∀ w', Sat w' (B ++ L) → Sat w' L) : WSs P ops Q n (.one i 1 r) K rs L := fun w hs a ha => by
  obtain ⟨v, w', h1, b, h2, h3⟩ := hy w hs
  exact wpOp_av ha ho h1 ⟨hK _ (hB _ h2), h3 w' h2 _ (ha.put (blt_lt hd) _)⟩
theorem WSs.two (h1 : WSs P ops Q n (.one i 1 r) K rs L) (h2 : WSs P ops Q n (.one j 1 q) K rs L) : WSs P ops Q n (.two i r j q) K rs L := fun w hs a ha => ⟨h1 w hs a ha, h2 w hs a ha⟩
theorem WSs.three (h1 : WSs P ops Q n (.one i 1 r) K rs L) (h2 : WSs P ops Q n (.one j 1 q) K rs L) (h3 : WSs P ops Q n (.one k 1 p) K rs L) : WSs P ops Q n (.three i r j q k p) K rs L := fun w hs a ha => ⟨h1 w hs a ha, h2 w hs a ha, h3 w hs a ha⟩
end
/-- what a piece of code comes to, told in between -/
def Mid {σ : Type} (n : Nat) (rsOf : σ → RS) (LOf : σ → List Asrt) : Exit → Act → World → Prop
  | .normal, a, w => ∃ s, Has a n (rsOf s) ∧ Sat w (LOf s)
  | _, _, _ => False
theorem WCs.cut {σ : Type} {c : Code} (rsOf : σ → RS) (LOf : σ → List Asrt) (h1 : WCs P (Mid n rsOf LOf) n c rs L) (h2 : ∀ s, WEs Q .normal n (rsOf s) (LOf s)) : WCs P Q n c rs L := fun w hs a ha => by
  refine Code.wp_mono ?_ (h1 w hs a ha)
  intro e a' w' h
  cases e with
  | normal => obtain ⟨s, h3, h4⟩ := h; exact h2 s w' h4 a' h3
  | _ => exact h.elim
theorem WEs.mid {σ : Type} {rsOf : σ → RS} {LOf : σ → List Asrt} (s : σ) (hc : Cov rs (rsOf s)) (hL : ∀ w, Sat w L → Sat w (LOf s)) : WEs (Mid n rsOf LOf) .normal n rs L := fun w hs a ha => ⟨s, ha.cov hc, hL w hs⟩
theorem Pf.mid {σ : Type} {rsOf : σ → RS} {LOf : σ → List Asrt} : Pf (Mid n rsOf LOf) := fun _ _ _ _ _ h => h

theorem Does.enters {f : FuncId} {fn : Func} {c : Code} {args : List Value} {w : World} {R : Value → World → Prop}
    (hs : Sat w L) (hf : P.funcs[f]? = some fn) (hb : fn.body = some c) (hn : fn.ntmps = n) (hle : Nat.ble args.length n = true) (hr : RS.ofArgs 0 args = rs)
    (h : WCs P (bodyPost P fn (Ret R)) n c rs L) : Does P f args w R := Does.enter hf hb hn (by simpa using hle) hr (h w hs)
theorem WEs.ret1 {fn : Func} {R : Value → World → Prop} {e : Exit} {r : Nat} (he : e = .normal ∨ e = .ret) (hr : fn.results = #[.tmp r]) (hv : rs.get r = some v) (h : ∀ w, Sat w L → R v w) : WEs (bodyPost P fn (Ret R)) e n rs L :=
  fun w hs => WE.ret1 he hr hv (h w hs)
theorem WEs.ret0 {fn : Func} {R : Value → World → Prop} {e : Exit} (he : e = .normal ∨ e = .ret) (hr : fn.results = #[]) (h : ∀ w, Sat w L → R (.tuple #[]) w) : WEs (bodyPost P fn (Ret R)) e n rs L :=
  fun w hs => WE.ret0 he hr (h w hs)
theorem WEs.ret2 {fn : Func} {R : Value → World → Prop} {e : Exit} {r s : Nat} {u : Value} (he : e = .normal ∨ e = .ret) (hr : fn.results = #[.tmp r, .tmp s]) (hv : rs.get r = some v) (hu : rs.get s = some u) (h : ∀ w, Sat w L → R (.tuple #[v, u]) w) : WEs (bodyPost P fn (Ret R)) e n rs L :=
  fun w hs => WE.ret2 he hr hv hu (h w hs)
end
end Go.Sx
