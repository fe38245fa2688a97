/- What memory holds, as a list of parts that do not overlap; the walk's judgements over such lists. -/
import Derived.Test.YteoplijfofohkaaGreatAct
namespace Go.Sx
open Go

abbrev HS := Nat → Option Obj
abbrev Asrt := HS → Prop
def Disj (g h : HS) : Prop := ∀ b, g b = none ∨ h b = none
theorem Disj.symm {g h : HS} (d : Disj g h) : Disj h g := fun b => (d b).symm
def Sub (h : HS) (w : World) : Prop := ∀ b o, h b = some o → w.heap[b]? = some o

def SatL (w : World) (l : List (Asrt × HS)) : Prop := (∀ p ∈ l, p.1 p.2 ∧ Sub p.2 w) ∧ (l.map (·.2)).Pairwise Disj
/-- The world holds the parts, each in memory of its own. -/
def SatH (w : World) (L : List Asrt) : Prop := ∃ l : List (Asrt × HS), l.map (·.1) = L ∧ SatL w l

/-- one block -/
def pt (b : Nat) (o : Obj) : Asrt := fun h => h = fun c => if c = b then some o else none
def emp : Asrt := fun h => h = fun _ => none
/-- just this memory -/
def ex (h₀ : HS) : Asrt := fun h => h = h₀
/-- parts as one part -/
def sepL (L : List Asrt) : Asrt := fun h => ∃ l : List (Asrt × HS), l.map (·.1) = L ∧ (∀ p ∈ l, p.1 p.2) ∧ (l.map (·.2)).Pairwise Disj ∧ ∀ b o, h b = some o ↔ ∃ p ∈ l, p.2 b = some o

theorem perm_map_exists {α β : Type} {f : α → β} : ∀ {L L' : List β}, L.Perm L' → ∀ l : List α, l.map f = L → ∃ l' : List α, l'.map f = L' ∧ l.Perm l' := by
  intro L L' h
  induction h with
  | nil => intro l hl; exact ⟨[], rfl, by simp at hl; subst hl; exact .nil⟩
  | cons x h ih =>
    intro l hl
    cases l with
    | nil => simp at hl
    | cons a l =>
      simp at hl
      obtain ⟨l', h1, h2⟩ := ih l hl.2
      exact ⟨a :: l', by simp [hl.1, h1], h2.cons a⟩
  | swap x y l₀ =>
    intro l hl
    match l, hl with
    | a :: b :: l, hl =>
      simp at hl
      exact ⟨b :: a :: l, by simp [hl], .swap _ _ _⟩
  | trans h1 h2 ih1 ih2 =>
    intro l hl
    obtain ⟨l1, a1, b1⟩ := ih1 l hl
    obtain ⟨l2, a2, b2⟩ := ih2 l1 a1
    exact ⟨l2, a2, b1.trans b2⟩

theorem SatL.perm {w : World} {l l' : List (Asrt × HS)} (h : SatL w l) (hp : l.Perm l') : SatL w l' :=
  ⟨fun p hm => h.1 p (hp.mem_iff.2 hm), (hp.map _).pairwise_iff (fun d => Disj.symm d) |>.1 h.2⟩
theorem SatH.perm {w : World} {L L' : List Asrt} (h : SatH w L) (hp : L.Perm L') : SatH w L' := by
  obtain ⟨l, rfl, h⟩ := h
  obtain ⟨l', h1, h2⟩ := perm_map_exists hp l rfl
  exact ⟨l', h1, h.perm h2⟩

theorem SatH.nil (w : World) : SatH w [] := ⟨[], rfl, by simp [SatL]⟩
theorem SatH.tail {w : World} {A : Asrt} {L : List Asrt} (h : SatH w (A :: L)) : SatH w L := by
  obtain ⟨l, hl, h1, h2⟩ := h
  cases l with
  | nil => simp at hl
  | cons p l =>
    simp at hl
    exact ⟨l, hl.2, fun q hq => h1 q (List.mem_cons_of_mem _ hq), (List.pairwise_cons.1 h2).2⟩
theorem SatH.impl {w : World} {A B : Asrt} {L : List Asrt} (h : SatH w (A :: L)) (hi : ∀ g, A g → B g) : SatH w (B :: L) := by
  obtain ⟨l, hl, h1, h2⟩ := h
  cases l with
  | nil => simp at hl
  | cons p l =>
    simp at hl
    refine ⟨(B, p.2) :: l, by simp [hl.2], ?_, h2⟩
    intro q hq
    cases hq with
    | head => exact ⟨hi _ (hl.1 ▸ (h1 p (.head _)).1), (h1 p (.head _)).2⟩
    | tail _ hq => exact h1 q (.tail _ hq)
theorem SatH.exists {w : World} {α : Type} {A : α → Asrt} {L : List Asrt} (h : SatH w ((fun g => ∃ x, A x g) :: L)) : ∃ x, SatH w (A x :: L) := by
  obtain ⟨l, hl, h1, h2⟩ := h
  cases l with
  | nil => simp at hl
  | cons p l =>
    simp at hl
    have := (h1 p (.head _)).1
    rw [hl.1] at this
    obtain ⟨x, hx⟩ := this
    refine ⟨x, (A x, p.2) :: l, by simp [hl.2], ?_, h2⟩
    intro q hq
    cases hq with
    | head => exact ⟨hx, (h1 p (.head _)).2⟩
    | tail _ hq => exact h1 q (.tail _ hq)
theorem SatH.pure {w : World} {p : Prop} {A : Asrt} {L : List Asrt} (h : SatH w ((fun g => p ∧ A g) :: L)) : p ∧ SatH w (A :: L) := by
  obtain ⟨l, hl, h1, h2⟩ := id h
  refine ⟨?_, h.impl fun g hg => hg.2⟩
  cases l with
  | nil => simp at hl
  | cons q l =>
    simp at hl
    have := (h1 q (.head _)).1
    rw [hl.1] at this
    exact this.1

def union (l : List HS) : HS := fun b => (l.find? fun h => (h b).isSome).bind (· b)
theorem union_iff {l : List HS} (hd : l.Pairwise Disj) (b : Nat) (o : Obj) : union l b = some o ↔ ∃ h ∈ l, h b = some o := by
  induction l with
  | nil => simp [union]
  | cons h l ih =>
    have hc := List.pairwise_cons.1 hd
    have ih := ih hc.2
    unfold union at ih ⊢
    cases hb : h b with
    | none => simp only [List.find?_cons, hb, Option.isSome_none]; rw [ih]; simp [hb]
    | some o' =>
      simp only [List.find?_cons, hb, Option.isSome_some, Option.bind_some, Option.some.injEq, List.mem_cons]
      constructor
      · rintro rfl; exact ⟨h, .inl rfl, hb⟩
      · rintro ⟨g, rfl | hg, hgo⟩
        · rw [hb] at hgo; exact Option.some.inj hgo
        · rcases hc.1 g hg b with h0 | h0
          · rw [hb] at h0; cases h0
          · rw [h0] at hgo; cases hgo

/-- Parts in one part are parts. -/
theorem SatH.split {w : World} {K L : List Asrt} (h : SatH w (sepL K :: L)) : SatH w (K ++ L) := by
  obtain ⟨l, hl, h1, h2⟩ := h
  cases l with
  | nil => simp at hl
  | cons p l =>
    simp at hl
    obtain ⟨hp, rfl⟩ := hl
    have hq := h1 p (.head _)
    rw [hp] at hq
    obtain ⟨⟨k, rfl, hk1, hk2, hk3⟩, hsub⟩ := hq
    have hc := List.pairwise_cons.1 h2
    refine ⟨k ++ l, by simp, ?_, ?_⟩
    · intro q hq
      rcases List.mem_append.1 hq with hq | hq
      · exact ⟨hk1 q hq, fun b o hbo => hsub b o ((hk3 b o).2 ⟨q, hq, hbo⟩)⟩
      · exact h1 q (.tail _ hq)
    · rw [List.map_append, List.pairwise_append]
      refine ⟨hk2, hc.2, ?_⟩
      intro a ha c hc' b
      obtain ⟨q, hq, rfl⟩ := List.mem_map.1 ha
      rcases hc.1 c hc' b with h0 | h0
      · have h0 : p.2 b = none := h0
        refine .inl ?_
        show q.2 b = none
        cases hb : q.2 b with
        | none => rfl
        | some o => rw [(hk3 b o).2 ⟨q, hq, hb⟩] at h0; cases h0
      · exact .inr h0
theorem SatH.join {w : World} {K L : List Asrt} (h : SatH w (K ++ L)) : SatH w (sepL K :: L) := by
  obtain ⟨l, hl, h1, h2⟩ := h
  obtain ⟨k, l', rfl, hk, hl'⟩ := List.map_eq_append_iff.1 hl
  rw [List.map_append, List.pairwise_append] at h2
  refine ⟨(sepL K, union (k.map (·.2))) :: l', by simp [hl'], ?_, ?_⟩
  · intro q hq
    cases hq with
    | head =>
      refine ⟨⟨k, hk, fun p hp => (h1 p (List.mem_append_left _ hp)).1, h2.1, fun b o => ?_⟩, fun b o hbo => ?_⟩
      · rw [union_iff h2.1]
        constructor
        · rintro ⟨g, hg, hgo⟩
          obtain ⟨p, hp, rfl⟩ := List.mem_map.1 hg
          exact ⟨p, hp, hgo⟩
        · rintro ⟨p, hp, hgo⟩
          exact ⟨p.2, List.mem_map_of_mem hp, hgo⟩
      · rw [union_iff h2.1] at hbo
        obtain ⟨g, hg, hgo⟩ := hbo
        obtain ⟨p, hp, rfl⟩ := List.mem_map.1 hg
        exact (h1 p (List.mem_append_left _ hp)).2 b o hgo
    | tail _ hq => exact h1 q (List.mem_append_right _ hq)
  · rw [List.map_cons, List.pairwise_cons]
    refine ⟨fun g hg b => ?_, h2.2.1⟩
    cases hb : union (k.map (·.2)) b with
    | none => exact .inl hb
    | some o =>
      rw [union_iff h2.1] at hb
      obtain ⟨g', hg', hgo⟩ := hb
      rcases h2.2.2 g' hg' g hg b with h0 | h0
      · rw [hgo] at h0; cases h0
      · exact .inr h0

theorem SatH.get {w : World} {L : List Asrt} (h : SatH w L) (i : Nat) {b : Nat} {o : Obj} (hi : L[i]? = some (pt b o)) : w.heap[b]? = some o := by
  obtain ⟨l, rfl, h1, h2⟩ := h
  rw [List.getElem?_map] at hi
  cases hl : l[i]? with
  | none => simp [hl] at hi
  | some p =>
    simp [hl] at hi
    have := h1 p (List.mem_of_getElem? hl)
    rw [hi] at this
    refine this.2 b o ?_
    rw [show p.2 = _ from this.1]; simp
theorem SatH.at {L : List Asrt} (i : Nat) {b : Nat} {o : Obj} (hi : L[i]? = some (pt b o)) : ∀ w, SatH w L → w.heap[b]? = some o := fun _ h => h.get i hi

/-- Memory that is as it was in the parts' blocks. -/
theorem SatL.same {w w' : World} {l : List (Asrt × HS)} (h : SatL w l) (hs : ∀ p ∈ l, ∀ b o, p.2 b = some o → w'.heap[b]? = w.heap[b]?) : SatL w' l :=
  ⟨fun p hp => ⟨(h.1 p hp).1, fun b o hbo => (hs p hp b o hbo).trans ((h.1 p hp).2 b o hbo)⟩, h.2⟩
theorem SatH.heap {w w' : World} {L : List Asrt} (h : SatH w L) (hs : w'.heap = w.heap) : SatH w' L := by
  obtain ⟨l, hl, h⟩ := h
  exact ⟨l, hl, h.same fun _ _ _ _ _ => by rw [hs]⟩
theorem wnew_lt (w : World) (o : Obj) {b : Nat} (h : b < w.heap.size) : (wnew w o).heap[b]? = w.heap[b]? := by
  show (w.heap.push o)[b]? = _
  rw [Array.getElem?_push, if_neg (by omega)]
theorem wnew_eq (w : World) (o : Obj) : (wnew w o).heap[w.heap.size]? = some o := by
  show (w.heap.push o)[w.heap.size]? = _
  simp
theorem SatH.drew {w : World} {L : List Asrt} (h : SatH w L) : SatH (wdrew w) L := h.heap rfl
theorem SatH.alloc {w : World} {L : List Asrt} (h : SatH w L) (o : Obj) : SatH (wnew w o) (pt w.heap.size o :: L) := by
  obtain ⟨l, rfl, h⟩ := h
  have hlt : ∀ p ∈ l, ∀ b o, p.2 b = some o → b < w.heap.size := fun p hp b o hbo => by
    have := (h.1 p hp).2 b o hbo
    rcases Nat.lt_or_ge b w.heap.size with h' | h'
    · exact h'
    · simp [Array.getElem?_eq_none h'] at this
  refine ⟨(pt w.heap.size o, fun c => if c = w.heap.size then some o else none) :: l, by simp, ?_, ?_⟩
  · have h' : SatL (wnew w o) l := h.same fun p hp b o' hbo => by
      exact wnew_lt w o (hlt p hp b o' hbo)
    intro q hq
    cases hq with
    | head => exact ⟨rfl, fun b o' hbo => by simp at hbo; rw [hbo.1, ← hbo.2]; exact wnew_eq w o⟩
    | tail _ hq => exact h'.1 q hq
  · rw [List.map_cons, List.pairwise_cons]
    refine ⟨fun g hg b => ?_, h.2⟩
    obtain ⟨p, hp, rfl⟩ := List.mem_map.1 hg
    by_cases hb : b = w.heap.size
    · refine .inr ?_
      cases hpb : p.2 b with
      | none => rfl
      | some o' => have := hlt p hp b o' hpb; omega
    · exact .inl (by simp [hb])
theorem SatH.upd {w : World} {b : Nat} {o o' : Obj} {L : List Asrt} (h : SatH w (pt b o :: L)) : SatH (wupd w b o') (pt b o' :: L) := by
  have hg := h.get 0 (by rfl)
  obtain ⟨l, hl, h1, h2⟩ := h
  cases l with
  | nil => simp at hl
  | cons p l =>
    simp at hl
    obtain ⟨hp, rfl⟩ := hl
    have hq := (h1 p (.head _)).1
    rw [hp] at hq
    have hq : p.2 = fun c => if c = b then some o else none := hq
    have hc := List.pairwise_cons.1 h2
    refine ⟨(pt b o', fun c => if c = b then some o' else none) :: l, by simp, ?_, ?_⟩
    · intro q hqm
      cases hqm with
      | head =>
        refine ⟨rfl, fun c o₁ hc₁ => ?_⟩
        simp at hc₁
        rw [hc₁.1, ← hc₁.2]; exact upd_get w o' hg
      | tail _ hqm =>
        have := h1 q (.tail _ hqm)
        refine ⟨this.1, fun c o₁ hc₁ => ?_⟩
        have hne : c ≠ b := fun e => by
          rcases hc.1 q.2 (List.mem_map_of_mem hqm) b with h0 | h0
          · have h0 : p.2 b = none := h0
            rw [hq] at h0; simp at h0
          · rw [e, h0] at hc₁; cases hc₁
        rw [upd_ne w o' hne]; exact this.2 c o₁ hc₁
    · rw [List.map_cons, List.pairwise_cons]
      refine ⟨fun g hgm c => ?_, hc.2⟩
      rcases hc.1 g hgm c with h0 | h0
      · have h0 : p.2 c = none := h0
        rw [hq] at h0
        by_cases hcb : c = b
        · simp [hcb] at h0
        · exact .inl (by simp [hcb])
      · exact .inr h0

/-- part number i to the front -/
theorem perm_front {α : Type} : ∀ {L : List α} (i : Nat) {A : α}, L[i]? = some A → L.Perm (A :: L.eraseIdx i)
  | [], i, A, h => by simp at h
  | B :: L, 0, A, h => by simp at h; subst h; exact .refl _
  | B :: L, i + 1, A, h => by
    simp at h
    exact ((perm_front i h).cons B).trans (.swap _ _ _)
theorem SatH.front {w : World} {L : List Asrt} (h : SatH w L) (i : Nat) {A : Asrt} (hi : L[i]? = some A) : SatH w (A :: L.eraseIdx i) := h.perm (perm_front i hi)
theorem perm_back {α : Type} : ∀ {L : List α} (i : Nat) (A : α), i ≤ L.length → (A :: L).Perm (L.insertIdx i A)
  | L, 0, A, _ => by simp
  | [], i + 1, A, h => by simp at h
  | B :: L, i + 1, A, h => by
    simp at h
    exact (List.Perm.swap _ _ _).trans ((perm_back i A h).cons B)
theorem eraseIdx_insert {α : Type} : ∀ {L : List α} (i : Nat) (A : α), i < L.length → (L.eraseIdx i).insertIdx i A = L.set i A
  | [], i, A, h => by simp at h
  | B :: L, 0, A, _ => by simp
  | B :: L, i + 1, A, h => by simp at h; simp [eraseIdx_insert i A h]
theorem perm_set {α : Type} {L : List α} (i : Nat) (A : α) (h : i < L.length) : (A :: L.eraseIdx i).Perm (L.set i A) := by
  rw [← eraseIdx_insert i A h]
  exact perm_back i A (by rw [List.length_eraseIdx]; simp [h]; omega)
/-- a store into the block of part i -/
theorem SatH.updAt {w : World} {L : List Asrt} (h : SatH w L) (i : Nat) {b : Nat} {o o' : Obj} (hi : L[i]? = some (pt b o)) : SatH (wupd w b o') (L.set i (pt b o')) := by
  have hlt : i < L.length := by
    rcases Nat.lt_or_ge i L.length with h' | h'
    · exact h'
    · simp [List.getElem?_eq_none h'] at hi
  exact ((h.front i hi).upd).perm (perm_set i _ hlt)
/-- some of the parts, in some order -/
theorem SatH.sel {w : World} {L : List Asrt} (is : List Nat) (h : SatH w L) (hn : is.Nodup) : SatH w (is.filterMap (L[·]?)) := by
  obtain ⟨l, rfl, h1, h2⟩ := h
  refine ⟨is.filterMap (l[·]?), ?_, ?_, ?_⟩
  · rw [List.map_filterMap]
    congr 1
    funext i
    simp
  · intro p hp
    obtain ⟨i, _, hi⟩ := List.mem_filterMap.1 hp
    exact h1 p (List.mem_of_getElem? hi)
  · rw [List.pairwise_map, List.pairwise_filterMap]
    refine List.Pairwise.imp_of_mem ?_ hn
    intro i j _ _ hne p hp q hq
    rw [List.pairwise_map, List.pairwise_iff_getElem] at h2
    obtain ⟨hi, rfl⟩ := List.getElem?_eq_some_iff.1 hp
    obtain ⟨hj, rfl⟩ := List.getElem?_eq_some_iff.1 hq
    rcases Nat.lt_or_gt_of_ne hne with hlt | hlt
    · exact h2 i j hi hj hlt
    · exact (h2 j i hj hi hlt).symm
/-- of the first k parts some, in some order; the others stay -/
theorem SatH.selN {w : World} {L : List Asrt} (k : Nat) (is : List Nat) (h : SatH w L) (hn : is.Nodup) : SatH w (is.filterMap ((L.take k)[·]?) ++ L.drop k) := by
  have h' : SatH w (L.take k ++ L.drop k) := by rw [List.take_append_drop]; exact h
  obtain ⟨l, hl, h1, h2⟩ := h'
  obtain ⟨l1, l2, rfl, hl1, hl2⟩ := List.map_eq_append_iff.1 hl
  rw [List.map_append, List.pairwise_append] at h2
  have hs : SatH w (is.filterMap ((l1.map (·.1))[·]?)) := SatH.sel is ⟨l1, rfl, fun p hp => h1 p (List.mem_append_left _ hp), h2.1⟩ hn
  refine ⟨is.filterMap (l1[·]?) ++ l2, ?_, ?_, ?_⟩
  · rw [List.map_append, hl2, List.map_filterMap, ← hl1]
    congr 2
    funext i
    simp
  · intro p hp
    rcases List.mem_append.1 hp with hp | hp
    · obtain ⟨i, _, hi⟩ := List.mem_filterMap.1 hp
      exact h1 p (List.mem_append_left _ (List.mem_of_getElem? hi))
    · exact h1 p (List.mem_append_right _ hp)
  · rw [List.map_append, List.pairwise_append]
    refine ⟨?_, h2.2.1, ?_⟩
    · rw [List.pairwise_map, List.pairwise_filterMap]
      refine List.Pairwise.imp_of_mem ?_ hn
      intro i j _ _ hne p hp q hq
      have h3 := h2.1
      rw [List.pairwise_map, List.pairwise_iff_getElem] at h3
      obtain ⟨hi, rfl⟩ := List.getElem?_eq_some_iff.1 hp
      obtain ⟨hj, rfl⟩ := List.getElem?_eq_some_iff.1 hq
      rcases Nat.lt_or_gt_of_ne hne with hlt | hlt
      · exact h3 i j hi hj hlt
      · exact (h3 j i hj hi hlt).symm
    · intro a ha c hc
      obtain ⟨p, hp, rfl⟩ := List.mem_map.1 ha
      obtain ⟨i, _, hi⟩ := List.mem_filterMap.1 hp
      exact h2.2.2 _ (List.mem_map_of_mem (List.mem_of_getElem? hi)) c hc

/-- what is not memory stays as it was at the beginning -/
class Env where
  w0 : World
def Same [Env] (w : World) : Prop := w.os = Env.w0.os ∧ w.output = Env.w0.output
def Sat [Env] (w : World) (L : List Asrt) : Prop := Same w ∧ SatH w L
section
variable [Env]
theorem Sat.perm {w : World} {L L' : List Asrt} (h : Sat w L) (hp : L.Perm L') : Sat w L' := ⟨h.1, h.2.perm hp⟩
theorem Sat.empt {w : World} {L : List Asrt} (h : Sat w L) : Sat w [] := ⟨h.1, SatH.nil w⟩
theorem Sat.tail {w : World} {A : Asrt} {L : List Asrt} (h : Sat w (A :: L)) : Sat w L := ⟨h.1, h.2.tail⟩
theorem Sat.impl {w : World} {A B : Asrt} {L : List Asrt} (h : Sat w (A :: L)) (hi : ∀ g, A g → B g) : Sat w (B :: L) := ⟨h.1, h.2.impl hi⟩
theorem Sat.exists {w : World} {α : Type} {A : α → Asrt} {L : List Asrt} (h : Sat w ((fun g => ∃ x, A x g) :: L)) : ∃ x, Sat w (A x :: L) := by
  obtain ⟨x, hx⟩ := h.2.exists; exact ⟨x, h.1, hx⟩
theorem Sat.pure {w : World} {p : Prop} {A : Asrt} {L : List Asrt} (h : Sat w ((fun g => p ∧ A g) :: L)) : p ∧ Sat w (A :: L) := ⟨h.2.pure.1, h.1, h.2.pure.2⟩
theorem Sat.split {w : World} {K L : List Asrt} (h : Sat w (sepL K :: L)) : Sat w (K ++ L) := ⟨h.1, h.2.split⟩
theorem Sat.join {w : World} {K L : List Asrt} (h : Sat w (K ++ L)) : Sat w (sepL K :: L) := ⟨h.1, h.2.join⟩
theorem Sat.get {w : World} {L : List Asrt} (h : Sat w L) (i : Nat) {b : Nat} {o : Obj} (hi : L[i]? = some (pt b o)) : w.heap[b]? = some o := h.2.get i hi
theorem Sat.at {L : List Asrt} (i : Nat) {b : Nat} {o : Obj} (hi : L[i]? = some (pt b o)) : ∀ w, Sat w L → w.heap[b]? = some o := fun _ h => h.get i hi
theorem Sat.drew {w : World} {L : List Asrt} (h : Sat w L) : Sat (wdrew w) L := ⟨h.1, h.2.drew⟩
theorem Sat.alloc {w : World} {L : List Asrt} (h : Sat w L) (o : Obj) : Sat (wnew w o) (pt w.heap.size o :: L) := ⟨h.1, h.2.alloc o⟩
theorem Sat.upd {w : World} {b : Nat} {o o' : Obj} {L : List Asrt} (h : Sat w (pt b o :: L)) : Sat (wupd w b o') (pt b o' :: L) := ⟨h.1, h.2.upd⟩
theorem Sat.front {w : World} {L : List Asrt} (h : Sat w L) (i : Nat) {A : Asrt} (hi : L[i]? = some A) : Sat w (A :: L.eraseIdx i) := ⟨h.1, h.2.front i hi⟩
theorem Sat.updAt {w : World} {L : List Asrt} (h : Sat w L) (i : Nat) {b : Nat} {o o' : Obj} (hi : L[i]? = some (pt b o)) : Sat (wupd w b o') (L.set i (pt b o')) := ⟨h.1, h.2.updAt i hi⟩
theorem Sat.sel {w : World} {L : List Asrt} (is : List Nat) (h : Sat w L) (hn : is.Nodup) : Sat w (is.filterMap (L[·]?)) := ⟨h.1, h.2.sel is hn⟩
theorem Sat.selN {w : World} {L : List Asrt} (k : Nat) (is : List Nat) (h : Sat w L) (hn : is.Nodup) : Sat w (is.filterMap ((L.take k)[·]?) ++ L.drop k) := ⟨h.1, h.2.selN k is hn⟩
end
end Go.Sx
