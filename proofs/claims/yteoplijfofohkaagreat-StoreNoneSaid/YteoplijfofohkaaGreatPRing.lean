/- Lists of keys that share their places, as slots that name each other; plain. -/
import Derived.Test.YteoplijfofohkaaGreatMap
namespace Go.Hw
open Go Go.Sx

abbrev Str := List UInt8
structure Slot where
  key : Str
  list : Nat
  prev : Nat
  next : Nat
def Slot.zero : Slot := ⟨[], 0, 0, 0⟩
structure Ring where
  lists : Nat
  slots : List Slot
  free : List Nat
  «at» : List (Str × Nat)
  many : List Nat
def sl (S : List Slot) (i : Nat) : Slot := S.getD i Slot.zero
def setN (S : List Slot) (i n : Nat) : List Slot := S.modify i fun s => { s with next := n }
def setP (S : List Slot) (i n : Nat) : List Slot := S.modify i fun s => { s with prev := n }
def setK (S : List Slot) (i : Nat) (k : Str) : List Slot := S.modify i fun s => { s with key := k }
def setL (S : List Slot) (i l : Nat) : List Slot := S.modify i fun s => { s with list := l }
theorem sl_modify (S : List Slot) (f : Slot → Slot) (i j : Nat) (h : i < S.length) : sl (S.modify i f) j = if i = j then f (sl S j) else sl S j := by
  unfold sl
  rw [List.getD_eq_getElem?_getD, List.getElem?_modify, List.getD_eq_getElem?_getD]
  split
  · rename_i e; subst e; simp [List.getElem?_eq_getElem h]
  · simp
theorem sl_setN {S : List Slot} {i : Nat} (n j : Nat) (h : i < S.length) : sl (setN S i n) j = if i = j then { sl S j with next := n } else sl S j := sl_modify S _ i j h
theorem sl_setP {S : List Slot} {i : Nat} (n j : Nat) (h : i < S.length) : sl (setP S i n) j = if i = j then { sl S j with prev := n } else sl S j := sl_modify S _ i j h
theorem sl_setK {S : List Slot} {i : Nat} (k : Str) (j : Nat) (h : i < S.length) : sl (setK S i k) j = if i = j then { sl S j with key := k } else sl S j := sl_modify S _ i j h
theorem sl_setL {S : List Slot} {i : Nat} (n j : Nat) (h : i < S.length) : sl (setL S i n) j = if i = j then { sl S j with list := n } else sl S j := sl_modify S _ i j h
theorem setN_len (S : List Slot) (i n : Nat) : (setN S i n).length = S.length := by simp [setN]
theorem setP_len (S : List Slot) (i n : Nat) : (setP S i n).length = S.length := by simp [setP]
theorem setK_len (S : List Slot) (i : Nat) (k : Str) : (setK S i k).length = S.length := by simp [setK]
theorem setL_len (S : List Slot) (i n : Nat) : (setL S i n).length = S.length := by simp [setL]

/-- what cut and link do to the slots -/
def cutS (S : List Slot) (i : Nat) : List Slot := setP (setN S (sl S i).prev (sl S i).next) (sl S i).next (sl S i).prev
def linkS (S : List Slot) (i l : Nat) : List Slot :=
  let n := (sl S l).next
  setN (setP (setN (setP (setL S i l) i l) i n) n i) l i
theorem cutS_len (S : List Slot) (i : Nat) : (cutS S i).length = S.length := by simp [cutS, setP_len, setN_len]
theorem linkS_len (S : List Slot) (i l : Nat) : (linkS S i l).length = S.length := by simp [linkS, setP_len, setN_len, setL_len]

/-- From a along l to b: each names the next one, and the one ahead. -/
def Seg (S : List Slot) : Nat → List Nat → Nat → Prop
  | a, [], b => (sl S a).next = b ∧ (sl S b).prev = a
  | a, i :: l, b => (sl S a).next = i ∧ (sl S i).prev = a ∧ Seg S i l b
theorem Seg.append {S : List Slot} : ∀ {A : List Nat} {a i : Nat} {B : List Nat} {b : Nat}, Seg S a (A ++ i :: B) b ↔ Seg S a A i ∧ Seg S i B b
  | [], a, i, B, b => by simp [Seg, and_assoc]
  | k :: A, a, i, B, b => by simp [Seg, Seg.append (A := A), and_assoc]
/-- what is elsewhere does not matter -/
theorem Seg.frame {S S' : List Slot} : ∀ {l : List Nat} {a b : Nat}, (∀ x, x = a ∨ x ∈ l → (sl S' x).next = (sl S x).next) → (∀ x, x ∈ l ∨ x = b → (sl S' x).prev = (sl S x).prev) → Seg S a l b → Seg S' a l b
  | [], a, b, hn, hp, h => ⟨(hn a (.inl rfl)).trans h.1, (hp b (.inr rfl)).trans h.2⟩
  | i :: l, a, b, hn, hp, h => ⟨(hn a (.inl rfl)).trans h.1, (hp i (.inl (.head _))).trans h.2.1, h.2.2.frame (fun x hx => hn x (.inr (by rcases hx with rfl | hx <;> simp [*]))) (fun x hx => hp x (by rcases hx with hx | rfl <;> simp [*]))⟩
theorem Seg.prev_mem {S : List Slot} : ∀ {l : List Nat} {a b : Nat}, Seg S a l b → (sl S b).prev = a ∨ (sl S b).prev ∈ l
  | [], a, b, h => .inl h.2
  | i :: l, a, b, h => by rcases h.2.2.prev_mem with h1 | h1 <;> simp [h1]
theorem Seg.next_mem {S : List Slot} {l : List Nat} {a b : Nat} (h : Seg S a l b) : (sl S a).next = b ∨ (sl S a).next ∈ l := by
  cases l with
  | nil => exact .inl h.1
  | cons i l => right; simp [h.1]

theorem cutS_next {S : List Slot} {i x : Nat} (hp : (sl S i).prev < S.length) (hn : (sl S i).next < S.length) : (sl (cutS S i) x).next = if (sl S i).prev = x then (sl S i).next else (sl S x).next := by
  unfold cutS
  rw [sl_setP _ _ (by rw [setN_len]; exact hn), sl_setN _ _ hp]
  split <;> split <;> rfl
theorem cutS_prev {S : List Slot} {i x : Nat} (hp : (sl S i).prev < S.length) (hn : (sl S i).next < S.length) : (sl (cutS S i) x).prev = if (sl S i).next = x then (sl S i).prev else (sl S x).prev := by
  unfold cutS
  rw [sl_setP _ _ (by rw [setN_len]; exact hn), sl_setN _ _ hp]
  split <;> split <;> rfl
theorem cutS_key {S : List Slot} {i x : Nat} (hp : (sl S i).prev < S.length) (hn : (sl S i).next < S.length) : (sl (cutS S i) x).key = (sl S x).key ∧ (sl (cutS S i) x).list = (sl S x).list := by
  unfold cutS
  rw [sl_setP _ _ (by rw [setN_len]; exact hn), sl_setN _ _ hp]
  split <;> split <;> exact ⟨rfl, rfl⟩

theorem Seg.cut {S : List Slot} {i b : Nat} {B : List Nat} (hp : (sl S i).prev < S.length) (hn : (sl S i).next < S.length) (hB : Seg S i B b) (hib : i ≠ b) : ∀ {A : List Nat} {a : Nat}, Seg S a A i → (a :: A ++ i :: B).Nodup → (∀ x ∈ A ++ i :: B, x ≠ b) → (A ≠ [] → a = b ∨ a ∉ B) →
    Seg (cutS S i) a (A ++ B) b
  | [], a, hA, hnd, hb, _ => by
    have h1 : (sl S i).prev = a := hA.2
    cases B with
    | nil =>
      have h2 : (sl S i).next = b := hB.1
      refine ⟨?_, ?_⟩
      · rw [cutS_next hp hn, if_pos h1, h2]
      · rw [cutS_prev hp hn, if_pos h2, h1]
    | cons j B =>
      have h2 : (sl S i).next = j := hB.1
      refine ⟨?_, ?_, ?_⟩
      · rw [cutS_next hp hn, if_pos h1, h2]
      · rw [cutS_prev hp hn, if_pos h2, h1]
      · refine hB.2.2.frame (fun x hx => ?_) (fun x hx => ?_)
        · rw [cutS_next hp hn, if_neg]
          rintro rfl
          rw [h1] at hx
          simp at hnd
          rcases hx with rfl | hx
          · exact hnd.1.2.1 rfl
          · exact hnd.1.2.2 hx
        · rw [cutS_prev hp hn, if_neg]
          rintro rfl
          rw [h2] at hx
          simp at hnd
          rcases hx with hx | hx
          · exact hnd.2.2.1 hx
          · exact hb j (by simp) hx
  | k :: A, a, hA, hnd, hb, hc => by
    simp only [List.cons_append, List.nodup_cons, List.mem_cons, List.mem_append, not_or] at hnd
    obtain ⟨⟨ha1, ha2, ha3, ha4⟩, ⟨hk1, hk2, hk3⟩, hnd⟩ := hnd
    have ih := Seg.cut hp hn hB hib hA.2.2 (by simp [List.nodup_cons]; exact ⟨⟨hk1, hk2, hk3⟩, hnd⟩) (fun x hx => hb x (by simp at hx ⊢; exact .inr hx)) (fun _ => .inr hk3)
    refine ⟨?_, ?_, ih⟩
    · rw [cutS_next hp hn, if_neg]
      · exact hA.1
      · intro he
        rcases hA.2.2.prev_mem with h1 | h1
        · exact ha1 (he.symm.trans h1)
        · exact ha2 (he ▸ h1)
    · rw [cutS_prev hp hn, if_neg]
      · exact hA.2.1
      · intro he
        rcases hB.next_mem with h1 | h1
        · exact hb k (by simp) (he.symm.trans h1)
        · exact hk3 (he ▸ h1)

theorem linkS_sl {S : List Slot} {i l : Nat} (hi : i < S.length) (hl : l < S.length) (hn : (sl S l).next < S.length) (hil : i ≠ l) (hin : (sl S l).next ≠ i) (x : Nat) :
    sl (linkS S i l) x = if x = i then ⟨(sl S i).key, l, l, (sl S l).next⟩ else
      ⟨(sl S x).key, (sl S x).list, if x = (sl S l).next then i else (sl S x).prev, if x = l then i else (sl S x).next⟩ := by
  unfold linkS
  simp only []
  rw [sl_setN _ _ (by simp [setP_len, setN_len, setL_len]; exact hl), sl_setP _ _ (by simp [setP_len, setN_len, setL_len]; exact hn), sl_setN _ _ (by simp [setP_len, setL_len]; exact hi), sl_setP _ _ (by simp [setL_len]; exact hi), sl_setL _ _ hi]
  by_cases h1 : x = i
  · subst h1
    have h2 : ¬ l = x := fun e => hil e.symm
    simp [h2, hin]
  · have h1' : ¬ i = x := fun e => h1 e.symm
    simp only [h1, h1', if_false]
    by_cases h3 : x = (sl S l).next
    · by_cases h4 : x = l
      · simp [← h3, h4]
      · have h4' : ¬ l = x := fun e => h4 e.symm
        simp [← h3, h4, h4']
    · have h3' : ¬ (sl S l).next = x := fun e => h3 e.symm
      by_cases h4 : x = l
      · subst h4; simp [h3, h3']
      · have h4' : ¬ l = x := fun e => h4 e.symm
        simp [h3, h3', h4, h4']
theorem Seg.link {S : List Slot} {i l : Nat} {I : List Nat} (hi : i < S.length) (hl : l < S.length) (hn : (sl S l).next < S.length) (hil : i ≠ l) (hI : i ∉ I) (hlI : l ∉ I) (hnd : I.Nodup) (h : Seg S l I l) : Seg (linkS S i l) l (i :: I) l := by
  have hin : (sl S l).next ≠ i := by
    rcases h.next_mem with h1 | h1
    · rw [h1]; exact fun e => hil e.symm
    · exact fun e => hI (e ▸ h1)
  have hs := linkS_sl hi hl hn hil hin
  refine ⟨by rw [hs, if_neg (fun e => hil e.symm)]; simp, by rw [hs, if_pos rfl], ?_⟩
  cases I with
  | nil =>
    have h1 : (sl S l).next = l := h.1
    exact ⟨by rw [hs, if_pos rfl]; exact h1, by rw [hs, if_neg (fun e => hil e.symm)]; simp [h1]⟩
  | cons j I =>
    have h1 : (sl S l).next = j := h.1
    simp only [List.mem_cons, not_or] at hI hlI
    simp only [List.nodup_cons] at hnd
    refine ⟨by rw [hs, if_pos rfl]; exact h1, by rw [hs, if_neg (fun e => hI.1 e.symm)]; simp [h1], ?_⟩
    refine h.2.2.frame (fun x hx => ?_) (fun x hx => ?_)
    · have h2 : ¬ x = i := by rintro rfl; rcases hx with rfl | hx <;> first | exact (hI.1 rfl) | exact (hI.2 hx)
      have h3 : ¬ x = l := by rintro rfl; rcases hx with rfl | hx <;> first | exact (hlI.1 rfl) | exact (hlI.2 hx)
      rw [hs, if_neg h2]; simp [h3]
    · have h2 : ¬ x = i := by rintro rfl; rcases hx with hx | rfl <;> first | exact (hI.2 hx) | exact (hil rfl)
      have h3 : ¬ x = j := by rintro rfl; rcases hx with hx | rfl <;> first | exact (hnd.1 hx) | exact (hlI.1 rfl)
      rw [hs, if_neg h2]; simp [h1, h3]

theorem flatten_erase {α : Type} : ∀ (I : List (List α)) (l : Nat), l < I.length → I.flatten.Perm (I.getD l [] ++ (I.eraseIdx l).flatten)
  | [], l, h => by simp at h
  | X :: I, 0, h => by simp
  | X :: I, l + 1, h => by
    have := flatten_erase I l (by simpa using h)
    simp only [List.flatten_cons, List.getD_cons_succ, List.eraseIdx_cons_succ]
    refine (this.append_left X).trans ?_
    rw [← List.append_assoc, ← List.append_assoc]
    exact List.perm_append_comm.append_right _
theorem flatten_set {α : Type} : ∀ (I : List (List α)) (l : Nat) (Y : List α), l < I.length → (I.set l Y).flatten.Perm (Y ++ (I.eraseIdx l).flatten)
  | [], l, Y, h => by simp at h
  | X :: I, 0, Y, h => by simp
  | X :: I, l + 1, Y, h => by
    have := flatten_set I l Y (by simpa using h)
    simp only [List.set_cons_succ, List.flatten_cons, List.eraseIdx_cons_succ]
    refine (this.append_left X).trans ?_
    rw [← List.append_assoc, ← List.append_assoc]
    exact List.perm_append_comm.append_right _
theorem getD_set_eq {α : Type} {I : List α} {l : Nat} (Y d : α) (h : l < I.length) : (I.set l Y).getD l d = Y := by simp [h]
theorem getD_set_ne' {α : Type} {I : List α} {l k : Nat} (Y d : α) (h : l ≠ k) : (I.set l Y).getD k d = I.getD k d := by
  rw [List.getD_eq_getElem?_getD, List.getElem?_set_ne h, ← List.getD_eq_getElem?_getD]
theorem mem_flatten_getD {α : Type} {I : List (List α)} {l : Nat} {x : α} (h : x ∈ I.getD l []) : x ∈ I.flatten := by
  rw [List.getD_eq_getElem?_getD] at h
  cases hl : I[l]? with
  | none => simp [hl] at h
  | some X => rw [hl] at h; exact List.mem_flatten.2 ⟨X, List.mem_of_getElem? hl, h⟩
theorem flatten_getD {α : Type} {I : List (List α)} {x : α} (h : x ∈ I.flatten) : ∃ l, l < I.length ∧ x ∈ I.getD l [] := by
  obtain ⟨X, hX, hx⟩ := List.mem_flatten.1 h
  obtain ⟨l, hl, rfl⟩ := List.getElem_of_mem hX
  exact ⟨l, hl, by simpa [hl] using hx⟩
/-- two lists have no slot in common -/
theorem flatten_apart {α : Type} {I : List (List α)} (hnd : I.flatten.Nodup) {l k : Nat} {x : α} (hl : x ∈ I.getD l []) (hk : x ∈ I.getD k []) : l = k := by
  have ll : l < I.length := by
    rcases Nat.lt_or_ge l I.length with h | h
    · exact h
    · simp [List.getElem?_eq_none h] at hl
  apply Classical.byContradiction
  intro hne
  have hp := (flatten_erase I l ll).nodup_iff.1 hnd
  rw [List.nodup_append] at hp
  refine hp.2.2 x hl x ?_ rfl
  have kl : k < I.length := by
    rcases Nat.lt_or_ge k I.length with h | h
    · exact h
    · simp [List.getElem?_eq_none h] at hk
  rw [List.getD_eq_getElem?_getD, List.getElem?_eq_getElem kl] at hk
  refine List.mem_flatten.2 ⟨I[k], ?_, hk⟩
  rw [List.mem_eraseIdx_iff_getElem?]
  exact ⟨k, Ne.symm hne, List.getElem?_eq_getElem kl⟩

/-- The lists l are the slots I l, from the front on; H are in hand, in no list. -/
structure Core (lists places : Nat) (S : List Slot) (free many : List Nat) (I : List (List Nat)) (H : List Nat) : Prop where
  ilen : I.length = lists
  many : many = I.map List.length
  slen : S.length = lists + places
  seg : ∀ l, l < lists → Seg S l (I.getD l []) l
  lst : ∀ l i, i ∈ I.getD l [] → (sl S i).list = l
  nodup : (I.flatten ++ (H ++ free)).Nodup
  range : ∀ i, i ∈ I.flatten ++ (H ++ free) → lists ≤ i ∧ i < S.length
  cnt : I.flatten.length + (H.length + free.length) = places

section
variable {lists places : Nat} {S : List Slot} {free many : List Nat} {I : List (List Nat)} {H : List Nat}
theorem Core.lt (h : Core lists places S free many I H) {l i : Nat} (hi : i ∈ I.getD l []) : l < lists := by
  rw [← h.ilen]
  rcases Nat.lt_or_ge l I.length with h1 | h1
  · exact h1
  · simp [List.getElem?_eq_none h1] at hi
theorem Core.inr (h : Core lists places S free many I H) {l i : Nat} (hi : i ∈ I.getD l []) : lists ≤ i ∧ i < S.length := h.range i (List.mem_append_left _ (mem_flatten_getD hi))
theorem Core.links (h : Core lists places S free many I H) {l i : Nat} (hl : l < lists) (hi : i = l ∨ i ∈ I.getD l []) : ((sl S i).next = l ∨ (sl S i).next ∈ I.getD l []) ∧ ((sl S i).prev = l ∨ (sl S i).prev ∈ I.getD l []) := by
  have hs := h.seg l hl
  rcases hi with rfl | hi
  · exact ⟨hs.next_mem, hs.prev_mem⟩
  · obtain ⟨A, B, hAB⟩ := List.append_of_mem hi
    rw [hAB] at hs ⊢
    obtain ⟨h1, h2⟩ := Seg.append.1 hs
    refine ⟨?_, ?_⟩
    · rcases h2.next_mem with h3 | h3
      · exact .inl h3
      · exact .inr (by simp [h3])
    · rcases h1.prev_mem with h3 | h3
      · exact .inl h3
      · exact .inr (by simp [h3])
theorem Core.links_lt (h : Core lists places S free many I H) {l i : Nat} (hl : l < lists) (hi : i = l ∨ i ∈ I.getD l []) : (sl S i).next < S.length ∧ (sl S i).prev < S.length := by
  have h1 := h.links hl hi
  have hls := h.slen
  refine ⟨?_, ?_⟩
  · rcases h1.1 with h2 | h2
    · omega
    · exact (h.inr h2).2
  · rcases h1.2 with h2 | h2
    · omega
    · exact (h.inr h2).2

theorem Core.cut (h : Core lists places S free many I H) {l i : Nat} {A B : List Nat} (hI : I.getD l [] = A ++ i :: B) :
    Core lists places (cutS S i) free (many.set l (many.getD l 0 - 1)) (I.set l (A ++ B)) (i :: H) := by
  have hi : i ∈ I.getD l [] := by rw [hI]; simp
  have hl := h.lt hi
  have hlI : l < I.length := by rw [h.ilen]; exact hl
  obtain ⟨hn, hp⟩ := h.links_lt hl (.inr hi)
  have hlk := h.links hl (.inr hi)
  have hir := h.inr hi
  have p1 := flatten_erase I l hlI
  have p2 := flatten_set I l (A ++ B) hlI
  rw [hI] at p1
  have pall : (I.flatten ++ (H ++ free)).Perm ((I.set l (A ++ B)).flatten ++ (i :: H ++ free)) := by
    have e1 : I.flatten.Perm (i :: (I.set l (A ++ B)).flatten) := by
      refine p1.trans (List.Perm.trans ?_ (p2.cons i).symm)
      have : (A ++ i :: B).Perm (i :: (A ++ B)) := List.perm_middle
      exact this.append_right _
    refine (e1.append_right _).trans ?_
    exact (List.perm_middle (a := i) (l₁ := (I.set l (A ++ B)).flatten) (l₂ := H ++ free)).symm
  have hnd := List.nodup_append.1 h.nodup
  have hndl : (A ++ i :: B).Nodup := by
    have := p1.nodup_iff.1 hnd.1
    exact (List.nodup_append.1 this).1
  have hge : ∀ x ∈ A ++ i :: B, x ≠ l := fun x hx => by have := (h.inr (l := l) (i := x) (by rw [hI]; exact hx)).1; omega
  have hlnot : l ∉ A ++ i :: B := fun hx => hge l hx rfl
  refine ⟨by simp [h.ilen], ?_, by rw [cutS_len]; exact h.slen, fun k hk => ?_, fun k j hj => ?_, pall.nodup_iff.1 h.nodup, fun j hj => ?_, ?_⟩
  · rw [h.many]
    have : (I.map List.length).getD l 0 - 1 = (A ++ B).length := by
      have : (I.map List.length).getD l 0 = (I.getD l []).length := by simp [hlI]
      rw [this, hI]; simp
    rw [this]
    simp [List.map_set]
  · by_cases hkl : l = k
    · subst hkl
      rw [getD_set_eq _ _ hlI]
      have hs := h.seg l hl
      rw [hI] at hs
      obtain ⟨h1, h2⟩ := Seg.append.1 hs
      exact Seg.cut hp hn h2 (fun e => hge i (by simp) e) h1 (by rw [List.cons_append, List.nodup_cons]; exact ⟨hlnot, hndl⟩) hge (fun _ => .inl rfl)
    · rw [getD_set_ne' _ _ hkl]
      have hap : ∀ x, x = k ∨ x ∈ I.getD k [] → ∀ y, y = l ∨ y ∈ I.getD l [] → y ≠ x := by
        rintro x hx y hy rfl
        rcases hx with rfl | hx
        · rcases hy with rfl | hy
          · exact hkl rfl
          · have := (h.inr hy).1; omega
        · rcases hy with rfl | hy
          · have := (h.inr hx).1; omega
          · exact hkl (flatten_apart hnd.1 hy hx)
      refine (h.seg k hk).frame (fun x hx => ?_) (fun x hx => ?_)
      · rw [cutS_next hp hn, if_neg (hap x hx _ hlk.2)]
      · rw [cutS_prev hp hn, if_neg (hap x hx.symm _ hlk.1)]
  · rw [(cutS_key hp hn).2]
    by_cases hkl : l = k
    · subst hkl
      rw [getD_set_eq _ _ hlI] at hj
      exact h.lst l j (by rw [hI]; simp at hj ⊢; rcases hj with hj | hj <;> simp [hj])
    · rw [getD_set_ne' _ _ hkl] at hj
      exact h.lst k j hj
  · rw [cutS_len]; exact h.range j (pall.mem_iff.2 hj)
  · have := pall.length_eq
    simp only [List.length_append, List.length_cons] at this
    have h2 := h.cnt
    simp only [List.length_cons]; omega

theorem Core.link {l i : Nat} (h : Core lists places S free many I (i :: H)) (hl : l < lists) :
    Core lists places (linkS S i l) free (many.set l (many.getD l 0 + 1)) (I.set l (i :: I.getD l [])) H := by
  have hlI : l < I.length := by rw [h.ilen]; exact hl
  have hls := h.slen
  have hnd := List.nodup_append.1 h.nodup
  have hir := h.range i (by simp)
  obtain ⟨hn, hp⟩ := h.links_lt hl (.inl rfl)
  have hiI : ∀ k, i ∉ I.getD k [] := fun k hk => hnd.2.2 i (mem_flatten_getD hk) i (by simp) rfl
  have hlk := h.links hl (.inl rfl)
  have hin : (sl S l).next ≠ i := by
    rcases hlk.1 with h1 | h1
    · omega
    · exact fun e => hiI l (e ▸ h1)
  have hil : i ≠ l := by omega
  have hs := linkS_sl hir.2 (by omega) hn hil hin
  have p1 := flatten_erase I l hlI
  have p2 := flatten_set I l (i :: I.getD l []) hlI
  have pall : (I.flatten ++ (i :: H ++ free)).Perm ((I.set l (i :: I.getD l [])).flatten ++ (H ++ free)) := by
    have e1 : (I.set l (i :: I.getD l [])).flatten.Perm (i :: I.flatten) := p2.trans ((p1.symm).cons i)
    refine (List.perm_middle (a := i) (l₁ := I.flatten) (l₂ := H ++ free)).trans ?_
    exact (e1.symm.append_right (H ++ free))
  have hndl : (I.getD l []).Nodup := (List.nodup_append.1 (p1.nodup_iff.1 hnd.1)).1
  refine ⟨by simp [h.ilen], ?_, by rw [linkS_len]; exact h.slen, fun k hk => ?_, fun k j hj => ?_, pall.nodup_iff.1 h.nodup, fun j hj => ?_, ?_⟩
  · rw [h.many]
    have : (I.map List.length).getD l 0 + 1 = (i :: I.getD l []).length := by simp [hlI]
    rw [this]
    simp [List.map_set]
  · by_cases hkl : l = k
    · subst hkl
      rw [getD_set_eq _ _ hlI]
      exact Seg.link hir.2 (by omega) hn hil (hiI l) (fun e => by have := (h.inr e).1; omega) hndl (h.seg l hl)
    · rw [getD_set_ne' _ _ hkl]
      have hap : ∀ x, x = k ∨ x ∈ I.getD k [] → ∀ y, y = l ∨ y ∈ I.getD l [] → y ≠ x := by
        rintro x hx y hy rfl
        rcases hx with rfl | hx
        · rcases hy with rfl | hy
          · exact hkl rfl
          · have := (h.inr hy).1; omega
        · rcases hy with rfl | hy
          · have := (h.inr hx).1; omega
          · exact hkl (flatten_apart hnd.1 hy hx)
      have hxi : ∀ x, x = k ∨ x ∈ I.getD k [] → x ≠ i := by
        rintro x (rfl | hx) rfl
        · omega
        · exact hiI k hx
      refine (h.seg k hk).frame (fun x hx => ?_) (fun x hx => ?_)
      · rw [hs, if_neg (hxi x hx)]
        simp only []
        rw [if_neg (fun e => hap x hx l (.inl rfl) e.symm)]
      · have hx' : x = k ∨ x ∈ I.getD k [] := hx.symm
        rw [hs, if_neg (hxi x hx')]
        simp only []
        rw [if_neg (fun e => hap x hx' _ hlk.1 e.symm)]
  · rw [hs]
    by_cases hkl : l = k
    · subst hkl
      rw [getD_set_eq _ _ hlI] at hj
      rcases List.mem_cons.1 hj with rfl | hj
      · simp
      · rw [if_neg (fun e : j = i => hiI l (e ▸ hj))]; exact h.lst l j hj
    · rw [getD_set_ne' _ _ hkl] at hj
      rw [if_neg (fun e : j = i => hiI k (e ▸ hj))]; exact h.lst k j hj
  · rw [linkS_len]; exact h.range j (pall.mem_iff.2 hj)
  · have := pall.length_eq
    simp only [List.length_append, List.length_cons] at this
    have h2 := h.cnt
    simp only [List.length_cons] at h2; omega
end
end Go.Hw
