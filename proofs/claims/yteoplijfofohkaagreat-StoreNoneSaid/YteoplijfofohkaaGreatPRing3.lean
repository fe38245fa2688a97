/- Lists of keys: to the front, out, where they are; sizes. -/
import Derived.Test.YteoplijfofohkaaGreatPRing2
namespace Go.Hw
open Go Go.Sx
variable {K : List (List Str)} {k : Str}
/-- in which list a key is -/
def whichK (K : List (List Str)) (k : Str) : Option Nat := (List.range K.length).find? fun l => decide (k ∈ K.getD l [])
theorem lt_of_mem_getD {l : Nat} (hk : k ∈ K.getD l []) : l < K.length := by
  rcases Nat.lt_or_ge l K.length with h1 | h1
  · exact h1
  · simp [List.getElem?_eq_none h1] at hk
theorem which_some (h : K.flatten.Nodup) {l : Nat} (hk : k ∈ K.getD l []) : whichK K k = some l := by
  have hl := lt_of_mem_getD hk
  unfold whichK
  cases hf : (List.range K.length).find? fun l => decide (k ∈ K.getD l []) with
  | none =>
    have := List.find?_eq_none.1 hf l (by simpa using hl)
    simp only [decide_eq_true_eq] at this
    exact absurd hk this
  | some m =>
    have := List.find?_some hf
    simp only [decide_eq_true_eq] at this
    rw [flatten_apart h this hk]
theorem which_none (hk : k ∉ K.flatten) : whichK K k = none := by
  unfold whichK
  rw [List.find?_eq_none]
  intro l _
  simp only [decide_eq_true_eq]
  exact fun h => hk (mem_flatten_getD h)
theorem which_mem {l : Nat} (h : whichK K k = some l) : k ∈ K.getD l [] := by
  have := List.find?_some h
  simpa only [decide_eq_true_eq] using this
theorem which_isNone : whichK K k = none ↔ k ∉ K.flatten := by
  refine ⟨fun h hk => ?_, which_none⟩
  obtain ⟨l, hl, hm⟩ := flatten_getD hk
  have := List.find?_eq_none.1 h l (by simpa using hl)
  simp only [decide_eq_true_eq] at this
  exact this hm
theorem len_le_flatten {α : Type} : ∀ (K : List (List α)) (l : Nat), (K.getD l []).length ≤ K.flatten.length
  | [], l => by simp
  | X :: K, 0 => by simp
  | X :: K, l + 1 => by have := len_le_flatten K l; simp only [List.getD_cons_succ, List.flatten_cons, List.length_append]; omega
theorem dropK_len : (dropK K k).length = K.length := by simp [dropK]
theorem frontK_len (l : Nat) : (frontK K l k).length = K.length := by simp [frontK, dropK]
theorem dropK_getD (l : Nat) : (dropK K k).getD l [] = (K.getD l []).filter fun x => decide (x ≠ k) := by
  unfold dropK
  rw [List.getD_eq_getElem?_getD, List.getElem?_map, List.getD_eq_getElem?_getD]
  cases K[l]? <;> rfl
theorem frontK_getD {l : Nat} (hl : l < K.length) (m : Nat) : (frontK K l k).getD m [] = if m = l then k :: ((K.getD m []).filter fun x => decide (x ≠ k)) else (K.getD m []).filter fun x => decide (x ≠ k) := by
  unfold frontK
  rw [modify_set]
  by_cases h : l = m
  · subst h; rw [getD_set_eq _ _ (by rw [dropK_len]; exact hl), if_pos rfl, dropK_getD]
  · rw [getD_set_ne' _ _ h, if_neg (fun e => h e.symm), dropK_getD]
theorem filter_ne_self {X : List Str} (h : k ∉ X) : (X.filter fun x => decide (x ≠ k)) = X := by
  refine List.filter_eq_self.2 fun x hx => ?_
  simp; rintro rfl; exact h hx
theorem filter_ne_len {X : List Str} (hn : X.Nodup) (h : k ∈ X) : (X.filter fun x => decide (x ≠ k)).length + 1 = X.length := by
  obtain ⟨A, B, rfl⟩ := List.append_of_mem h
  rw [List.nodup_append] at hn
  simp only [List.nodup_cons] at hn
  rw [List.filter_append, List.filter_cons]
  simp only [ne_eq, not_true_eq_false, decide_false, Bool.false_eq_true, if_false]
  have h1 : (A.filter fun x => decide (x ≠ k)) = A := filter_ne_self fun hx => hn.2.2 k hx k (.head _) rfl
  have h2 : (B.filter fun x => decide (x ≠ k)) = B := filter_ne_self hn.2.1.1
  simp only [ne_eq] at h1 h2
  rw [h1, h2]; simp; omega
theorem dropK_flatten : (dropK K k).flatten = K.flatten.filter fun x => decide (x ≠ k) := by
  unfold dropK; rw [List.filter_flatten]
theorem dropK_self (h : k ∉ K.flatten) : dropK K k = K := by
  unfold dropK
  conv => rhs; rw [← List.map_id K]
  exact List.map_congr_left fun X hX => filter_ne_self fun hx => h (List.mem_flatten.2 ⟨X, hX, hx⟩)
theorem frontK_perm {l : Nat} (hl : l < K.length) : (frontK K l k).flatten.Perm (k :: (dropK K k).flatten) := by
  unfold frontK
  rw [modify_set]
  have hl' : l < (dropK K k).length := by rw [dropK_len]; exact hl
  refine (flatten_set _ l _ hl').trans ?_
  exact ((flatten_erase _ l hl').symm.cons k)
theorem dropK_nodup (h : K.flatten.Nodup) : (dropK K k).flatten.Nodup := by rw [dropK_flatten]; exact List.filter_sublist.nodup h
theorem frontK_nodup {l : Nat} (hl : l < K.length) (h : K.flatten.Nodup) : (frontK K l k).flatten.Nodup := by
  rw [(frontK_perm hl).nodup_iff, List.nodup_cons]
  exact ⟨by rw [dropK_flatten]; simp, dropK_nodup h⟩
theorem mem_dropK {x : Str} : x ∈ (dropK K k).flatten ↔ x ∈ K.flatten ∧ x ≠ k := by rw [dropK_flatten, List.mem_filter, decide_eq_true_eq]
theorem mem_frontK {l : Nat} (hl : l < K.length) {x : Str} : x ∈ (frontK K l k).flatten ↔ x = k ∨ x ∈ K.flatten := by
  rw [(frontK_perm hl).mem_iff, List.mem_cons, mem_dropK]
  by_cases h : x = k <;> simp [h]
theorem dropK_flen (h : K.flatten.Nodup) (hk : k ∈ K.flatten) : (dropK K k).flatten.length + 1 = K.flatten.length := by
  rw [dropK_flatten]; exact filter_ne_len h hk
theorem frontK_flen_old {l : Nat} (hl : l < K.length) (h : K.flatten.Nodup) (hk : k ∈ K.flatten) : (frontK K l k).flatten.length = K.flatten.length := by
  rw [(frontK_perm hl).length_eq, List.length_cons, dropK_flen h hk]
theorem frontK_flen_new {l : Nat} (hl : l < K.length) (hk : k ∉ K.flatten) : (frontK K l k).flatten.length = K.flatten.length + 1 := by
  rw [(frontK_perm hl).length_eq, List.length_cons, dropK_self hk]
/-- how many keys a list has, behind a move -/
theorem frontK_n {l : Nat} (hl : l < K.length) (h : K.flatten.Nodup) {m : Nat} (hm : k ∈ K.getD m []) (j : Nat) :
    ((frontK K l k).getD j []).length + (if j = m then 1 else 0) = (K.getD j []).length + (if j = l then 1 else 0) := by
  rw [frontK_getD hl]
  by_cases hjm : j = m
  · subst hjm
    have hn : (K.getD j []).Nodup := by
      have hj := lt_of_mem_getD hm
      exact (List.nodup_append.1 ((flatten_erase K j hj).nodup_iff.1 h)).1
    have := filter_ne_len hn hm
    by_cases hjl : j = l
    · simp only [hjl, if_true, List.length_cons] at *; omega
    · simp only [hjl, if_false, if_true] at *; omega
  · have hnj : k ∉ K.getD j [] := fun hx => hjm (flatten_apart h hx hm)
    rw [filter_ne_self hnj]
    by_cases hjl : j = l
    · have hlm : ¬ l = m := fun e => hjm (hjl.trans e)
      simp [hjl, hlm]
    · simp [hjl, hjm]
theorem frontK_n_new {l : Nat} (hl : l < K.length) (hk : k ∉ K.flatten) (j : Nat) : ((frontK K l k).getD j []).length = (K.getD j []).length + (if j = l then 1 else 0) := by
  rw [frontK_getD hl]
  have hnj : k ∉ K.getD j [] := fun hx => hk (mem_flatten_getD hx)
  rw [filter_ne_self hnj]
  by_cases hjl : j = l <;> simp [hjl]
theorem dropK_n (h : K.flatten.Nodup) {m : Nat} (hm : k ∈ K.getD m []) (j : Nat) : ((dropK K k).getD j []).length + (if j = m then 1 else 0) = (K.getD j []).length := by
  rw [dropK_getD]
  by_cases hjm : j = m
  · subst hjm
    have hn : (K.getD j []).Nodup := by
      have hj := lt_of_mem_getD hm
      exact (List.nodup_append.1 ((flatten_erase K j hj).nodup_iff.1 h)).1
    have := filter_ne_len hn hm
    simp only [if_true]; omega
  · have hnj : k ∉ K.getD j [] := fun hx => hjm (flatten_apart h hx hm)
    rw [filter_ne_self hnj]; simp [hjm]
theorem getLast_mem {X : List Str} (h : X.getLast? = some k) : k ∈ X := by
  obtain ⟨A, rfl⟩ := List.getLast?_eq_some_iff.1 h; simp
end Go.Hw
