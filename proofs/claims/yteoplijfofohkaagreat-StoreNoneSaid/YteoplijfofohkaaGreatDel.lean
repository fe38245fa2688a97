/- slices.DeleteFunc of strings, and which keys have ended. -/
import Derived.Test.YteoplijfofohkaaGreatTable
namespace Go.Proofs.YteoplijfofohkaaGreat
open Go Go.Sx Go.Hw
theorem fv105_3 : tFld2 Tryz.prog 105 3 3 1 false = true := by kernel_rfl
theorem sc22 : tScal Tryz.prog 22 = true := by kernel_rfl
theorem sc90 : tScal Tryz.prog 90 = true := by kernel_rfl
variable [Env]
def kept (pr : Str → Bool) (ks : List Str) (j : Nat) : List Str := (ks.take j).filter fun k => !pr k
def row (A : List Value) (K : List Str) (M : List Value) (R : List Str) (B : List Value) : List Value := A ++ K.map str ++ M ++ R.map str ++ B
section
variable {pr : Str → Bool} {ks K R : List Str} {A B M : List Value} {j i : Nat} {x : Str} {u : Value}
omit [Env] in
theorem kept_succ (h : j < ks.length) : kept pr ks (j + 1) = if pr (ks.getD j []) = true then kept pr ks j else kept pr ks j ++ [ks.getD j []] := by
  unfold kept
  rw [List.take_add_one, List.getElem?_eq_getElem h, List.filter_append]
  have e : ks.getD j [] = ks[j] := by simp [h]
  rw [e]
  by_cases hp : pr ks[j] = true
  · rw [if_pos hp]; simp [hp]
  · rw [if_neg hp]; simp [hp]
omit [Env] in
theorem row_get (hj : K.length + M.length = j) : (row A K M (x :: R) B).toArray[A.length + j * 1]? = some (str x) := by
  subst hj
  simp only [row, List.getElem?_toArray, Nat.mul_one, List.append_assoc]
  rw [List.getElem?_append_right (by omega), List.getElem?_append_right (by simp), List.getElem?_append_right (by simp)]
  simp [show A.length + (K.length + M.length) - A.length - K.length - M.length = 0 by omega]
omit [Env] in
theorem row_set : (row A K (u :: M) (x :: R) B).toArray.setIfInBounds (A.length + K.length * 1) (str x) = (row A (K ++ [x]) (M ++ [str x]) R B).toArray := by
  simp only [row, List.setIfInBounds_toArray, Nat.mul_one, List.append_assoc]
  rw [List.set_append_right _ _ (by omega), show A.length + K.length - A.length = K.length by omega, List.set_append_right _ _ (by simp)]
  simp
omit [Env] in
theorem row_skip : row A K M (x :: R) B = row A K (M ++ [str x]) R B := by simp [row]
omit [Env] in
theorem row_start (h : i < ks.length) (hp : pr (ks.getD i []) = true) (hn : ∀ j, j < i → pr (ks.getD j []) = false) :
    A ++ ks.map str ++ B = row A (kept pr ks (i + 1)) [str (ks.getD i [])] (ks.drop (i + 1)) B ∧ (kept pr ks (i + 1)).length = i := by
  have hk : kept pr ks i = ks.take i := by
    unfold kept
    refine List.filter_eq_self.2 fun k hk => ?_
    obtain ⟨j, hj, rfl⟩ := List.mem_iff_getElem.1 hk
    have hj' : j < i ∧ j < ks.length := by rw [List.length_take] at hj; omega
    have := hn j hj'.1
    simpa [hj'.2] using this
  rw [kept_succ h, if_pos hp, hk]
  refine ⟨?_, by simp; omega⟩
  have e : ks = ks.take i ++ ks.getD i [] :: ks.drop (i + 1) := by
    have e2 : ks.getD i [] = ks[i] := by simp [h]
    rw [e2, ← List.drop_eq_getElem_cons h, List.take_append_drop]
  conv => lhs; rw [e]
  simp [row]
omit [Env] in
theorem kept_all : kept pr ks ks.length = ks.filter fun k => !pr k := by simp [kept]
omit [Env] in
theorem row_clear {o k : Nat} (ho : k = 0 ∨ o = A.length + K.length) (hk : M.length = k) : blit (row A K M [] B).toArray o (List.replicate k (str [])) = (A ++ K.map str ++ (List.replicate k (str []) ++ B)).toArray := by
  rcases Nat.eq_zero_or_pos k with h0 | h0
  · subst h0
    have : M = [] := List.length_eq_zero_iff.1 hk
    subst this
    simp [row, blit]
  · have ho : o = A.length + K.length := by rcases ho with h | h <;> omega
    subst ho
    have := blit_list (List.replicate k (str [])) (A ++ K.map str) B M (by simp [hk])
    simp only [List.length_append, List.length_map] at this
    simp only [row, List.map_nil, List.append_nil]
    rw [this]; simp
end
theorem IndexFunc_none {w : World} {L : List Asrt} {g cap : Nat} {A B : List Value} {ks : List Str} {f : FuncId} {ca : List Value} {pr : Str → Bool} {fn : Func} {c : Code} (hf : Tryz.prog.funcs[f]? = some fn) (hb : fn.body = some c) (hne : (fn.name == "runtime.NumGoroutine") = false)
    (hs : Sat w (pt g (.cells (A ++ ks.map str ++ B).toArray 9 (0, 0)) :: L)) (hl : ks.length ≤ 5000) (hc : Asks L f ca ks pr) (hn : ∀ k ∈ ks, pr k = false) :
    Does Tryz.prog 117 [.slice (some ⟨g, A.length, none⟩) ks.length cap, .func (.func f) #[] ca.toArray] w fun v w' => v = .int .i64 (-1) ∧ Sat w' (pt g (.cells (A ++ ks.map str ++ B).toArray 9 (0, 0)) :: L) :=
  (IndexFunc hf hb hne hs hl hc).mono fun v w' ⟨h, hs⟩ => by
    refine ⟨?_, hs⟩
    rcases h with ⟨rfl, _⟩ | ⟨i, _, hi, _, hp⟩
    · rfl
    · have := hn (ks.getD i []) (by simp [hi]); rw [this] at hp; cases hp
theorem IndexFunc_at {w : World} {L : List Asrt} {g cap : Nat} {A B : List Value} {ks : List Str} {f : FuncId} {ca : List Value} {pr : Str → Bool} {fn : Func} {c : Code} (hf : Tryz.prog.funcs[f]? = some fn) (hb : fn.body = some c) (hne : (fn.name == "runtime.NumGoroutine") = false)
    (hs : Sat w (pt g (.cells (A ++ ks.map str ++ B).toArray 9 (0, 0)) :: L)) (hl : ks.length ≤ 5000) (hc : Asks L f ca ks pr) {i : Nat} (hi : i < ks.length) (hj : ∀ j, j < i → pr (ks.getD j []) = false) (hp : pr (ks.getD i []) = true) :
    Does Tryz.prog 117 [.slice (some ⟨g, A.length, none⟩) ks.length cap, .func (.func f) #[] ca.toArray] w fun v w' => v = natv i ∧ Sat w' (pt g (.cells (A ++ ks.map str ++ B).toArray 9 (0, 0)) :: L) :=
  (IndexFunc hf hb hne hs hl hc).mono fun v w' ⟨h, hs⟩ => by
    refine ⟨?_, hs⟩
    rcases h with ⟨rfl, h⟩ | ⟨i', rfl, hi', hj', hp'⟩
    · have := h (ks.getD i []) (by simp [hi]); rw [this] at hp; cases hp
    · rcases Nat.lt_trichotomy i i' with h | h | h
      · rw [hj' i h] at hp; cases hp
      · rw [h]
      · rw [hj i' h] at hp'; cases hp'

theorem DeleteFunc_none {w : World} {L : List Asrt} {g cap : Nat} {A B : List Value} {ks : List Str} {f : FuncId} {ca : List Value} {pr : Str → Bool} {fn : Func} {c : Code} (hf : Tryz.prog.funcs[f]? = some fn) (hb : fn.body = some c) (hne : (fn.name == "runtime.NumGoroutine") = false)
    (hs : Sat w (pt g (.cells (A ++ ks.map str ++ B).toArray 9 (0, 0)) :: L)) (hl : ks.length ≤ 5000) (hcap : ks.length + B.length = cap) (hc : Asks L f ca ks pr) (hn : ∀ k ∈ ks, pr k = false) : Does Tryz.prog 64 [.slice (some ⟨g, A.length, none⟩) ks.length cap, .func (.func f) #[] ca.toArray] w fun v w' => Sat w' (sliceAt 9 1 v (ks.filter fun k => !pr k).length ((ks.filter fun k => !pr k).map str) :: L) := by
  refine Does.enters hs (n := 42) Tryz.func64 rfl rfl rfl rfl ?_
  refine WCs.seq ?_
  refine WCs.region ?_
  refine WLs.val (y_asgn rfl) rfl <| ?_
  refine WLs.nil ?_
  refine WEs.then_n ?_
  refine WCs.seq ?_
  refine WCs.region ?_
  refine WLs.val (y_move rfl) rfl <| WLs.val (y_move rfl) rfl <| ?_
  refine WLs.callE Tryz.func117 rfl rfl rfl rfl (fun w hs => IndexFunc_none hf hb hne hs hl hc hn) ?_
  refine WLs.val (y_asgn rfl) rfl <| ?_
  refine WLs.nil ?_
  refine WEs.then_n ?_
  refine WCs.seq ?_
  refine WCs.seq ?_
  refine WCs.region ?_
  refine WLs.val (y_move rfl) rfl <| WLs.val (y_eq rfl rfl rfl) rfl <| ?_
  refine WLs.nil ?_
  refine WEs.then_n ?_
  refine WCs.cond_t rfl rfl ?_
  refine WCs.seq ?_
  refine WCs.region ?_
  refine WLs.val (y_move rfl) rfl <| WLs.val (y_asgn rfl) rfl <| ?_
  refine WLs.nil ?_
  refine WEs.then_n ?_
  refine WCs.ret ?_
  refine WEs.then_ret ?_
  refine WEs.ret1 (.inr rfl) rfl rfl ?_
  have e : (ks.filter fun k => !pr k) = ks := List.filter_eq_self.2 fun k hk => by simp [hn k hk]
  rw [e]
  exact fun w hs => hs.implAt 0 rfl (sliceAt_intro (by simp) (by simp; exact hcap))

theorem DeleteFunc_at {w : World} {L : List Asrt} {g cap : Nat} {A B : List Value} {ks : List Str} {f : FuncId} {ca : List Value} {pr : Str → Bool} {fn : Func} {c : Code} (hf : Tryz.prog.funcs[f]? = some fn) (hb : fn.body = some c) (hne : (fn.name == "runtime.NumGoroutine") = false)
    (hs : Sat w (pt g (.cells (A ++ ks.map str ++ B).toArray 9 (0, 0)) :: L)) (hl : ks.length ≤ 5000) (hcap : ks.length + B.length = cap) (hc : Asks L f ca ks pr) {i : Nat} (hi : i < ks.length) (hj : ∀ j, j < i → pr (ks.getD j []) = false) (hp : pr (ks.getD i []) = true) : Does Tryz.prog 64 [.slice (some ⟨g, A.length, none⟩) ks.length cap, .func (.func f) #[] ca.toArray] w fun v w' => Sat w' (sliceAt 9 1 v (ks.filter fun k => !pr k).length ((ks.filter fun k => !pr k).map str) :: L) := by
  refine Does.enters hs (n := 42) Tryz.func64 rfl rfl rfl rfl ?_
  refine WCs.seq ?_
  refine WCs.region ?_
  refine WLs.val (y_asgn rfl) rfl <| ?_
  refine WLs.nil ?_
  refine WEs.then_n ?_
  refine WCs.seq ?_
  refine WCs.region ?_
  refine WLs.val (y_move rfl) rfl <| WLs.val (y_move rfl) rfl <| ?_
  refine WLs.callE Tryz.func117 rfl rfl rfl rfl (fun w hs => IndexFunc_at hf hb hne hs hl hc hi hj hp) ?_
  refine WLs.val (y_asgn rfl) rfl <| ?_
  refine WLs.nil ?_
  refine WEs.then_n ?_
  refine WCs.seq ?_
  refine WCs.seq ?_
  refine WCs.region ?_
  refine WLs.val (y_move rfl) rfl <| WLs.val (y_eq rfl rfl (decide_eq_false (by omega))) rfl <| ?_
  refine WLs.nil ?_
  refine WEs.then_n ?_
  refine WCs.cond_f rfl rfl ?_
  refine WCs.skip ?_
  refine WEs.then_n ?_
  refine WCs.seq ?_
  refine WCs.seq ?_
  refine WCs.region ?_
  refine WLs.val (y_move rfl) rfl <| WLs.val (y_add rfl rfl (natv_succ (by omega))) rfl <| ?_
  refine WLs.val (y_asgn rfl) rfl <| ?_
  refine WLs.nil ?_
  refine WEs.then_n ?_
  refine WCs.block ?_
  obtain ⟨hr0, hr1⟩ := row_start (A := A) (B := B) hi hp hj
  refine WCs.loop (σ := { s : Nat × List Value // s.1 ≤ ks.length ∧ (kept pr ks s.1).length + s.2.length = s.1 ∧ 1 ≤ s.2.length }) (fun s => [(0, .slice (some ⟨g, A.length, none⟩) ks.length cap), (1, .func (.func f) #[] ca.toArray), (5, natv (kept pr ks s.1.1).length), (6, natv s.1.1)]) (fun s => pt g (.cells (row A (kept pr ks s.1.1) s.1.2 (ks.drop s.1.1) B).toArray 9 (0, 0)) :: L) (fun s => ks.length - s.1.1) ⟨(i + 1, [str (ks.getD i [])]), hi, by simp only [List.length_singleton]; omega, by simp⟩ (fun w hs => by rw [← hr0]; exact hs) (by dsimp only; rw [hr1]; repeat (first | exact Cov.nil _ | refine Cov.cons rfl ?_)) ?_
  rintro ⟨⟨j, M⟩, hj1, hj2, hj3⟩
  dsimp only at hj1 hj2 hj3
  refine WCs.seq ?_
  refine WCs.seq ?_
  refine WCs.region ?_
  refine WLs.val (y_move rfl) rfl <| WLs.val (y_move rfl) rfl <| WLs.val (y_lenL rfl sl97) rfl <| WLs.val (y_lt rfl rfl rfl) rfl <| ?_
  refine WLs.nil ?_
  refine WEs.then_n ?_
  refine WCs.cond rfl (fun hcc => ?_) (fun hcc => ?_)
  · have hlt : j < ks.length := Int.ofNat_lt.1 (of_decide_eq_true hcc)
    have hdrop : ks.drop j = ks.getD j [] :: ks.drop (j + 1) := by
      have e2 : ks.getD j [] = ks[j] := by simp [hlt]
      rw [e2, ← List.drop_eq_getElem_cons hlt]
    obtain ⟨u, M', hM⟩ : ∃ u M', M = u :: M' := by
      cases M with
      | nil => simp at hj3
      | cons u M' => exact ⟨u, M', rfl⟩
    refine WCs.skip ?_
    refine WEs.then_n ?_
    refine WCs.seq ?_
    refine WCs.block ?_
    refine WCs.seq ?_
    refine WCs.region ?_
    refine WLs.val (y_move rfl) rfl <| WLs.val (y_move rfl) rfl <| WLs.val (y_ix rfl rfl sl97 (by dsimp only; omega)) rfl <| ?_
    refine WLs.val (y_ld rfl sc9 (Sat.at 0 rfl) (by dsimp only; rw [hdrop]; exact row_get hj2)) rfl <| ?_
    refine WLs.val (y_asgn rfl) rfl <| ?_
    refine WLs.nil ?_
    refine WEs.then_n ?_
    refine WCs.seq ?_
    refine WCs.region ?_
    refine WLs.val (y_move rfl) rfl <| WLs.val (y_move rfl) rfl <| ?_
    refine WLs.callVE rfl hf hb hne rfl rfl (fun w hs => hc (ks.getD j []) (by simp [hlt]) _ w hs) ?_
    refine WLs.val (y_not rfl) rfl <| ?_
    refine WLs.nil ?_
    refine WEs.then_n ?_
    refine WCs.cond rfl (fun hpp => ?_) (fun hpp => ?_)
    · refine WCs.seq ?_
      refine WCs.region ?_
      refine WLs.val (y_move rfl) rfl <| WLs.val (y_move rfl) rfl <| WLs.val (y_move rfl) rfl <| WLs.val (y_ix rfl rfl sl97 (by dsimp only; omega)) rfl <| ?_
      refine WLs.store 0 rfl rfl sz9 rfl (by dsimp only; simp [row]; omega) rfl (show (row A (kept pr ks j) M (ks.drop j) B).toArray.setIfInBounds (A.length + (kept pr ks j).length * 1) (str (ks.getD j [])) = (row A (kept pr ks j ++ [ks.getD j []]) (M' ++ [str (ks.getD j [])]) (ks.drop (j + 1)) B).toArray by rw [hM, hdrop]; exact row_set) ?_
      refine WLs.nil ?_
      refine WEs.then_n ?_
      refine WCs.region ?_
      refine WLs.val (y_move rfl) rfl <| WLs.val (y_add rfl rfl (natv_succ (by dsimp only; omega))) rfl <| ?_
      refine WLs.val (y_asgn rfl) rfl <| ?_
      refine WLs.nil ?_
      refine WEs.in_n ?_
      refine WEs.then_n ?_
      refine WCs.region ?_
      refine WLs.val (y_move rfl) rfl <| WLs.val (y_add rfl rfl (natv_succ (by dsimp only; omega))) rfl <| ?_
      refine WLs.val (y_asgn rfl) rfl <| ?_
      refine WLs.nil ?_
      have hpf : pr (ks.getD j []) = false := by simpa using hpp
      have hks : kept pr ks (j + 1) = kept pr ks j ++ [ks.getD j []] := by rw [kept_succ hlt, if_neg (by rw [hpf]; simp)]
      refine WEs.round ⟨(j + 1, M' ++ [str (ks.getD j [])]), hlt, by rw [hks]; simp [hM] at hj2 ⊢; omega, by simp⟩ (by dsimp only; rw [hks, List.length_append]; repeat (first | exact Cov.nil _ | refine Cov.cons rfl ?_)) (fun w hs => by dsimp only; rw [hks]; exact hs) (by show ks.length - (j + 1) < ks.length - j; omega)
    · refine WCs.skip ?_
      refine WEs.in_n ?_
      refine WEs.then_n ?_
      refine WCs.region ?_
      refine WLs.val (y_move rfl) rfl <| WLs.val (y_add rfl rfl (natv_succ (by dsimp only; omega))) rfl <| ?_
      refine WLs.val (y_asgn rfl) rfl <| ?_
      refine WLs.nil ?_
      have hpt : pr (ks.getD j []) = true := by simpa using hpp
      have hks : kept pr ks (j + 1) = kept pr ks j := by rw [kept_succ hlt, if_pos hpt]
      refine WEs.round ⟨(j + 1, M ++ [str (ks.getD j [])]), hlt, by rw [hks]; simp; omega, by simp⟩ (by dsimp only; rw [hks]; repeat (first | exact Cov.nil _ | refine Cov.cons rfl ?_)) (fun w hs => by dsimp only; rw [hks, ← row_skip, ← hdrop]; exact hs) (by show ks.length - (j + 1) < ks.length - j; omega)
  · have hje : j = ks.length := by have : ¬ j < ks.length := fun h => of_decide_eq_false hcc (Int.ofNat_lt.2 h)
                                   omega
    have hsl : ∀ {a b : Nat}, (Value.slice (if cap = ((kept pr ks j).length : Int).toNat then some ⟨g, A.length, none⟩ else some ⟨g, A.length + ((kept pr ks j).length : Int).toNat * 1, none⟩) a b) = .slice (some ⟨g, if cap = (kept pr ks j).length then A.length else A.length + (kept pr ks j).length * 1, none⟩) a b := by
      intro a b
      by_cases h : cap = (kept pr ks j).length <;> simp [h]
    refine WCs.exit ?_
    refine WEs.then_exit ?_
    refine WEs.then_exit ?_
    refine WEs.in_same ?_
    refine WEs.then_n ?_
    refine WCs.seq ?_
    refine WCs.region ?_
    refine WLs.val (y_move rfl) rfl <| WLs.val (y_move rfl) rfl <| WLs.val (y_li rfl rfl sl97 (by omega) hsl) rfl <| ?_
    refine WLs.clear0 0 rfl sl97 zr9 rfl rfl rfl (by dsimp only; simp [row]; split <;> omega) ?_
    refine WLs.nil ?_
    refine WEs.then_n ?_
    refine WCs.seq ?_
    refine WCs.region ?_
    refine WLs.val (y_move rfl) rfl <| WLs.val (y_move rfl) rfl <| WLs.val (y_lj rfl rfl sl97 (by dsimp only; omega)) rfl <| ?_
    refine WLs.val (y_asgn rfl) rfl <| ?_
    refine WLs.nil ?_
    refine WEs.then_n ?_
    refine WCs.ret ?_
    refine WEs.ret1 (.inr rfl) rfl rfl ?_
    intro w hs
    subst hje
    have hc2 := row_clear (A := A) (K := kept pr ks ks.length) (M := M) (B := B) (o := if cap = (kept pr ks ks.length).length then A.length else A.length + (kept pr ks ks.length).length * 1) (k := ks.length - (kept pr ks ks.length).length) (by split <;> omega) (by omega)
    rw [← kept_all]
    have hs2 : Sat w (pt g (.cells (A ++ (kept pr ks ks.length).map str ++ (List.replicate (ks.length - (kept pr ks ks.length).length) (str []) ++ B)).toArray 9 (0, 0)) :: L) := by
      rw [← hc2]
      dsimp only at hs
      rw [List.drop_length] at hs
      exact hs
    exact hs2.implAt 0 rfl (sliceAt_intro (E := 9) (sz := 1) (k := (kept pr ks ks.length).length) (cap := cap) (by simp) (by simp; omega))

theorem DeleteFunc_nil {w : World} {L : List Asrt} {a : Option Addr} {cap : Nat} {x : Value} (hs : Sat w L) : Does Tryz.prog 64 [.slice a 0 cap, x] w fun v w' => v = .slice a 0 cap ∧ Sat w' L := by
  refine Does.enters hs (n := 42) Tryz.func64 rfl rfl rfl rfl ?_
  refine WCs.seq ?_
  refine WCs.region ?_
  refine WLs.val (y_asgn rfl) rfl <| ?_
  refine WLs.nil ?_
  refine WEs.then_n ?_
  refine WCs.seq ?_
  refine WCs.region ?_
  refine WLs.val (y_move rfl) rfl <| WLs.val (y_move rfl) rfl <| ?_
  refine WLs.callE Tryz.func117 rfl rfl rfl rfl (fun w hs => IndexFunc_nil hs) ?_
  refine WLs.val (y_asgn rfl) rfl <| ?_
  refine WLs.nil ?_
  refine WEs.then_n ?_
  refine WCs.seq ?_
  refine WCs.seq ?_
  refine WCs.region ?_
  refine WLs.val (y_move rfl) rfl <| WLs.val (y_eq rfl rfl rfl) rfl <| ?_
  refine WLs.nil ?_
  refine WEs.then_n ?_
  refine WCs.cond_t rfl rfl ?_
  refine WCs.seq ?_
  refine WCs.region ?_
  refine WLs.val (y_move rfl) rfl <| WLs.val (y_asgn rfl) rfl <| ?_
  refine WLs.nil ?_
  refine WEs.then_n ?_
  refine WCs.ret ?_
  refine WEs.then_ret ?_
  refine WEs.ret1 (.inr rfl) rfl rfl ?_
  exact fun w hs => ⟨rfl, hs⟩

/-- slices.DeleteFunc of strings -/
theorem DeleteFunc {w : World} {L : List Asrt} {v : Value} {ks : List Str} {f : FuncId} {ca : List Value} {pr : Str → Bool} {fn : Func} {c : Code} (hf : Tryz.prog.funcs[f]? = some fn) (hb : fn.body = some c) (hne : (fn.name == "runtime.NumGoroutine") = false)
    (hs : Sat w (sliceAt 9 1 v ks.length (ks.map str) :: L)) (hl : ks.length ≤ 5000) (hc : Asks L f ca ks pr) :
    Does Tryz.prog 64 [v, .func (.func f) #[] ca.toArray] w fun v w' => Sat w' (sliceAt 9 1 v (ks.filter fun k => !pr k).length ((ks.filter fun k => !pr k).map str) :: L) := by
  by_cases h0 : ks = []
  · subst h0
    obtain ⟨a, cap, rfl⟩ := hs.lenS 0 rfl
    exact (DeleteFunc_nil hs).mono fun v w' ⟨hv, hs⟩ => by subst hv; exact hs
  · obtain ⟨g, pre, spare, cap, rfl, h1, h2, hs2⟩ := hs.openS 0 rfl (by simpa using h0)
    have hcap : ks.length + spare.length = cap := by simpa using h2
    by_cases hn : ∀ k ∈ ks, pr k = false
    · exact DeleteFunc_none hf hb hne hs2 hl hcap hc hn
    · have hx : ∃ i, i < ks.length ∧ pr (ks.getD i []) = true := by
        rcases Classical.em (∃ i, i < ks.length ∧ pr (ks.getD i []) = true) with h | h
        · exact h
        · exfalso; refine hn fun k hk => ?_
          obtain ⟨j, hj, rfl⟩ := List.mem_iff_getElem.1 hk
          cases hp : pr ks[j] with
          | false => rfl
          | true => exact absurd ⟨j, hj, by simpa [hj] using hp⟩ h
      have key : ∀ n, (∃ i, i < n ∧ i < ks.length ∧ pr (ks.getD i []) = true) → ∃ i, i < ks.length ∧ (∀ j, j < i → pr (ks.getD j []) = false) ∧ pr (ks.getD i []) = true := by
        intro n
        induction n with
        | zero => rintro ⟨i, h, _⟩; omega
        | succ n ih =>
          rintro ⟨i, h1, h2, h3⟩
          by_cases h4 : ∃ i, i < n ∧ i < ks.length ∧ pr (ks.getD i []) = true
          · exact ih h4
          · refine ⟨i, h2, fun j hj => ?_, h3⟩
            cases hp : pr (ks.getD j []) with
            | false => rfl
            | true => exact absurd ⟨j, by omega, by omega, hp⟩ h4
      obtain ⟨i, hi1, hi2⟩ := hx
      obtain ⟨i, hi, hj, hp⟩ := key (i + 1) ⟨i, by omega, hi1, hi2⟩
      exact DeleteFunc_at hf hb hne hs2 hl hcap hc hi hj hp
def _root_.Go.Hw.Entry.ended (e : Entry) (now : Nat) : Bool := decide (e.ends ≠ 0) && decide (e.ends ≤ now)
def stays (m : Tab) (now : Nat) (k : Str) : Bool := match mget m k with | some e => !e.ended now | none => true
/-- the keys that have ended, in order -/
def endedOf (m : Tab) (now : Nat) : List Str := (keysOf m).filter fun k => !stays m now k
abbrev endL (b p bt bn now : Nat) (m : Tab) (L : List Asrt) : List Asrt := tabL b p m (pt bn (.cells #[u64v now] 22 (0, 0)) :: pt bt (.cells #[rp p] 90 (0, 0)) :: L)
omit [Env] in
theorem mget_of_mem {m : Tab} {k : Str} (h : k ∈ m.map (·.1)) : ∃ e, mget m k = some e := by
  cases hg : mget m k with
  | some e => exact ⟨e, rfl⟩
  | none => exact absurd h ((mget_none_notin _ _).1 hg)
omit [Env] in
theorem mem_keysOf {m : Tab} {k : Str} : k ∈ keysOf m ↔ k ∈ m.map (·.1) := (List.mergeSort_perm _ _).mem_iff

theorem Ended1_a {w : World} {L : List Asrt} {b p bt bn now : Nat} {m : Tab} {k : Str} {e : Entry} {A : Asrt} (hs : Sat w (A :: endL b p bt bn now m L)) (hk : mget m k = some e) (h0 : e.ends = 0) : Does Tryz.prog 65 ([str k] ++ [rp bt, rp bn]) w fun v w' => v = .bool true ∧ Sat w' (A :: endL b p bt bn now m L) := by
  refine Does.enters hs (n := 20) Tryz.func65 rfl rfl rfl rfl ?_
  refine WCs.seq ?_
  refine WCs.region ?_
  refine WLs.val (y_asgn rfl) rfl <| ?_
  refine WLs.nil ?_
  refine WEs.then_n ?_
  refine WCs.seq ?_
  refine WCs.region ?_
  refine WLs.val (y_ld rfl sc90 (Sat.at 4 rfl) (by rfl)) rfl <| ?_
  refine WLs.val (y_nil rfl) rfl <| WLs.val (y_fld rfl fl142_0) rfl <| WLs.val (y_ld rfl sc140 (Sat.at 2 rfl) (by rfl)) rfl <| ?_
  refine WLs.val (y_move rfl) rfl <| WLs.val (y_look (enc := str) (en := entv) rfl rfl (keyStr st9) mp140 zr105 (Sat.atM 1 rfl) hk) rfl <| ?_
  refine WLs.val (y_fv rfl fv105_3 rfl) rfl <| WLs.val (y_asgn rfl) rfl <| ?_
  refine WLs.nil ?_
  refine WEs.then_n ?_
  refine WCs.seq ?_
  refine WCs.region ?_
  refine WLs.val (y_move rfl) rfl <| WLs.val (y_eq rfl rfl (decide_eq_true (by omega))) rfl <| ?_
  refine WLs.val (y_move rfl) rfl <| WLs.skipped rfl rfl rfl <| WLs.skipped rfl rfl rfl <| WLs.skipped rfl rfl rfl <| WLs.val (y_pick rfl rfl) rfl <| WLs.val (y_asgn rfl) rfl <| ?_
  refine WLs.nil ?_
  refine WEs.then_n ?_
  refine WCs.ret ?_
  refine WEs.ret1 (.inr rfl) rfl rfl ?_
  exact fun w hs => ⟨rfl, hs⟩

theorem Ended1_b {w : World} {L : List Asrt} {b p bt bn now : Nat} {m : Tab} {k : Str} {e : Entry} {A : Asrt} (hs : Sat w (A :: endL b p bt bn now m L)) (hk : mget m k = some e) (h0 : e.ends ≠ 0) (h1 : now < e.ends) : Does Tryz.prog 65 ([str k] ++ [rp bt, rp bn]) w fun v w' => v = .bool true ∧ Sat w' (A :: endL b p bt bn now m L) := by
  refine Does.enters hs (n := 20) Tryz.func65 rfl rfl rfl rfl ?_
  refine WCs.seq ?_
  refine WCs.region ?_
  refine WLs.val (y_asgn rfl) rfl <| ?_
  refine WLs.nil ?_
  refine WEs.then_n ?_
  refine WCs.seq ?_
  refine WCs.region ?_
  refine WLs.val (y_ld rfl sc90 (Sat.at 4 rfl) (by rfl)) rfl <| ?_
  refine WLs.val (y_nil rfl) rfl <| WLs.val (y_fld rfl fl142_0) rfl <| WLs.val (y_ld rfl sc140 (Sat.at 2 rfl) (by rfl)) rfl <| ?_
  refine WLs.val (y_move rfl) rfl <| WLs.val (y_look (enc := str) (en := entv) rfl rfl (keyStr st9) mp140 zr105 (Sat.atM 1 rfl) hk) rfl <| ?_
  refine WLs.val (y_fv rfl fv105_3 rfl) rfl <| WLs.val (y_asgn rfl) rfl <| ?_
  refine WLs.nil ?_
  refine WEs.then_n ?_
  refine WCs.seq ?_
  refine WCs.region ?_
  refine WLs.val (y_move rfl) rfl <| WLs.val (y_eq rfl rfl (decide_eq_false (by omega))) rfl <| ?_
  refine WLs.val (y_move rfl) rfl <| WLs.guarded rfl rfl <| WLs.val (y_move rfl) rfl <| WLs.guarded rfl rfl <| WLs.val (y_ld rfl sc22 (Sat.at 3 rfl) (by rfl)) rfl <| ?_
  refine WLs.guarded rfl rfl <| WLs.val (y_gt rfl rfl (decide_eq_true (by omega))) rfl <| ?_
  refine WLs.val (y_pick rfl rfl) rfl <| WLs.val (y_asgn rfl) rfl <| ?_
  refine WLs.nil ?_
  refine WEs.then_n ?_
  refine WCs.ret ?_
  refine WEs.ret1 (.inr rfl) rfl rfl ?_
  exact fun w hs => ⟨rfl, hs⟩

theorem Ended1_c {w : World} {L : List Asrt} {b p bt bn now : Nat} {m : Tab} {k : Str} {e : Entry} {A : Asrt} (hs : Sat w (A :: endL b p bt bn now m L)) (hk : mget m k = some e) (h0 : e.ends ≠ 0) (h1 : e.ends ≤ now) : Does Tryz.prog 65 ([str k] ++ [rp bt, rp bn]) w fun v w' => v = .bool false ∧ Sat w' (A :: endL b p bt bn now m L) := by
  refine Does.enters hs (n := 20) Tryz.func65 rfl rfl rfl rfl ?_
  refine WCs.seq ?_
  refine WCs.region ?_
  refine WLs.val (y_asgn rfl) rfl <| ?_
  refine WLs.nil ?_
  refine WEs.then_n ?_
  refine WCs.seq ?_
  refine WCs.region ?_
  refine WLs.val (y_ld rfl sc90 (Sat.at 4 rfl) (by rfl)) rfl <| ?_
  refine WLs.val (y_nil rfl) rfl <| WLs.val (y_fld rfl fl142_0) rfl <| WLs.val (y_ld rfl sc140 (Sat.at 2 rfl) (by rfl)) rfl <| ?_
  refine WLs.val (y_move rfl) rfl <| WLs.val (y_look (enc := str) (en := entv) rfl rfl (keyStr st9) mp140 zr105 (Sat.atM 1 rfl) hk) rfl <| ?_
  refine WLs.val (y_fv rfl fv105_3 rfl) rfl <| WLs.val (y_asgn rfl) rfl <| ?_
  refine WLs.nil ?_
  refine WEs.then_n ?_
  refine WCs.seq ?_
  refine WCs.region ?_
  refine WLs.val (y_move rfl) rfl <| WLs.val (y_eq rfl rfl (decide_eq_false (by omega))) rfl <| ?_
  refine WLs.val (y_move rfl) rfl <| WLs.guarded rfl rfl <| WLs.val (y_move rfl) rfl <| WLs.guarded rfl rfl <| WLs.val (y_ld rfl sc22 (Sat.at 3 rfl) (by rfl)) rfl <| ?_
  refine WLs.guarded rfl rfl <| WLs.val (y_gt rfl rfl (decide_eq_false (by omega))) rfl <| ?_
  refine WLs.val (y_pick rfl rfl) rfl <| WLs.val (y_asgn rfl) rfl <| ?_
  refine WLs.nil ?_
  refine WEs.then_n ?_
  refine WCs.ret ?_
  refine WEs.ret1 (.inr rfl) rfl rfl ?_
  exact fun w hs => ⟨rfl, hs⟩

theorem Ended1 {L : List Asrt} {b p bt bn now : Nat} {m : Tab} : Asks (endL b p bt bn now m L) 65 [rp bt, rp bn] (keysOf m) (stays m now) := by
  intro k hk A w hs
  obtain ⟨e, he⟩ := mget_of_mem (mem_keysOf.1 hk)
  have : stays m now k = !e.ended now := by unfold stays; rw [he]
  rw [this]
  unfold Entry.ended
  by_cases h0 : e.ends = 0
  · rw [show (!(decide (e.ends ≠ 0) && decide (e.ends ≤ now))) = true by simp [h0]]; exact Ended1_a hs he h0
  · by_cases h1 : e.ends ≤ now
    · rw [show (!(decide (e.ends ≠ 0) && decide (e.ends ≤ now))) = false by simp [h0, h1]]; exact Ended1_c hs he h0 h1
    · rw [show (!(decide (e.ends ≠ 0) && decide (e.ends ≤ now))) = true by simp [h1]]; exact Ended1_b hs he h0 (by omega)

theorem table_Ended {w : World} {L : List Asrt} {b p : Nat} {m : Tab} {now : Nat} (hs : Sat w (tabL b p m L)) (hi : TInv m) : Does Tryz.prog 34 [rp p, u64v now] w fun v w' => Sat w' (sliceAt 9 1 v (endedOf m now).length ((endedOf m now).map str) :: tabL b p m L) := by
  have hkl : (keysOf m).length = m.length := by unfold keysOf; rw [List.length_mergeSort, List.length_map]
  refine Does.enters hs (n := 9) Tryz.func34 rfl rfl rfl rfl ?_
  refine WCs.seq ?_
  refine WCs.region ?_
  refine WLs.box rfl rfl (fun bt => ?_)
  refine WLs.box rfl rfl (fun bn => ?_)
  refine WLs.val (y_asgn rfl) rfl <| ?_
  refine WLs.nil ?_
  refine WEs.then_n ?_
  refine WCs.seq ?_
  refine WCs.region ?_
  refine WLs.val (y_ld rfl sc90 (Sat.at 1 rfl) (by rfl)) rfl <| ?_
  refine WLs.call Tryz.func53 rfl rfl rfl rfl (fun w hs => table_Keys (m := m) (b := b) (p := p) (L := pt bn (.cells #[u64v now] 22 (0, 0)) :: pt bt (.cells #[rp p] 90 (0, 0)) :: L) (hs.selN 4 [2, 3, 0, 1] (by decide)) hi) ?_
  rintro v6 w6 hs6
  refine WLs.go hs6 ?_
  refine WLs.val (y_mkfn rfl rfl) rfl <| ?_
  refine WLs.call Tryz.func64 rfl rfl rfl rfl (fun w hs => DeleteFunc (L := endL b p bt bn now m L) (ks := keysOf m) (pr := stays m now) (ca := [rp bt, rp bn]) Tryz.func65 rfl rfl (by rw [hkl]; exact hs) (by rw [hkl]; have := hi.few; omega) Ended1) ?_
  rintro v8 w8 hs8
  refine WLs.go hs8 ?_
  refine WLs.val (y_asgn rfl) rfl <| ?_
  refine WLs.nil ?_
  refine WEs.then_n ?_
  refine WCs.ret ?_
  refine WEs.ret1 (.inr rfl) rfl rfl ?_
  exact fun w hs => hs.selN 5 [0, 1, 2] (by decide)
end Go.Proofs.YteoplijfofohkaaGreat
