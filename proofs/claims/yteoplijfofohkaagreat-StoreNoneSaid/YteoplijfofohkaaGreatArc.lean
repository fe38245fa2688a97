/- The contracts of package arc. -/
import Derived.Test.YteoplijfofohkaaGreatRingA
import Derived.Test.YteoplijfofohkaaGreatPArc
import Derived.Test.YteoplijfofohkaaGreatOp3
namespace Go.Proofs.YteoplijfofohkaaGreat
open Go Go.Sx Go.Hw
theorem fl191_0 : tFld Tryz.prog 191 0 0 = true := by kernel_rfl
theorem fl191_1 : tFld Tryz.prog 191 1 1 = true := by kernel_rfl
theorem fl191_2 : tFld Tryz.prog 191 2 2 = true := by kernel_rfl
theorem pt132 : tPtr Tryz.prog 132 = true := by kernel_rfl
theorem sc187 : tScal Tryz.prog 187 = true := by kernel_rfl
theorem sl97 : tSlice Tryz.prog 97 9 1 = true := by kernel_rfl
theorem zr191 : tZero Tryz.prog 191 (.agg #[(.int .i64 0), (.int .i64 0), (.pointer none)]) := tZero_of (by kernel_rfl)
theorem zr9 : tZero Tryz.prog 9 (str []) := tZero_of (by kernel_rfl)
theorem pl191 : tPlaces Tryz.prog 191 #[(0, 1), (1, 1), (2, 1)] := tPlaces_of (by kernel_rfl)
theorem zs9 : ∃ z, tZero Tryz.prog 9 z ∧ z.cells.size = 1 := ⟨_, zr9, rfl⟩
variable [Env]
/-- the memory of the first policy: its lists, its struct -/
abbrev arcL (r p : Nat) (a : Arc) (L : List Asrt) : List Asrt :=
  ringAt r (2 * a.most + 1) a.K :: pt p (.cells #[natv a.most, natv a.target, rp r] 191 (0, 0)) :: L
def arcAt (p : Nat) (a : Arc) : Asrt := fun h => ∃ r, sepL (arcL r p a []) h
theorem arcAt_open {w : World} {p : Nat} {a : Arc} {L : List Asrt} (hs : Sat w (arcAt p a :: L)) : ∃ r, Sat w (arcL r p a L) := by
  obtain ⟨r, hs⟩ := hs.exists
  exact ⟨r, hs.split⟩
theorem arcAt_shut {w : World} {r p : Nat} {a : Arc} {L : List Asrt} (hs : Sat w (arcL r p a L)) : Sat w (arcAt p a :: L) :=
  (Sat.join (K := arcL r p a []) hs).impl fun _ hg => ⟨r, hg⟩
section
variable {w : World} {L : List Asrt} {r p : Nat} {a : Arc} {k : Str}
theorem arcR_Len {j : Nat} (hs : Sat w (arcL r p a L)) (h : a.Ok) (hj : j < 4) : Does Tryz.prog 160 [rp r, natv j] w fun v w' => v = natv (a.n j) ∧ Sat w' (arcL r p a L) :=
  ringA_Len hs (by rw [h.k4]; exact hj)
theorem arcR_Back_no {j : Nat} (hs : Sat w (arcL r p a L)) (h : a.Ok) (hj : j < 4) (hx : (a.K.getD j []).getLast? = none) : Does Tryz.prog 162 [rp r, natv j] w fun v w' => v = .tuple #[str [], .bool false] ∧ Sat w' (arcL r p a L) :=
  ringA_Back_no hs (by rw [h.k4]; exact hj) (List.getLast?_eq_none_iff.1 hx)
theorem arcR_Back_yes {j : Nat} (hs : Sat w (arcL r p a L)) (h : a.Ok) (hj : j < 4) (hx : (a.K.getD j []).getLast? = some k) : Does Tryz.prog 162 [rp r, natv j] w fun v w' => v = .tuple #[str k, .bool true] ∧ Sat w' (arcL r p a L) :=
  ringA_Back_yes hs (by rw [h.k4]; exact hj) hx
theorem arcR_Front {j : Nat} (hs : Sat w (arcL r p a L)) (h : a.Ok) (hj : j < 4) (hk : k.length ≤ 64) (hr : k ∈ a.K.flatten ∨ a.K.flatten.length ≤ 2 * a.most) : Does Tryz.prog 159 [rp r, natv j, str k] w fun v w' => v = .bool true ∧ Sat w' (arcL r p (a.front j k) L) :=
  ringA_Front hs (by rw [h.k4]; exact hj) hk (hr.imp id (fun h => by show a.K.flatten.length < 2 * a.most + 1; omega))
theorem arcR_Drop (hs : Sat w (arcL r p a L)) : Does Tryz.prog 119 [rp r, str k] w fun v w' => v = .bool (decide (k ∈ a.K.flatten)) ∧ Sat w' (arcL r p (a.drop k) L) :=
  ringA_Drop hs
end

theorem arc_Has_no {w : World} {L : List Asrt} {r p : Nat} {a : Arc} {k : Str} (hs : Sat w (arcL r p a L)) (hn : k ∉ a.K.flatten) : Does Tryz.prog 118 [rp p, str k] w fun v w' => v = .bool false ∧ Sat w' (arcL r p a L) := by
  refine Does.enters hs (n := 23) Tryz.func118 rfl rfl rfl rfl ?_
  refine WCs.seq ?_
  refine WCs.region ?_
  refine WLs.val (y_asgn rfl) rfl <| ?_
  refine WLs.nil ?_
  refine WEs.then_n ?_
  refine WCs.seq ?_
  refine WCs.seq ?_
  refine WCs.region ?_
  refine WLs.val (y_move rfl) rfl <| WLs.val (y_peq rfl rfl pt132) rfl <| ?_
  refine WLs.nil ?_
  refine WEs.then_n ?_
  refine WCs.cond_f rfl rfl ?_
  refine WCs.skip ?_
  refine WEs.then_n ?_
  refine WCs.seq ?_
  refine WCs.region ?_
  refine WLs.val (y_move rfl) rfl <| WLs.val (y_nil rfl) rfl <| WLs.val (y_fld rfl fl191_2) rfl <| WLs.val (y_ld rfl sc187 (Sat.at 1 rfl) (by rfl)) rfl <| ?_
  refine WLs.val (y_move rfl) rfl <| ?_
  refine WLs.callE Tryz.func156 rfl rfl rfl rfl (fun w hs => ringA_In_no hs hn) ?_
  refine WLs.val (y_move rfl) rfl <| WLs.val (y_ext rfl rfl) rfl <| WLs.val (y_ext rfl rfl) rfl <| WLs.val (y_asgn rfl) rfl <| WLs.val (y_asgn rfl) rfl <| ?_
  refine WLs.nil ?_
  refine WEs.then_n ?_
  refine WCs.seq ?_
  refine WCs.region ?_
  refine WLs.val (y_move rfl) rfl <| WLs.val (y_move rfl) rfl <| WLs.skipped rfl rfl rfl <| WLs.skipped rfl rfl rfl <| WLs.val (y_pick rfl rfl) rfl <| WLs.val (y_asgn rfl) rfl <| ?_
  refine WLs.nil ?_
  refine WEs.then_n ?_
  refine WCs.ret ?_
  refine WEs.ret1 (.inr rfl) rfl rfl ?_
  exact fun w hs => ⟨rfl, hs⟩

theorem arc_Has_yes01 {w : World} {L : List Asrt} {r p : Nat} {a : Arc} {k : Str} (hs : Sat w (arcL r p a L)) {l : Nat} (hk : k ∈ a.K.getD l []) (hl : l ≤ 1) : Does Tryz.prog 118 [rp p, str k] w fun v w' => v = .bool true ∧ Sat w' (arcL r p a L) := by
  refine Does.enters hs (n := 23) Tryz.func118 rfl rfl rfl rfl ?_
  refine WCs.seq ?_
  refine WCs.region ?_
  refine WLs.val (y_asgn rfl) rfl <| ?_
  refine WLs.nil ?_
  refine WEs.then_n ?_
  refine WCs.seq ?_
  refine WCs.seq ?_
  refine WCs.region ?_
  refine WLs.val (y_move rfl) rfl <| WLs.val (y_peq rfl rfl pt132) rfl <| ?_
  refine WLs.nil ?_
  refine WEs.then_n ?_
  refine WCs.cond_f rfl rfl ?_
  refine WCs.skip ?_
  refine WEs.then_n ?_
  refine WCs.seq ?_
  refine WCs.region ?_
  refine WLs.val (y_move rfl) rfl <| WLs.val (y_nil rfl) rfl <| WLs.val (y_fld rfl fl191_2) rfl <| WLs.val (y_ld rfl sc187 (Sat.at 1 rfl) (by rfl)) rfl <| ?_
  refine WLs.val (y_move rfl) rfl <| ?_
  refine WLs.callE Tryz.func156 rfl rfl rfl rfl (fun w hs => ringA_In_yes hs hk) ?_
  refine WLs.val (y_move rfl) rfl <| WLs.val (y_ext rfl rfl) rfl <| WLs.val (y_ext rfl rfl) rfl <| WLs.val (y_asgn rfl) rfl <| WLs.val (y_asgn rfl) rfl <| ?_
  refine WLs.nil ?_
  refine WEs.then_n ?_
  refine WCs.seq ?_
  refine WCs.region ?_
  refine WLs.val (y_move rfl) rfl <| WLs.val (y_move rfl) rfl <| WLs.guarded rfl rfl <| WLs.val (y_move rfl) rfl <| WLs.guarded rfl rfl <| WLs.val (y_le rfl rfl (decide_eq_true (by omega))) rfl <| ?_
  refine WLs.val (y_pick rfl rfl) rfl <| WLs.val (y_asgn rfl) rfl <| ?_
  refine WLs.nil ?_
  refine WEs.then_n ?_
  refine WCs.ret ?_
  refine WEs.ret1 (.inr rfl) rfl rfl ?_
  exact fun w hs => ⟨rfl, hs⟩

theorem arc_Has_yes23 {w : World} {L : List Asrt} {r p : Nat} {a : Arc} {k : Str} (hs : Sat w (arcL r p a L)) {l : Nat} (hk : k ∈ a.K.getD l []) (hl : 2 ≤ l) : Does Tryz.prog 118 [rp p, str k] w fun v w' => v = .bool false ∧ Sat w' (arcL r p a L) := by
  refine Does.enters hs (n := 23) Tryz.func118 rfl rfl rfl rfl ?_
  refine WCs.seq ?_
  refine WCs.region ?_
  refine WLs.val (y_asgn rfl) rfl <| ?_
  refine WLs.nil ?_
  refine WEs.then_n ?_
  refine WCs.seq ?_
  refine WCs.seq ?_
  refine WCs.region ?_
  refine WLs.val (y_move rfl) rfl <| WLs.val (y_peq rfl rfl pt132) rfl <| ?_
  refine WLs.nil ?_
  refine WEs.then_n ?_
  refine WCs.cond_f rfl rfl ?_
  refine WCs.skip ?_
  refine WEs.then_n ?_
  refine WCs.seq ?_
  refine WCs.region ?_
  refine WLs.val (y_move rfl) rfl <| WLs.val (y_nil rfl) rfl <| WLs.val (y_fld rfl fl191_2) rfl <| WLs.val (y_ld rfl sc187 (Sat.at 1 rfl) (by rfl)) rfl <| ?_
  refine WLs.val (y_move rfl) rfl <| ?_
  refine WLs.callE Tryz.func156 rfl rfl rfl rfl (fun w hs => ringA_In_yes hs hk) ?_
  refine WLs.val (y_move rfl) rfl <| WLs.val (y_ext rfl rfl) rfl <| WLs.val (y_ext rfl rfl) rfl <| WLs.val (y_asgn rfl) rfl <| WLs.val (y_asgn rfl) rfl <| ?_
  refine WLs.nil ?_
  refine WEs.then_n ?_
  refine WCs.seq ?_
  refine WCs.region ?_
  refine WLs.val (y_move rfl) rfl <| WLs.val (y_move rfl) rfl <| WLs.guarded rfl rfl <| WLs.val (y_move rfl) rfl <| WLs.guarded rfl rfl <| WLs.val (y_le rfl rfl (decide_eq_false (by omega))) rfl <| ?_
  refine WLs.val (y_pick rfl rfl) rfl <| WLs.val (y_asgn rfl) rfl <| ?_
  refine WLs.nil ?_
  refine WEs.then_n ?_
  refine WCs.ret ?_
  refine WEs.ret1 (.inr rfl) rfl rfl ?_
  exact fun w hs => ⟨rfl, hs⟩

theorem arc_Has {w : World} {L : List Asrt} {r p : Nat} {a : Arc} {k : Str} (hs : Sat w (arcL r p a L)) (h : a.Ok) : Does Tryz.prog 118 [rp p, str k] w fun v w' => v = .bool (a.has k) ∧ Sat w' (arcL r p a L) := by
  by_cases hm : k ∈ a.K.flatten
  · obtain ⟨l, hl, hk⟩ := flatten_getD hm
    rcases Nat.lt_or_ge 1 l with h1 | h1
    · have e : a.has k = false := by
        simp only [Arc.has, decide_eq_false_iff_not, not_or]
        exact ⟨fun hx => by have := flatten_apart h.nd hk hx; omega, fun hx => by have := flatten_apart h.nd hk hx; omega⟩
      rw [e]; exact arc_Has_yes23 hs hk h1
    · have e : a.has k = true := by
        rw [Arc.has_iff]
        rcases Nat.lt_or_ge l 1 with h2 | h2
        · have : l = 0 := by omega
          subst this; exact .inl hk
        · have : l = 1 := by omega
          subst this; exact .inr hk
      rw [e]; exact arc_Has_yes01 hs hk h1
  · have e : a.has k = false := by
      simp only [Arc.has, decide_eq_false_iff_not, not_or]
      exact ⟨fun hx => hm (mem_flatten_getD hx), fun hx => hm (mem_flatten_getD hx)⟩
    rw [e]; exact arc_Has_no hs hm

theorem arc_Len {w : World} {L : List Asrt} {r p : Nat} {a : Arc} (hs : Sat w (arcL r p a L)) (h : a.Ok) (hb : a.len ≤ 10000) : Does Tryz.prog 153 [rp p] w fun v w' => v = natv a.len ∧ Sat w' (arcL r p a L) := by
  refine Does.enters hs (n := 16) Tryz.func153 rfl rfl rfl rfl ?_
  refine WCs.seq ?_
  refine WCs.region ?_
  refine WLs.val (y_asgn rfl) rfl <| ?_
  refine WLs.nil ?_
  refine WEs.then_n ?_
  refine WCs.seq ?_
  refine WCs.seq ?_
  refine WCs.region ?_
  refine WLs.val (y_move rfl) rfl <| WLs.val (y_peq rfl rfl pt132) rfl <| ?_
  refine WLs.nil ?_
  refine WEs.then_n ?_
  refine WCs.cond_f rfl rfl ?_
  refine WCs.skip ?_
  refine WEs.then_n ?_
  refine WCs.seq ?_
  refine WCs.draw (.one 0 3 (.one 1 3 (.one 2 3 (.one 3 0 (.one 5 3 (.one 6 3 (.one 7 3 (.one 8 0 (.one 4 1 (.one 9 2 (.one 10 3 (.one 11 3 .nil)))))))))))) [9] Tryz.mixed (by kernel_rfl) (by kernel_rfl) rfl (Pf.then Pf.body) (fun _ h => h) ?_
  refine WSs.pure rfl (y_move rfl) rfl ?_
  refine WSs.pure rfl (y_nil rfl) rfl ?_
  refine WSs.pure rfl (y_fld rfl fl191_2) rfl ?_
  refine WSs.val rfl (y_ld rfl sc187 (Sat.at 1 rfl) (by rfl)) rfl ?_
  refine WSs.pure rfl (y_move rfl) rfl ?_
  refine WSs.pure rfl (y_nil rfl) rfl ?_
  refine WSs.pure rfl (y_fld rfl fl191_2) rfl ?_
  refine WSs.val rfl (y_ld rfl sc187 (Sat.at 1 rfl) (by rfl)) rfl ?_
  refine WSs.callE rfl Tryz.func160 rfl rfl rfl rfl (fun w hs => arcR_Len (j := 0) hs h (by omega)) (fun _ h => h) ?_
  refine WSs.callBE rfl Tryz.func160 rfl rfl rfl rfl (fun w hs => arcR_Len (j := 1) hs h (by omega)) ?_
  refine WSs.pure rfl (y_add rfl rfl ((wrap_i64 (by unfold Arc.len at hb; omega)).trans (Int.natCast_add _ _).symm)) rfl ?_
  refine WSs.pure rfl (y_asgn rfl) rfl ?_
  refine WSs.nil ?_
  refine WEs.then_n ?_
  refine WCs.ret ?_
  refine WEs.ret1 (.inr rfl) rfl rfl ?_
  exact fun w hs => ⟨rfl, hs⟩

theorem arc_Touch_true {w : World} {L : List Asrt} {r p : Nat} {a : Arc} {k : Str} (hs : Sat w (arcL r p a L)) (h : a.Ok) (hh : a.has k = true) : Does Tryz.prog 122 [rp p, str k] w fun v w' => v = .bool true ∧ Sat w' (arcL r p (a.front 1 k) L) := by
  have hf : k ∈ a.K.flatten := (Arc.has_iff.1 hh).elim mem_flatten_getD mem_flatten_getD
  refine Does.enters hs (n := 15) Tryz.func122 rfl rfl rfl rfl ?_
  refine WCs.seq ?_
  refine WCs.region ?_
  refine WLs.val (y_asgn rfl) rfl <| ?_
  refine WLs.nil ?_
  refine WEs.then_n ?_
  refine WCs.seq ?_
  refine WCs.seq ?_
  refine WCs.region ?_
  refine WLs.val (y_move rfl) rfl <| WLs.val (y_move rfl) rfl <| ?_
  refine WLs.callE Tryz.func118 rfl rfl rfl rfl (fun w hs => hh ▸ arc_Has hs h) ?_
  refine WLs.val (y_not rfl) rfl <| ?_
  refine WLs.nil ?_
  refine WEs.then_n ?_
  refine WCs.cond_f rfl rfl ?_
  refine WCs.skip ?_
  refine WEs.then_n ?_
  refine WCs.seq ?_
  refine WCs.region ?_
  refine WLs.val (y_move rfl) rfl <| WLs.val (y_nil rfl) rfl <| WLs.val (y_fld rfl fl191_2) rfl <| WLs.val (y_ld rfl sc187 (Sat.at 1 rfl) (by rfl)) rfl <| ?_
  refine WLs.val (y_move rfl) rfl <| ?_
  refine WLs.callE Tryz.func159 rfl rfl rfl rfl (fun w hs => arcR_Front (j := 1) hs h (by omega) (h.ks k hf) (.inl hf)) ?_
  refine WLs.val (y_asgn rfl) rfl <| ?_
  refine WLs.nil ?_
  refine WEs.then_n ?_
  refine WCs.ret ?_
  refine WEs.ret1 (.inr rfl) rfl rfl ?_
  exact fun w hs => ⟨rfl, hs⟩

theorem arc_Touch_false {w : World} {L : List Asrt} {r p : Nat} {a : Arc} {k : Str} (hs : Sat w (arcL r p a L)) (h : a.Ok) (hh : a.has k = false) : Does Tryz.prog 122 [rp p, str k] w fun v w' => v = .bool false ∧ Sat w' (arcL r p a L) := by
  refine Does.enters hs (n := 15) Tryz.func122 rfl rfl rfl rfl ?_
  refine WCs.seq ?_
  refine WCs.region ?_
  refine WLs.val (y_asgn rfl) rfl <| ?_
  refine WLs.nil ?_
  refine WEs.then_n ?_
  refine WCs.seq ?_
  refine WCs.seq ?_
  refine WCs.region ?_
  refine WLs.val (y_move rfl) rfl <| WLs.val (y_move rfl) rfl <| ?_
  refine WLs.callE Tryz.func118 rfl rfl rfl rfl (fun w hs => hh ▸ arc_Has hs h) ?_
  refine WLs.val (y_not rfl) rfl <| ?_
  refine WLs.nil ?_
  refine WEs.then_n ?_
  refine WCs.cond_t rfl rfl ?_
  refine WCs.seq ?_
  refine WCs.region ?_
  refine WLs.val (y_asgn rfl) rfl <| ?_
  refine WLs.nil ?_
  refine WEs.then_n ?_
  refine WCs.ret ?_
  refine WEs.then_ret ?_
  refine WEs.ret1 (.inr rfl) rfl rfl ?_
  exact fun w hs => ⟨rfl, hs⟩

theorem arc_replace_a {w : World} {L : List Asrt} {r p : Nat} {a : Arc} {k : Str} {b : Bool} (hs : Sat w (arcL r p a L)) (h : a.Ok) (h0 : a.n 0 = 0) (hx : (a.K.getD 1 []).getLast? = some k) : Does Tryz.prog 210 [rp p, .bool b] w fun v w' => Sat w' (sliceAt 9 1 v 1 [str k] :: arcL r p (a.front 3 k) L) := by
  have hf : k ∈ a.K.flatten := mem_flatten_getD (getLast_mem hx)
  refine Does.enters hs (n := 64) Tryz.func210 rfl rfl rfl rfl ?_
  refine WCs.seq ?_
  refine WCs.region ?_
  refine WLs.val (y_asgn rfl) rfl <| ?_
  refine WLs.nil ?_
  refine WEs.then_n ?_
  refine WCs.seq ?_
  refine WCs.region ?_
  refine WLs.val (y_asgn rfl) rfl <| WLs.val (y_asgn rfl) rfl <| ?_
  refine WLs.nil ?_
  refine WEs.then_n ?_
  refine WCs.seq ?_
  refine WCs.seq ?_
  refine WCs.region ?_
  refine WLs.val (y_move rfl) rfl <| WLs.val (y_nil rfl) rfl <| WLs.val (y_fld rfl fl191_2) rfl <| WLs.val (y_ld rfl sc187 (Sat.at 1 rfl) (by rfl)) rfl <| ?_
  refine WLs.callE Tryz.func160 rfl rfl rfl rfl (fun w hs => arcR_Len (j := 0) hs h (by omega)) ?_
  refine WLs.val (y_asgn rfl) rfl <| ?_
  refine WLs.nil ?_
  refine WEs.then_n ?_
  refine WCs.seq ?_
  refine WCs.region ?_
  refine WLs.val (y_move rfl) rfl <| WLs.val (y_gt rfl rfl (decide_eq_false (by omega))) rfl <| ?_
  refine WLs.val (y_move rfl) rfl <| WLs.skipped rfl rfl rfl <| WLs.skipped rfl rfl rfl <| WLs.skipped rfl rfl rfl <| WLs.skipped rfl rfl rfl <| WLs.skipped rfl rfl rfl <| WLs.skipped rfl rfl rfl <| WLs.skipped rfl rfl rfl <| WLs.skippedU rfl rfl rfl <| WLs.skippedU rfl rfl rfl <| WLs.skippedU rfl rfl rfl <| WLs.skippedU rfl rfl rfl <| WLs.skippedU rfl rfl rfl <| WLs.skippedU rfl rfl rfl <| WLs.skippedU rfl rfl rfl <| WLs.skippedU rfl rfl rfl <| WLs.skippedU rfl rfl rfl <| WLs.skipped rfl rfl rfl <| WLs.skipped rfl rfl rfl <| WLs.skippedU rfl rfl rfl <| WLs.skippedU rfl rfl rfl <| WLs.skippedU rfl rfl rfl <| WLs.skippedU rfl rfl rfl <| WLs.skippedU rfl rfl rfl <| WLs.skippedU rfl rfl rfl <| WLs.skipped rfl rfl rfl <| WLs.val (y_pick rfl rfl) rfl <| ?_
  refine WLs.nil ?_
  refine WEs.then_n ?_
  refine WCs.cond_f rfl rfl ?_
  refine WCs.skip ?_
  refine WEs.then_n ?_
  refine WCs.seq ?_
  refine WCs.region ?_
  refine WLs.val (y_move rfl) rfl <| WLs.val (y_nil rfl) rfl <| WLs.val (y_fld rfl fl191_2) rfl <| WLs.val (y_ld rfl sc187 (Sat.at 1 rfl) (by rfl)) rfl <| ?_
  refine WLs.val (y_move rfl) rfl <| ?_
  refine WLs.callE Tryz.func162 rfl rfl rfl rfl (fun w hs => arcR_Back_yes (j := 1) hs h (by omega) hx) ?_
  refine WLs.val (y_move rfl) rfl <| WLs.val (y_ext rfl rfl) rfl <| WLs.val (y_ext rfl rfl) rfl <| WLs.val (y_asgn rfl) rfl <| WLs.val (y_asgn rfl) rfl <| ?_
  refine WLs.nil ?_
  refine WEs.then_n ?_
  refine WCs.seq ?_
  refine WCs.seq ?_
  refine WCs.region ?_
  refine WLs.val (y_move rfl) rfl <| WLs.val (y_not rfl) rfl <| ?_
  refine WLs.nil ?_
  refine WEs.then_n ?_
  refine WCs.cond_f rfl rfl ?_
  refine WCs.skip ?_
  refine WEs.then_n ?_
  refine WCs.seq ?_
  refine WCs.region ?_
  refine WLs.val (y_move rfl) rfl <| WLs.val (y_nil rfl) rfl <| WLs.val (y_fld rfl fl191_2) rfl <| WLs.val (y_ld rfl sc187 (Sat.at 1 rfl) (by rfl)) rfl <| ?_
  refine WLs.val (y_move rfl) rfl <| WLs.val (y_move rfl) rfl <| ?_
  refine WLs.callE Tryz.func159 rfl rfl rfl rfl (fun w hs => arcR_Front (j := 3) hs h (by omega) (h.ks k hf) (.inl hf)) ?_
  refine WLs.nil ?_
  refine WEs.then_n ?_
  refine WCs.seq ?_
  refine WCs.region ?_
  refine WLs.val (y_move rfl) rfl <| ?_
  refine WLs.bslice1 rfl sl97 zr9 rfl rfl rfl rfl (fun b => ?_)
  refine WLs.val (y_asgn rfl) rfl <| ?_
  refine WLs.nil ?_
  refine WEs.then_n ?_
  refine WCs.ret ?_
  refine WEs.ret1 (.inr rfl) rfl rfl ?_
  exact fun w hs => hs.implAt 0 rfl (sliceAt_one 9 b (str k))

theorem arc_replace_a0 {w : World} {L : List Asrt} {r p : Nat} {a : Arc} {b : Bool} (hs : Sat w (arcL r p a L)) (h : a.Ok) (h0 : a.n 0 = 0) (hx : (a.K.getD 1 []).getLast? = none) : Does Tryz.prog 210 [rp p, .bool b] w fun v w' => Sat w' (sliceAt 9 1 v 0 [] :: arcL r p a L) := by
  refine Does.enters hs (n := 64) Tryz.func210 rfl rfl rfl rfl ?_
  refine WCs.seq ?_
  refine WCs.region ?_
  refine WLs.val (y_asgn rfl) rfl <| ?_
  refine WLs.nil ?_
  refine WEs.then_n ?_
  refine WCs.seq ?_
  refine WCs.region ?_
  refine WLs.val (y_asgn rfl) rfl <| WLs.val (y_asgn rfl) rfl <| ?_
  refine WLs.nil ?_
  refine WEs.then_n ?_
  refine WCs.seq ?_
  refine WCs.seq ?_
  refine WCs.region ?_
  refine WLs.val (y_move rfl) rfl <| WLs.val (y_nil rfl) rfl <| WLs.val (y_fld rfl fl191_2) rfl <| WLs.val (y_ld rfl sc187 (Sat.at 1 rfl) (by rfl)) rfl <| ?_
  refine WLs.callE Tryz.func160 rfl rfl rfl rfl (fun w hs => arcR_Len (j := 0) hs h (by omega)) ?_
  refine WLs.val (y_asgn rfl) rfl <| ?_
  refine WLs.nil ?_
  refine WEs.then_n ?_
  refine WCs.seq ?_
  refine WCs.region ?_
  refine WLs.val (y_move rfl) rfl <| WLs.val (y_gt rfl rfl (decide_eq_false (by omega))) rfl <| ?_
  refine WLs.val (y_move rfl) rfl <| WLs.skipped rfl rfl rfl <| WLs.skipped rfl rfl rfl <| WLs.skipped rfl rfl rfl <| WLs.skipped rfl rfl rfl <| WLs.skipped rfl rfl rfl <| WLs.skipped rfl rfl rfl <| WLs.skipped rfl rfl rfl <| WLs.skippedU rfl rfl rfl <| WLs.skippedU rfl rfl rfl <| WLs.skippedU rfl rfl rfl <| WLs.skippedU rfl rfl rfl <| WLs.skippedU rfl rfl rfl <| WLs.skippedU rfl rfl rfl <| WLs.skippedU rfl rfl rfl <| WLs.skippedU rfl rfl rfl <| WLs.skippedU rfl rfl rfl <| WLs.skipped rfl rfl rfl <| WLs.skipped rfl rfl rfl <| WLs.skippedU rfl rfl rfl <| WLs.skippedU rfl rfl rfl <| WLs.skippedU rfl rfl rfl <| WLs.skippedU rfl rfl rfl <| WLs.skippedU rfl rfl rfl <| WLs.skippedU rfl rfl rfl <| WLs.skipped rfl rfl rfl <| WLs.val (y_pick rfl rfl) rfl <| ?_
  refine WLs.nil ?_
  refine WEs.then_n ?_
  refine WCs.cond_f rfl rfl ?_
  refine WCs.skip ?_
  refine WEs.then_n ?_
  refine WCs.seq ?_
  refine WCs.region ?_
  refine WLs.val (y_move rfl) rfl <| WLs.val (y_nil rfl) rfl <| WLs.val (y_fld rfl fl191_2) rfl <| WLs.val (y_ld rfl sc187 (Sat.at 1 rfl) (by rfl)) rfl <| ?_
  refine WLs.val (y_move rfl) rfl <| ?_
  refine WLs.callE Tryz.func162 rfl rfl rfl rfl (fun w hs => arcR_Back_no (j := 1) hs h (by omega) hx) ?_
  refine WLs.val (y_move rfl) rfl <| WLs.val (y_ext rfl rfl) rfl <| WLs.val (y_ext rfl rfl) rfl <| WLs.val (y_asgn rfl) rfl <| WLs.val (y_asgn rfl) rfl <| ?_
  refine WLs.nil ?_
  refine WEs.then_n ?_
  refine WCs.seq ?_
  refine WCs.seq ?_
  refine WCs.region ?_
  refine WLs.val (y_move rfl) rfl <| WLs.val (y_not rfl) rfl <| ?_
  refine WLs.nil ?_
  refine WEs.then_n ?_
  refine WCs.cond_t rfl rfl ?_
  refine WCs.seq ?_
  refine WCs.region ?_
  refine WLs.val (y_asgn rfl) rfl <| ?_
  refine WLs.nil ?_
  refine WEs.then_n ?_
  refine WCs.ret ?_
  refine WEs.then_ret ?_
  refine WEs.ret1 (.inr rfl) rfl rfl ?_
  exact fun w hs => hs.emp.implAt 0 rfl (sliceAt_nil 9 1)

theorem arc_replace_b {w : World} {L : List Asrt} {r p : Nat} {a : Arc} {k : Str} {b : Bool} (hs : Sat w (arcL r p a L)) (h : a.Ok) (h0 : a.target < a.n 0) (hx : (a.K.getD 0 []).getLast? = some k) : Does Tryz.prog 210 [rp p, .bool b] w fun v w' => Sat w' (sliceAt 9 1 v 1 [str k] :: arcL r p (a.front 2 k) L) := by
  have hf : k ∈ a.K.flatten := mem_flatten_getD (getLast_mem hx)
  refine Does.enters hs (n := 64) Tryz.func210 rfl rfl rfl rfl ?_
  refine WCs.seq ?_
  refine WCs.region ?_
  refine WLs.val (y_asgn rfl) rfl <| ?_
  refine WLs.nil ?_
  refine WEs.then_n ?_
  refine WCs.seq ?_
  refine WCs.region ?_
  refine WLs.val (y_asgn rfl) rfl <| WLs.val (y_asgn rfl) rfl <| ?_
  refine WLs.nil ?_
  refine WEs.then_n ?_
  refine WCs.seq ?_
  refine WCs.seq ?_
  refine WCs.region ?_
  refine WLs.val (y_move rfl) rfl <| WLs.val (y_nil rfl) rfl <| WLs.val (y_fld rfl fl191_2) rfl <| WLs.val (y_ld rfl sc187 (Sat.at 1 rfl) (by rfl)) rfl <| ?_
  refine WLs.callE Tryz.func160 rfl rfl rfl rfl (fun w hs => arcR_Len (j := 0) hs h (by omega)) ?_
  refine WLs.val (y_asgn rfl) rfl <| ?_
  refine WLs.nil ?_
  refine WEs.then_n ?_
  refine WCs.seq ?_
  refine WCs.region ?_
  refine WLs.val (y_move rfl) rfl <| WLs.val (y_gt rfl rfl (decide_eq_true (by omega))) rfl <| ?_
  refine WLs.val (y_move rfl) rfl <| WLs.guarded rfl rfl <| WLs.val (y_move rfl) rfl <| WLs.guarded rfl rfl <| WLs.val (y_move rfl) rfl <| WLs.guarded rfl rfl <| WLs.val (y_nil rfl) rfl <| WLs.guarded rfl rfl <| WLs.val (y_fld rfl fl191_1) rfl <| WLs.guarded rfl rfl <| WLs.val (y_ld rfl sc3 (Sat.at 1 rfl) (by rfl)) rfl <| ?_
  refine WLs.guarded rfl rfl <| WLs.val (y_gt rfl rfl (decide_eq_true (by omega))) rfl <| ?_
  refine WLs.guarded rfl rfl <| WLs.val (y_move rfl) rfl <| WLs.skipped rfl rfl rfl <| WLs.skipped rfl rfl rfl <| WLs.skippedU rfl rfl rfl <| WLs.skippedU rfl rfl rfl <| WLs.skippedU rfl rfl rfl <| WLs.skippedU rfl rfl rfl <| WLs.skippedU rfl rfl rfl <| WLs.skippedU rfl rfl rfl <| WLs.skipped rfl rfl rfl <| WLs.guarded rfl rfl <| WLs.val (y_pick rfl rfl) rfl <| WLs.guarded rfl rfl <| WLs.val (y_move rfl) rfl <| WLs.skipped rfl rfl rfl <| WLs.skipped rfl rfl rfl <| WLs.skipped rfl rfl rfl <| WLs.skipped rfl rfl rfl <| WLs.skipped rfl rfl rfl <| WLs.skipped rfl rfl rfl <| WLs.guarded rfl rfl <| WLs.val (y_pick rfl rfl) rfl <| WLs.val (y_pick rfl rfl) rfl <| ?_
  refine WLs.nil ?_
  refine WEs.then_n ?_
  refine WCs.cond_t rfl rfl ?_
  refine WCs.region ?_
  refine WLs.val (y_asgn rfl) rfl <| WLs.val (y_asgn rfl) rfl <| ?_
  refine WLs.nil ?_
  refine WEs.then_n ?_
  refine WCs.seq ?_
  refine WCs.region ?_
  refine WLs.val (y_move rfl) rfl <| WLs.val (y_nil rfl) rfl <| WLs.val (y_fld rfl fl191_2) rfl <| WLs.val (y_ld rfl sc187 (Sat.at 1 rfl) (by rfl)) rfl <| ?_
  refine WLs.val (y_move rfl) rfl <| ?_
  refine WLs.callE Tryz.func162 rfl rfl rfl rfl (fun w hs => arcR_Back_yes (j := 0) hs h (by omega) hx) ?_
  refine WLs.val (y_move rfl) rfl <| WLs.val (y_ext rfl rfl) rfl <| WLs.val (y_ext rfl rfl) rfl <| WLs.val (y_asgn rfl) rfl <| WLs.val (y_asgn rfl) rfl <| ?_
  refine WLs.nil ?_
  refine WEs.then_n ?_
  refine WCs.seq ?_
  refine WCs.seq ?_
  refine WCs.region ?_
  refine WLs.val (y_move rfl) rfl <| WLs.val (y_not rfl) rfl <| ?_
  refine WLs.nil ?_
  refine WEs.then_n ?_
  refine WCs.cond_f rfl rfl ?_
  refine WCs.skip ?_
  refine WEs.then_n ?_
  refine WCs.seq ?_
  refine WCs.region ?_
  refine WLs.val (y_move rfl) rfl <| WLs.val (y_nil rfl) rfl <| WLs.val (y_fld rfl fl191_2) rfl <| WLs.val (y_ld rfl sc187 (Sat.at 1 rfl) (by rfl)) rfl <| ?_
  refine WLs.val (y_move rfl) rfl <| WLs.val (y_move rfl) rfl <| ?_
  refine WLs.callE Tryz.func159 rfl rfl rfl rfl (fun w hs => arcR_Front (j := 2) hs h (by omega) (h.ks k hf) (.inl hf)) ?_
  refine WLs.nil ?_
  refine WEs.then_n ?_
  refine WCs.seq ?_
  refine WCs.region ?_
  refine WLs.val (y_move rfl) rfl <| ?_
  refine WLs.bslice1 rfl sl97 zr9 rfl rfl rfl rfl (fun b => ?_)
  refine WLs.val (y_asgn rfl) rfl <| ?_
  refine WLs.nil ?_
  refine WEs.then_n ?_
  refine WCs.ret ?_
  refine WEs.ret1 (.inr rfl) rfl rfl ?_
  exact fun w hs => hs.implAt 0 rfl (sliceAt_one 9 b (str k))

theorem arc_replace_c {w : World} {L : List Asrt} {r p : Nat} {a : Arc} {k : Str}  (hs : Sat w (arcL r p a L)) (h : a.Ok) (h0 : 0 < a.n 0) (h1 : a.n 0 = a.target) (hx : (a.K.getD 0 []).getLast? = some k) : Does Tryz.prog 210 [rp p, .bool true] w fun v w' => Sat w' (sliceAt 9 1 v 1 [str k] :: arcL r p (a.front 2 k) L) := by
  have hf : k ∈ a.K.flatten := mem_flatten_getD (getLast_mem hx)
  refine Does.enters hs (n := 64) Tryz.func210 rfl rfl rfl rfl ?_
  refine WCs.seq ?_
  refine WCs.region ?_
  refine WLs.val (y_asgn rfl) rfl <| ?_
  refine WLs.nil ?_
  refine WEs.then_n ?_
  refine WCs.seq ?_
  refine WCs.region ?_
  refine WLs.val (y_asgn rfl) rfl <| WLs.val (y_asgn rfl) rfl <| ?_
  refine WLs.nil ?_
  refine WEs.then_n ?_
  refine WCs.seq ?_
  refine WCs.seq ?_
  refine WCs.region ?_
  refine WLs.val (y_move rfl) rfl <| WLs.val (y_nil rfl) rfl <| WLs.val (y_fld rfl fl191_2) rfl <| WLs.val (y_ld rfl sc187 (Sat.at 1 rfl) (by rfl)) rfl <| ?_
  refine WLs.callE Tryz.func160 rfl rfl rfl rfl (fun w hs => arcR_Len (j := 0) hs h (by omega)) ?_
  refine WLs.val (y_asgn rfl) rfl <| ?_
  refine WLs.nil ?_
  refine WEs.then_n ?_
  refine WCs.seq ?_
  refine WCs.region ?_
  refine WLs.val (y_move rfl) rfl <| WLs.val (y_gt rfl rfl (decide_eq_true (by omega))) rfl <| ?_
  refine WLs.val (y_move rfl) rfl <| WLs.guarded rfl rfl <| WLs.val (y_move rfl) rfl <| WLs.guarded rfl rfl <| WLs.val (y_move rfl) rfl <| WLs.guarded rfl rfl <| WLs.val (y_nil rfl) rfl <| WLs.guarded rfl rfl <| WLs.val (y_fld rfl fl191_1) rfl <| WLs.guarded rfl rfl <| WLs.val (y_ld rfl sc3 (Sat.at 1 rfl) (by rfl)) rfl <| ?_
  refine WLs.guarded rfl rfl <| WLs.val (y_gt rfl rfl (decide_eq_false (by omega))) rfl <| ?_
  refine WLs.guarded rfl rfl <| WLs.val (y_move rfl) rfl <| WLs.guarded rfl rfl <| WLs.val (y_move rfl) rfl <| WLs.guarded rfl rfl <| WLs.val (y_move rfl) rfl <| WLs.guarded rfl rfl <| WLs.val (y_move rfl) rfl <| WLs.guarded rfl rfl <| WLs.val (y_move rfl) rfl <| WLs.guarded rfl rfl <| WLs.val (y_nil rfl) rfl <| WLs.guarded rfl rfl <| WLs.val (y_fld rfl fl191_1) rfl <| WLs.guarded rfl rfl <| WLs.val (y_ld rfl sc3 (Sat.at 1 rfl) (by rfl)) rfl <| ?_
  refine WLs.guarded rfl rfl <| WLs.val (y_eq rfl rfl (decide_eq_true (by omega))) rfl <| ?_
  refine WLs.guarded rfl rfl <| WLs.val (y_pick rfl rfl) rfl <| WLs.guarded rfl rfl <| WLs.val (y_pick rfl rfl) rfl <| WLs.guarded rfl rfl <| WLs.val (y_move rfl) rfl <| WLs.skipped rfl rfl rfl <| WLs.skipped rfl rfl rfl <| WLs.skipped rfl rfl rfl <| WLs.skipped rfl rfl rfl <| WLs.skipped rfl rfl rfl <| WLs.skipped rfl rfl rfl <| WLs.guarded rfl rfl <| WLs.val (y_pick rfl rfl) rfl <| WLs.val (y_pick rfl rfl) rfl <| ?_
  refine WLs.nil ?_
  refine WEs.then_n ?_
  refine WCs.cond_t rfl rfl ?_
  refine WCs.region ?_
  refine WLs.val (y_asgn rfl) rfl <| WLs.val (y_asgn rfl) rfl <| ?_
  refine WLs.nil ?_
  refine WEs.then_n ?_
  refine WCs.seq ?_
  refine WCs.region ?_
  refine WLs.val (y_move rfl) rfl <| WLs.val (y_nil rfl) rfl <| WLs.val (y_fld rfl fl191_2) rfl <| WLs.val (y_ld rfl sc187 (Sat.at 1 rfl) (by rfl)) rfl <| ?_
  refine WLs.val (y_move rfl) rfl <| ?_
  refine WLs.callE Tryz.func162 rfl rfl rfl rfl (fun w hs => arcR_Back_yes (j := 0) hs h (by omega) hx) ?_
  refine WLs.val (y_move rfl) rfl <| WLs.val (y_ext rfl rfl) rfl <| WLs.val (y_ext rfl rfl) rfl <| WLs.val (y_asgn rfl) rfl <| WLs.val (y_asgn rfl) rfl <| ?_
  refine WLs.nil ?_
  refine WEs.then_n ?_
  refine WCs.seq ?_
  refine WCs.seq ?_
  refine WCs.region ?_
  refine WLs.val (y_move rfl) rfl <| WLs.val (y_not rfl) rfl <| ?_
  refine WLs.nil ?_
  refine WEs.then_n ?_
  refine WCs.cond_f rfl rfl ?_
  refine WCs.skip ?_
  refine WEs.then_n ?_
  refine WCs.seq ?_
  refine WCs.region ?_
  refine WLs.val (y_move rfl) rfl <| WLs.val (y_nil rfl) rfl <| WLs.val (y_fld rfl fl191_2) rfl <| WLs.val (y_ld rfl sc187 (Sat.at 1 rfl) (by rfl)) rfl <| ?_
  refine WLs.val (y_move rfl) rfl <| WLs.val (y_move rfl) rfl <| ?_
  refine WLs.callE Tryz.func159 rfl rfl rfl rfl (fun w hs => arcR_Front (j := 2) hs h (by omega) (h.ks k hf) (.inl hf)) ?_
  refine WLs.nil ?_
  refine WEs.then_n ?_
  refine WCs.seq ?_
  refine WCs.region ?_
  refine WLs.val (y_move rfl) rfl <| ?_
  refine WLs.bslice1 rfl sl97 zr9 rfl rfl rfl rfl (fun b => ?_)
  refine WLs.val (y_asgn rfl) rfl <| ?_
  refine WLs.nil ?_
  refine WEs.then_n ?_
  refine WCs.ret ?_
  refine WEs.ret1 (.inr rfl) rfl rfl ?_
  exact fun w hs => hs.implAt 0 rfl (sliceAt_one 9 b (str k))

theorem arc_replace_d {w : World} {L : List Asrt} {r p : Nat} {a : Arc} {k : Str}  (hs : Sat w (arcL r p a L)) (h : a.Ok) (h0 : 0 < a.n 0) (h1 : a.n 0 ≤ a.target) (h2 : a.n 1 = 0) (hx : (a.K.getD 0 []).getLast? = some k) : Does Tryz.prog 210 [rp p, .bool false] w fun v w' => Sat w' (sliceAt 9 1 v 1 [str k] :: arcL r p (a.front 2 k) L) := by
  have hf : k ∈ a.K.flatten := mem_flatten_getD (getLast_mem hx)
  refine Does.enters hs (n := 64) Tryz.func210 rfl rfl rfl rfl ?_
  refine WCs.seq ?_
  refine WCs.region ?_
  refine WLs.val (y_asgn rfl) rfl <| ?_
  refine WLs.nil ?_
  refine WEs.then_n ?_
  refine WCs.seq ?_
  refine WCs.region ?_
  refine WLs.val (y_asgn rfl) rfl <| WLs.val (y_asgn rfl) rfl <| ?_
  refine WLs.nil ?_
  refine WEs.then_n ?_
  refine WCs.seq ?_
  refine WCs.seq ?_
  refine WCs.region ?_
  refine WLs.val (y_move rfl) rfl <| WLs.val (y_nil rfl) rfl <| WLs.val (y_fld rfl fl191_2) rfl <| WLs.val (y_ld rfl sc187 (Sat.at 1 rfl) (by rfl)) rfl <| ?_
  refine WLs.callE Tryz.func160 rfl rfl rfl rfl (fun w hs => arcR_Len (j := 0) hs h (by omega)) ?_
  refine WLs.val (y_asgn rfl) rfl <| ?_
  refine WLs.nil ?_
  refine WEs.then_n ?_
  refine WCs.seq ?_
  refine WCs.region ?_
  refine WLs.val (y_move rfl) rfl <| WLs.val (y_gt rfl rfl (decide_eq_true (by omega))) rfl <| ?_
  refine WLs.val (y_move rfl) rfl <| WLs.guarded rfl rfl <| WLs.val (y_move rfl) rfl <| WLs.guarded rfl rfl <| WLs.val (y_move rfl) rfl <| WLs.guarded rfl rfl <| WLs.val (y_nil rfl) rfl <| WLs.guarded rfl rfl <| WLs.val (y_fld rfl fl191_1) rfl <| WLs.guarded rfl rfl <| WLs.val (y_ld rfl sc3 (Sat.at 1 rfl) (by rfl)) rfl <| ?_
  refine WLs.guarded rfl rfl <| WLs.val (y_gt rfl rfl (decide_eq_false (by omega))) rfl <| ?_
  refine WLs.guarded rfl rfl <| WLs.val (y_move rfl) rfl <| WLs.guarded rfl rfl <| WLs.val (y_move rfl) rfl <| WLs.guarded rfl rfl <| WLs.val (y_move rfl) rfl <| WLs.skipped rfl rfl rfl <| WLs.skipped rfl rfl rfl <| WLs.skipped rfl rfl rfl <| WLs.skipped rfl rfl rfl <| WLs.skipped rfl rfl rfl <| WLs.skipped rfl rfl rfl <| WLs.guarded rfl rfl <| WLs.val (y_pick rfl rfl) rfl <| WLs.guarded rfl rfl <| WLs.val (y_pick rfl rfl) rfl <| WLs.guarded rfl rfl <| WLs.val (y_move rfl) rfl <| WLs.guarded rfl rfl <| WLs.val (y_move rfl) rfl <| WLs.guarded rfl rfl <| WLs.val (y_nil rfl) rfl <| WLs.guarded rfl rfl <| WLs.val (y_fld rfl fl191_2) rfl <| WLs.guarded rfl rfl <| WLs.val (y_ld rfl sc187 (Sat.at 1 rfl) (by rfl)) rfl <| ?_
  refine WLs.guarded rfl rfl <| ?_
  refine WLs.callE Tryz.func160 rfl rfl rfl rfl (fun w hs => arcR_Len (j := 1) hs h (by omega)) ?_
  refine WLs.guarded rfl rfl <| WLs.val (y_eq rfl rfl (decide_eq_true (by omega))) rfl <| ?_
  refine WLs.guarded rfl rfl <| WLs.val (y_pick rfl rfl) rfl <| WLs.val (y_pick rfl rfl) rfl <| ?_
  refine WLs.nil ?_
  refine WEs.then_n ?_
  refine WCs.cond_t rfl rfl ?_
  refine WCs.region ?_
  refine WLs.val (y_asgn rfl) rfl <| WLs.val (y_asgn rfl) rfl <| ?_
  refine WLs.nil ?_
  refine WEs.then_n ?_
  refine WCs.seq ?_
  refine WCs.region ?_
  refine WLs.val (y_move rfl) rfl <| WLs.val (y_nil rfl) rfl <| WLs.val (y_fld rfl fl191_2) rfl <| WLs.val (y_ld rfl sc187 (Sat.at 1 rfl) (by rfl)) rfl <| ?_
  refine WLs.val (y_move rfl) rfl <| ?_
  refine WLs.callE Tryz.func162 rfl rfl rfl rfl (fun w hs => arcR_Back_yes (j := 0) hs h (by omega) hx) ?_
  refine WLs.val (y_move rfl) rfl <| WLs.val (y_ext rfl rfl) rfl <| WLs.val (y_ext rfl rfl) rfl <| WLs.val (y_asgn rfl) rfl <| WLs.val (y_asgn rfl) rfl <| ?_
  refine WLs.nil ?_
  refine WEs.then_n ?_
  refine WCs.seq ?_
  refine WCs.seq ?_
  refine WCs.region ?_
  refine WLs.val (y_move rfl) rfl <| WLs.val (y_not rfl) rfl <| ?_
  refine WLs.nil ?_
  refine WEs.then_n ?_
  refine WCs.cond_f rfl rfl ?_
  refine WCs.skip ?_
  refine WEs.then_n ?_
  refine WCs.seq ?_
  refine WCs.region ?_
  refine WLs.val (y_move rfl) rfl <| WLs.val (y_nil rfl) rfl <| WLs.val (y_fld rfl fl191_2) rfl <| WLs.val (y_ld rfl sc187 (Sat.at 1 rfl) (by rfl)) rfl <| ?_
  refine WLs.val (y_move rfl) rfl <| WLs.val (y_move rfl) rfl <| ?_
  refine WLs.callE Tryz.func159 rfl rfl rfl rfl (fun w hs => arcR_Front (j := 2) hs h (by omega) (h.ks k hf) (.inl hf)) ?_
  refine WLs.nil ?_
  refine WEs.then_n ?_
  refine WCs.seq ?_
  refine WCs.region ?_
  refine WLs.val (y_move rfl) rfl <| ?_
  refine WLs.bslice1 rfl sl97 zr9 rfl rfl rfl rfl (fun b => ?_)
  refine WLs.val (y_asgn rfl) rfl <| ?_
  refine WLs.nil ?_
  refine WEs.then_n ?_
  refine WCs.ret ?_
  refine WEs.ret1 (.inr rfl) rfl rfl ?_
  exact fun w hs => hs.implAt 0 rfl (sliceAt_one 9 b (str k))

theorem arc_replace_e {w : World} {L : List Asrt} {r p : Nat} {a : Arc} {k : Str}  (hs : Sat w (arcL r p a L)) (h : a.Ok) (h0 : 0 < a.n 0) (h1 : a.n 0 ≤ a.target) (h2 : 0 < a.n 1) (hx : (a.K.getD 1 []).getLast? = some k) : Does Tryz.prog 210 [rp p, .bool false] w fun v w' => Sat w' (sliceAt 9 1 v 1 [str k] :: arcL r p (a.front 3 k) L) := by
  have hf : k ∈ a.K.flatten := mem_flatten_getD (getLast_mem hx)
  refine Does.enters hs (n := 64) Tryz.func210 rfl rfl rfl rfl ?_
  refine WCs.seq ?_
  refine WCs.region ?_
  refine WLs.val (y_asgn rfl) rfl <| ?_
  refine WLs.nil ?_
  refine WEs.then_n ?_
  refine WCs.seq ?_
  refine WCs.region ?_
  refine WLs.val (y_asgn rfl) rfl <| WLs.val (y_asgn rfl) rfl <| ?_
  refine WLs.nil ?_
  refine WEs.then_n ?_
  refine WCs.seq ?_
  refine WCs.seq ?_
  refine WCs.region ?_
  refine WLs.val (y_move rfl) rfl <| WLs.val (y_nil rfl) rfl <| WLs.val (y_fld rfl fl191_2) rfl <| WLs.val (y_ld rfl sc187 (Sat.at 1 rfl) (by rfl)) rfl <| ?_
  refine WLs.callE Tryz.func160 rfl rfl rfl rfl (fun w hs => arcR_Len (j := 0) hs h (by omega)) ?_
  refine WLs.val (y_asgn rfl) rfl <| ?_
  refine WLs.nil ?_
  refine WEs.then_n ?_
  refine WCs.seq ?_
  refine WCs.region ?_
  refine WLs.val (y_move rfl) rfl <| WLs.val (y_gt rfl rfl (decide_eq_true (by omega))) rfl <| ?_
  refine WLs.val (y_move rfl) rfl <| WLs.guarded rfl rfl <| WLs.val (y_move rfl) rfl <| WLs.guarded rfl rfl <| WLs.val (y_move rfl) rfl <| WLs.guarded rfl rfl <| WLs.val (y_nil rfl) rfl <| WLs.guarded rfl rfl <| WLs.val (y_fld rfl fl191_1) rfl <| WLs.guarded rfl rfl <| WLs.val (y_ld rfl sc3 (Sat.at 1 rfl) (by rfl)) rfl <| ?_
  refine WLs.guarded rfl rfl <| WLs.val (y_gt rfl rfl (decide_eq_false (by omega))) rfl <| ?_
  refine WLs.guarded rfl rfl <| WLs.val (y_move rfl) rfl <| WLs.guarded rfl rfl <| WLs.val (y_move rfl) rfl <| WLs.guarded rfl rfl <| WLs.val (y_move rfl) rfl <| WLs.skipped rfl rfl rfl <| WLs.skipped rfl rfl rfl <| WLs.skipped rfl rfl rfl <| WLs.skipped rfl rfl rfl <| WLs.skipped rfl rfl rfl <| WLs.skipped rfl rfl rfl <| WLs.guarded rfl rfl <| WLs.val (y_pick rfl rfl) rfl <| WLs.guarded rfl rfl <| WLs.val (y_pick rfl rfl) rfl <| WLs.guarded rfl rfl <| WLs.val (y_move rfl) rfl <| WLs.guarded rfl rfl <| WLs.val (y_move rfl) rfl <| WLs.guarded rfl rfl <| WLs.val (y_nil rfl) rfl <| WLs.guarded rfl rfl <| WLs.val (y_fld rfl fl191_2) rfl <| WLs.guarded rfl rfl <| WLs.val (y_ld rfl sc187 (Sat.at 1 rfl) (by rfl)) rfl <| ?_
  refine WLs.guarded rfl rfl <| ?_
  refine WLs.callE Tryz.func160 rfl rfl rfl rfl (fun w hs => arcR_Len (j := 1) hs h (by omega)) ?_
  refine WLs.guarded rfl rfl <| WLs.val (y_eq rfl rfl (decide_eq_false (by omega))) rfl <| ?_
  refine WLs.guarded rfl rfl <| WLs.val (y_pick rfl rfl) rfl <| WLs.val (y_pick rfl rfl) rfl <| ?_
  refine WLs.nil ?_
  refine WEs.then_n ?_
  refine WCs.cond_f rfl rfl ?_
  refine WCs.skip ?_
  refine WEs.then_n ?_
  refine WCs.seq ?_
  refine WCs.region ?_
  refine WLs.val (y_move rfl) rfl <| WLs.val (y_nil rfl) rfl <| WLs.val (y_fld rfl fl191_2) rfl <| WLs.val (y_ld rfl sc187 (Sat.at 1 rfl) (by rfl)) rfl <| ?_
  refine WLs.val (y_move rfl) rfl <| ?_
  refine WLs.callE Tryz.func162 rfl rfl rfl rfl (fun w hs => arcR_Back_yes (j := 1) hs h (by omega) hx) ?_
  refine WLs.val (y_move rfl) rfl <| WLs.val (y_ext rfl rfl) rfl <| WLs.val (y_ext rfl rfl) rfl <| WLs.val (y_asgn rfl) rfl <| WLs.val (y_asgn rfl) rfl <| ?_
  refine WLs.nil ?_
  refine WEs.then_n ?_
  refine WCs.seq ?_
  refine WCs.seq ?_
  refine WCs.region ?_
  refine WLs.val (y_move rfl) rfl <| WLs.val (y_not rfl) rfl <| ?_
  refine WLs.nil ?_
  refine WEs.then_n ?_
  refine WCs.cond_f rfl rfl ?_
  refine WCs.skip ?_
  refine WEs.then_n ?_
  refine WCs.seq ?_
  refine WCs.region ?_
  refine WLs.val (y_move rfl) rfl <| WLs.val (y_nil rfl) rfl <| WLs.val (y_fld rfl fl191_2) rfl <| WLs.val (y_ld rfl sc187 (Sat.at 1 rfl) (by rfl)) rfl <| ?_
  refine WLs.val (y_move rfl) rfl <| WLs.val (y_move rfl) rfl <| ?_
  refine WLs.callE Tryz.func159 rfl rfl rfl rfl (fun w hs => arcR_Front (j := 3) hs h (by omega) (h.ks k hf) (.inl hf)) ?_
  refine WLs.nil ?_
  refine WEs.then_n ?_
  refine WCs.seq ?_
  refine WCs.region ?_
  refine WLs.val (y_move rfl) rfl <| ?_
  refine WLs.bslice1 rfl sl97 zr9 rfl rfl rfl rfl (fun b => ?_)
  refine WLs.val (y_asgn rfl) rfl <| ?_
  refine WLs.nil ?_
  refine WEs.then_n ?_
  refine WCs.ret ?_
  refine WEs.ret1 (.inr rfl) rfl rfl ?_
  exact fun w hs => hs.implAt 0 rfl (sliceAt_one 9 b (str k))

theorem arc_replace_e0 {w : World} {L : List Asrt} {r p : Nat} {a : Arc}  (hs : Sat w (arcL r p a L)) (h : a.Ok) (h0 : 0 < a.n 0) (h1 : a.n 0 ≤ a.target) (h2 : 0 < a.n 1) (hx : (a.K.getD 1 []).getLast? = none) : Does Tryz.prog 210 [rp p, .bool false] w fun v w' => Sat w' (sliceAt 9 1 v 0 [] :: arcL r p a L) := by
  refine Does.enters hs (n := 64) Tryz.func210 rfl rfl rfl rfl ?_
  refine WCs.seq ?_
  refine WCs.region ?_
  refine WLs.val (y_asgn rfl) rfl <| ?_
  refine WLs.nil ?_
  refine WEs.then_n ?_
  refine WCs.seq ?_
  refine WCs.region ?_
  refine WLs.val (y_asgn rfl) rfl <| WLs.val (y_asgn rfl) rfl <| ?_
  refine WLs.nil ?_
  refine WEs.then_n ?_
  refine WCs.seq ?_
  refine WCs.seq ?_
  refine WCs.region ?_
  refine WLs.val (y_move rfl) rfl <| WLs.val (y_nil rfl) rfl <| WLs.val (y_fld rfl fl191_2) rfl <| WLs.val (y_ld rfl sc187 (Sat.at 1 rfl) (by rfl)) rfl <| ?_
  refine WLs.callE Tryz.func160 rfl rfl rfl rfl (fun w hs => arcR_Len (j := 0) hs h (by omega)) ?_
  refine WLs.val (y_asgn rfl) rfl <| ?_
  refine WLs.nil ?_
  refine WEs.then_n ?_
  refine WCs.seq ?_
  refine WCs.region ?_
  refine WLs.val (y_move rfl) rfl <| WLs.val (y_gt rfl rfl (decide_eq_true (by omega))) rfl <| ?_
  refine WLs.val (y_move rfl) rfl <| WLs.guarded rfl rfl <| WLs.val (y_move rfl) rfl <| WLs.guarded rfl rfl <| WLs.val (y_move rfl) rfl <| WLs.guarded rfl rfl <| WLs.val (y_nil rfl) rfl <| WLs.guarded rfl rfl <| WLs.val (y_fld rfl fl191_1) rfl <| WLs.guarded rfl rfl <| WLs.val (y_ld rfl sc3 (Sat.at 1 rfl) (by rfl)) rfl <| ?_
  refine WLs.guarded rfl rfl <| WLs.val (y_gt rfl rfl (decide_eq_false (by omega))) rfl <| ?_
  refine WLs.guarded rfl rfl <| WLs.val (y_move rfl) rfl <| WLs.guarded rfl rfl <| WLs.val (y_move rfl) rfl <| WLs.guarded rfl rfl <| WLs.val (y_move rfl) rfl <| WLs.skipped rfl rfl rfl <| WLs.skipped rfl rfl rfl <| WLs.skipped rfl rfl rfl <| WLs.skipped rfl rfl rfl <| WLs.skipped rfl rfl rfl <| WLs.skipped rfl rfl rfl <| WLs.guarded rfl rfl <| WLs.val (y_pick rfl rfl) rfl <| WLs.guarded rfl rfl <| WLs.val (y_pick rfl rfl) rfl <| WLs.guarded rfl rfl <| WLs.val (y_move rfl) rfl <| WLs.guarded rfl rfl <| WLs.val (y_move rfl) rfl <| WLs.guarded rfl rfl <| WLs.val (y_nil rfl) rfl <| WLs.guarded rfl rfl <| WLs.val (y_fld rfl fl191_2) rfl <| WLs.guarded rfl rfl <| WLs.val (y_ld rfl sc187 (Sat.at 1 rfl) (by rfl)) rfl <| ?_
  refine WLs.guarded rfl rfl <| ?_
  refine WLs.callE Tryz.func160 rfl rfl rfl rfl (fun w hs => arcR_Len (j := 1) hs h (by omega)) ?_
  refine WLs.guarded rfl rfl <| WLs.val (y_eq rfl rfl (decide_eq_false (by omega))) rfl <| ?_
  refine WLs.guarded rfl rfl <| WLs.val (y_pick rfl rfl) rfl <| WLs.val (y_pick rfl rfl) rfl <| ?_
  refine WLs.nil ?_
  refine WEs.then_n ?_
  refine WCs.cond_f rfl rfl ?_
  refine WCs.skip ?_
  refine WEs.then_n ?_
  refine WCs.seq ?_
  refine WCs.region ?_
  refine WLs.val (y_move rfl) rfl <| WLs.val (y_nil rfl) rfl <| WLs.val (y_fld rfl fl191_2) rfl <| WLs.val (y_ld rfl sc187 (Sat.at 1 rfl) (by rfl)) rfl <| ?_
  refine WLs.val (y_move rfl) rfl <| ?_
  refine WLs.callE Tryz.func162 rfl rfl rfl rfl (fun w hs => arcR_Back_no (j := 1) hs h (by omega) hx) ?_
  refine WLs.val (y_move rfl) rfl <| WLs.val (y_ext rfl rfl) rfl <| WLs.val (y_ext rfl rfl) rfl <| WLs.val (y_asgn rfl) rfl <| WLs.val (y_asgn rfl) rfl <| ?_
  refine WLs.nil ?_
  refine WEs.then_n ?_
  refine WCs.seq ?_
  refine WCs.seq ?_
  refine WCs.region ?_
  refine WLs.val (y_move rfl) rfl <| WLs.val (y_not rfl) rfl <| ?_
  refine WLs.nil ?_
  refine WEs.then_n ?_
  refine WCs.cond_t rfl rfl ?_
  refine WCs.seq ?_
  refine WCs.region ?_
  refine WLs.val (y_asgn rfl) rfl <| ?_
  refine WLs.nil ?_
  refine WEs.then_n ?_
  refine WCs.ret ?_
  refine WEs.then_ret ?_
  refine WEs.ret1 (.inr rfl) rfl rfl ?_
  exact fun w hs => hs.emp.implAt 0 rfl (sliceAt_nil 9 1)

theorem arc_replace_f {w : World} {L : List Asrt} {r p : Nat} {a : Arc} {k : Str}  (hs : Sat w (arcL r p a L)) (h : a.Ok) (h0 : 0 < a.n 0) (h1 : a.n 0 < a.target) (h2 : a.n 1 = 0) (hx : (a.K.getD 0 []).getLast? = some k) : Does Tryz.prog 210 [rp p, .bool true] w fun v w' => Sat w' (sliceAt 9 1 v 1 [str k] :: arcL r p (a.front 2 k) L) := by
  have hf : k ∈ a.K.flatten := mem_flatten_getD (getLast_mem hx)
  refine Does.enters hs (n := 64) Tryz.func210 rfl rfl rfl rfl ?_
  refine WCs.seq ?_
  refine WCs.region ?_
  refine WLs.val (y_asgn rfl) rfl <| ?_
  refine WLs.nil ?_
  refine WEs.then_n ?_
  refine WCs.seq ?_
  refine WCs.region ?_
  refine WLs.val (y_asgn rfl) rfl <| WLs.val (y_asgn rfl) rfl <| ?_
  refine WLs.nil ?_
  refine WEs.then_n ?_
  refine WCs.seq ?_
  refine WCs.seq ?_
  refine WCs.region ?_
  refine WLs.val (y_move rfl) rfl <| WLs.val (y_nil rfl) rfl <| WLs.val (y_fld rfl fl191_2) rfl <| WLs.val (y_ld rfl sc187 (Sat.at 1 rfl) (by rfl)) rfl <| ?_
  refine WLs.callE Tryz.func160 rfl rfl rfl rfl (fun w hs => arcR_Len (j := 0) hs h (by omega)) ?_
  refine WLs.val (y_asgn rfl) rfl <| ?_
  refine WLs.nil ?_
  refine WEs.then_n ?_
  refine WCs.seq ?_
  refine WCs.region ?_
  refine WLs.val (y_move rfl) rfl <| WLs.val (y_gt rfl rfl (decide_eq_true (by omega))) rfl <| ?_
  refine WLs.val (y_move rfl) rfl <| WLs.guarded rfl rfl <| WLs.val (y_move rfl) rfl <| WLs.guarded rfl rfl <| WLs.val (y_move rfl) rfl <| WLs.guarded rfl rfl <| WLs.val (y_nil rfl) rfl <| WLs.guarded rfl rfl <| WLs.val (y_fld rfl fl191_1) rfl <| WLs.guarded rfl rfl <| WLs.val (y_ld rfl sc3 (Sat.at 1 rfl) (by rfl)) rfl <| ?_
  refine WLs.guarded rfl rfl <| WLs.val (y_gt rfl rfl (decide_eq_false (by omega))) rfl <| ?_
  refine WLs.guarded rfl rfl <| WLs.val (y_move rfl) rfl <| WLs.guarded rfl rfl <| WLs.val (y_move rfl) rfl <| WLs.guarded rfl rfl <| WLs.val (y_move rfl) rfl <| WLs.guarded rfl rfl <| WLs.val (y_move rfl) rfl <| WLs.guarded rfl rfl <| WLs.val (y_move rfl) rfl <| WLs.guarded rfl rfl <| WLs.val (y_nil rfl) rfl <| WLs.guarded rfl rfl <| WLs.val (y_fld rfl fl191_1) rfl <| WLs.guarded rfl rfl <| WLs.val (y_ld rfl sc3 (Sat.at 1 rfl) (by rfl)) rfl <| ?_
  refine WLs.guarded rfl rfl <| WLs.val (y_eq rfl rfl (decide_eq_false (by omega))) rfl <| ?_
  refine WLs.guarded rfl rfl <| WLs.val (y_pick rfl rfl) rfl <| WLs.guarded rfl rfl <| WLs.val (y_pick rfl rfl) rfl <| WLs.guarded rfl rfl <| WLs.val (y_move rfl) rfl <| WLs.guarded rfl rfl <| WLs.val (y_move rfl) rfl <| WLs.guarded rfl rfl <| WLs.val (y_nil rfl) rfl <| WLs.guarded rfl rfl <| WLs.val (y_fld rfl fl191_2) rfl <| WLs.guarded rfl rfl <| WLs.val (y_ld rfl sc187 (Sat.at 1 rfl) (by rfl)) rfl <| ?_
  refine WLs.guarded rfl rfl <| ?_
  refine WLs.callE Tryz.func160 rfl rfl rfl rfl (fun w hs => arcR_Len (j := 1) hs h (by omega)) ?_
  refine WLs.guarded rfl rfl <| WLs.val (y_eq rfl rfl (decide_eq_true (by omega))) rfl <| ?_
  refine WLs.guarded rfl rfl <| WLs.val (y_pick rfl rfl) rfl <| WLs.val (y_pick rfl rfl) rfl <| ?_
  refine WLs.nil ?_
  refine WEs.then_n ?_
  refine WCs.cond_t rfl rfl ?_
  refine WCs.region ?_
  refine WLs.val (y_asgn rfl) rfl <| WLs.val (y_asgn rfl) rfl <| ?_
  refine WLs.nil ?_
  refine WEs.then_n ?_
  refine WCs.seq ?_
  refine WCs.region ?_
  refine WLs.val (y_move rfl) rfl <| WLs.val (y_nil rfl) rfl <| WLs.val (y_fld rfl fl191_2) rfl <| WLs.val (y_ld rfl sc187 (Sat.at 1 rfl) (by rfl)) rfl <| ?_
  refine WLs.val (y_move rfl) rfl <| ?_
  refine WLs.callE Tryz.func162 rfl rfl rfl rfl (fun w hs => arcR_Back_yes (j := 0) hs h (by omega) hx) ?_
  refine WLs.val (y_move rfl) rfl <| WLs.val (y_ext rfl rfl) rfl <| WLs.val (y_ext rfl rfl) rfl <| WLs.val (y_asgn rfl) rfl <| WLs.val (y_asgn rfl) rfl <| ?_
  refine WLs.nil ?_
  refine WEs.then_n ?_
  refine WCs.seq ?_
  refine WCs.seq ?_
  refine WCs.region ?_
  refine WLs.val (y_move rfl) rfl <| WLs.val (y_not rfl) rfl <| ?_
  refine WLs.nil ?_
  refine WEs.then_n ?_
  refine WCs.cond_f rfl rfl ?_
  refine WCs.skip ?_
  refine WEs.then_n ?_
  refine WCs.seq ?_
  refine WCs.region ?_
  refine WLs.val (y_move rfl) rfl <| WLs.val (y_nil rfl) rfl <| WLs.val (y_fld rfl fl191_2) rfl <| WLs.val (y_ld rfl sc187 (Sat.at 1 rfl) (by rfl)) rfl <| ?_
  refine WLs.val (y_move rfl) rfl <| WLs.val (y_move rfl) rfl <| ?_
  refine WLs.callE Tryz.func159 rfl rfl rfl rfl (fun w hs => arcR_Front (j := 2) hs h (by omega) (h.ks k hf) (.inl hf)) ?_
  refine WLs.nil ?_
  refine WEs.then_n ?_
  refine WCs.seq ?_
  refine WCs.region ?_
  refine WLs.val (y_move rfl) rfl <| ?_
  refine WLs.bslice1 rfl sl97 zr9 rfl rfl rfl rfl (fun b => ?_)
  refine WLs.val (y_asgn rfl) rfl <| ?_
  refine WLs.nil ?_
  refine WEs.then_n ?_
  refine WCs.ret ?_
  refine WEs.ret1 (.inr rfl) rfl rfl ?_
  exact fun w hs => hs.implAt 0 rfl (sliceAt_one 9 b (str k))

theorem arc_replace_g {w : World} {L : List Asrt} {r p : Nat} {a : Arc} {k : Str}  (hs : Sat w (arcL r p a L)) (h : a.Ok) (h0 : 0 < a.n 0) (h1 : a.n 0 < a.target) (h2 : 0 < a.n 1) (hx : (a.K.getD 1 []).getLast? = some k) : Does Tryz.prog 210 [rp p, .bool true] w fun v w' => Sat w' (sliceAt 9 1 v 1 [str k] :: arcL r p (a.front 3 k) L) := by
  have hf : k ∈ a.K.flatten := mem_flatten_getD (getLast_mem hx)
  refine Does.enters hs (n := 64) Tryz.func210 rfl rfl rfl rfl ?_
  refine WCs.seq ?_
  refine WCs.region ?_
  refine WLs.val (y_asgn rfl) rfl <| ?_
  refine WLs.nil ?_
  refine WEs.then_n ?_
  refine WCs.seq ?_
  refine WCs.region ?_
  refine WLs.val (y_asgn rfl) rfl <| WLs.val (y_asgn rfl) rfl <| ?_
  refine WLs.nil ?_
  refine WEs.then_n ?_
  refine WCs.seq ?_
  refine WCs.seq ?_
  refine WCs.region ?_
  refine WLs.val (y_move rfl) rfl <| WLs.val (y_nil rfl) rfl <| WLs.val (y_fld rfl fl191_2) rfl <| WLs.val (y_ld rfl sc187 (Sat.at 1 rfl) (by rfl)) rfl <| ?_
  refine WLs.callE Tryz.func160 rfl rfl rfl rfl (fun w hs => arcR_Len (j := 0) hs h (by omega)) ?_
  refine WLs.val (y_asgn rfl) rfl <| ?_
  refine WLs.nil ?_
  refine WEs.then_n ?_
  refine WCs.seq ?_
  refine WCs.region ?_
  refine WLs.val (y_move rfl) rfl <| WLs.val (y_gt rfl rfl (decide_eq_true (by omega))) rfl <| ?_
  refine WLs.val (y_move rfl) rfl <| WLs.guarded rfl rfl <| WLs.val (y_move rfl) rfl <| WLs.guarded rfl rfl <| WLs.val (y_move rfl) rfl <| WLs.guarded rfl rfl <| WLs.val (y_nil rfl) rfl <| WLs.guarded rfl rfl <| WLs.val (y_fld rfl fl191_1) rfl <| WLs.guarded rfl rfl <| WLs.val (y_ld rfl sc3 (Sat.at 1 rfl) (by rfl)) rfl <| ?_
  refine WLs.guarded rfl rfl <| WLs.val (y_gt rfl rfl (decide_eq_false (by omega))) rfl <| ?_
  refine WLs.guarded rfl rfl <| WLs.val (y_move rfl) rfl <| WLs.guarded rfl rfl <| WLs.val (y_move rfl) rfl <| WLs.guarded rfl rfl <| WLs.val (y_move rfl) rfl <| WLs.guarded rfl rfl <| WLs.val (y_move rfl) rfl <| WLs.guarded rfl rfl <| WLs.val (y_move rfl) rfl <| WLs.guarded rfl rfl <| WLs.val (y_nil rfl) rfl <| WLs.guarded rfl rfl <| WLs.val (y_fld rfl fl191_1) rfl <| WLs.guarded rfl rfl <| WLs.val (y_ld rfl sc3 (Sat.at 1 rfl) (by rfl)) rfl <| ?_
  refine WLs.guarded rfl rfl <| WLs.val (y_eq rfl rfl (decide_eq_false (by omega))) rfl <| ?_
  refine WLs.guarded rfl rfl <| WLs.val (y_pick rfl rfl) rfl <| WLs.guarded rfl rfl <| WLs.val (y_pick rfl rfl) rfl <| WLs.guarded rfl rfl <| WLs.val (y_move rfl) rfl <| WLs.guarded rfl rfl <| WLs.val (y_move rfl) rfl <| WLs.guarded rfl rfl <| WLs.val (y_nil rfl) rfl <| WLs.guarded rfl rfl <| WLs.val (y_fld rfl fl191_2) rfl <| WLs.guarded rfl rfl <| WLs.val (y_ld rfl sc187 (Sat.at 1 rfl) (by rfl)) rfl <| ?_
  refine WLs.guarded rfl rfl <| ?_
  refine WLs.callE Tryz.func160 rfl rfl rfl rfl (fun w hs => arcR_Len (j := 1) hs h (by omega)) ?_
  refine WLs.guarded rfl rfl <| WLs.val (y_eq rfl rfl (decide_eq_false (by omega))) rfl <| ?_
  refine WLs.guarded rfl rfl <| WLs.val (y_pick rfl rfl) rfl <| WLs.val (y_pick rfl rfl) rfl <| ?_
  refine WLs.nil ?_
  refine WEs.then_n ?_
  refine WCs.cond_f rfl rfl ?_
  refine WCs.skip ?_
  refine WEs.then_n ?_
  refine WCs.seq ?_
  refine WCs.region ?_
  refine WLs.val (y_move rfl) rfl <| WLs.val (y_nil rfl) rfl <| WLs.val (y_fld rfl fl191_2) rfl <| WLs.val (y_ld rfl sc187 (Sat.at 1 rfl) (by rfl)) rfl <| ?_
  refine WLs.val (y_move rfl) rfl <| ?_
  refine WLs.callE Tryz.func162 rfl rfl rfl rfl (fun w hs => arcR_Back_yes (j := 1) hs h (by omega) hx) ?_
  refine WLs.val (y_move rfl) rfl <| WLs.val (y_ext rfl rfl) rfl <| WLs.val (y_ext rfl rfl) rfl <| WLs.val (y_asgn rfl) rfl <| WLs.val (y_asgn rfl) rfl <| ?_
  refine WLs.nil ?_
  refine WEs.then_n ?_
  refine WCs.seq ?_
  refine WCs.seq ?_
  refine WCs.region ?_
  refine WLs.val (y_move rfl) rfl <| WLs.val (y_not rfl) rfl <| ?_
  refine WLs.nil ?_
  refine WEs.then_n ?_
  refine WCs.cond_f rfl rfl ?_
  refine WCs.skip ?_
  refine WEs.then_n ?_
  refine WCs.seq ?_
  refine WCs.region ?_
  refine WLs.val (y_move rfl) rfl <| WLs.val (y_nil rfl) rfl <| WLs.val (y_fld rfl fl191_2) rfl <| WLs.val (y_ld rfl sc187 (Sat.at 1 rfl) (by rfl)) rfl <| ?_
  refine WLs.val (y_move rfl) rfl <| WLs.val (y_move rfl) rfl <| ?_
  refine WLs.callE Tryz.func159 rfl rfl rfl rfl (fun w hs => arcR_Front (j := 3) hs h (by omega) (h.ks k hf) (.inl hf)) ?_
  refine WLs.nil ?_
  refine WEs.then_n ?_
  refine WCs.seq ?_
  refine WCs.region ?_
  refine WLs.val (y_move rfl) rfl <| ?_
  refine WLs.bslice1 rfl sl97 zr9 rfl rfl rfl rfl (fun b => ?_)
  refine WLs.val (y_asgn rfl) rfl <| ?_
  refine WLs.nil ?_
  refine WEs.then_n ?_
  refine WCs.ret ?_
  refine WEs.ret1 (.inr rfl) rfl rfl ?_
  exact fun w hs => hs.implAt 0 rfl (sliceAt_one 9 b (str k))

theorem arc_replace_g0 {w : World} {L : List Asrt} {r p : Nat} {a : Arc}  (hs : Sat w (arcL r p a L)) (h : a.Ok) (h0 : 0 < a.n 0) (h1 : a.n 0 < a.target) (h2 : 0 < a.n 1) (hx : (a.K.getD 1 []).getLast? = none) : Does Tryz.prog 210 [rp p, .bool true] w fun v w' => Sat w' (sliceAt 9 1 v 0 [] :: arcL r p a L) := by
  refine Does.enters hs (n := 64) Tryz.func210 rfl rfl rfl rfl ?_
  refine WCs.seq ?_
  refine WCs.region ?_
  refine WLs.val (y_asgn rfl) rfl <| ?_
  refine WLs.nil ?_
  refine WEs.then_n ?_
  refine WCs.seq ?_
  refine WCs.region ?_
  refine WLs.val (y_asgn rfl) rfl <| WLs.val (y_asgn rfl) rfl <| ?_
  refine WLs.nil ?_
  refine WEs.then_n ?_
  refine WCs.seq ?_
  refine WCs.seq ?_
  refine WCs.region ?_
  refine WLs.val (y_move rfl) rfl <| WLs.val (y_nil rfl) rfl <| WLs.val (y_fld rfl fl191_2) rfl <| WLs.val (y_ld rfl sc187 (Sat.at 1 rfl) (by rfl)) rfl <| ?_
  refine WLs.callE Tryz.func160 rfl rfl rfl rfl (fun w hs => arcR_Len (j := 0) hs h (by omega)) ?_
  refine WLs.val (y_asgn rfl) rfl <| ?_
  refine WLs.nil ?_
  refine WEs.then_n ?_
  refine WCs.seq ?_
  refine WCs.region ?_
  refine WLs.val (y_move rfl) rfl <| WLs.val (y_gt rfl rfl (decide_eq_true (by omega))) rfl <| ?_
  refine WLs.val (y_move rfl) rfl <| WLs.guarded rfl rfl <| WLs.val (y_move rfl) rfl <| WLs.guarded rfl rfl <| WLs.val (y_move rfl) rfl <| WLs.guarded rfl rfl <| WLs.val (y_nil rfl) rfl <| WLs.guarded rfl rfl <| WLs.val (y_fld rfl fl191_1) rfl <| WLs.guarded rfl rfl <| WLs.val (y_ld rfl sc3 (Sat.at 1 rfl) (by rfl)) rfl <| ?_
  refine WLs.guarded rfl rfl <| WLs.val (y_gt rfl rfl (decide_eq_false (by omega))) rfl <| ?_
  refine WLs.guarded rfl rfl <| WLs.val (y_move rfl) rfl <| WLs.guarded rfl rfl <| WLs.val (y_move rfl) rfl <| WLs.guarded rfl rfl <| WLs.val (y_move rfl) rfl <| WLs.guarded rfl rfl <| WLs.val (y_move rfl) rfl <| WLs.guarded rfl rfl <| WLs.val (y_move rfl) rfl <| WLs.guarded rfl rfl <| WLs.val (y_nil rfl) rfl <| WLs.guarded rfl rfl <| WLs.val (y_fld rfl fl191_1) rfl <| WLs.guarded rfl rfl <| WLs.val (y_ld rfl sc3 (Sat.at 1 rfl) (by rfl)) rfl <| ?_
  refine WLs.guarded rfl rfl <| WLs.val (y_eq rfl rfl (decide_eq_false (by omega))) rfl <| ?_
  refine WLs.guarded rfl rfl <| WLs.val (y_pick rfl rfl) rfl <| WLs.guarded rfl rfl <| WLs.val (y_pick rfl rfl) rfl <| WLs.guarded rfl rfl <| WLs.val (y_move rfl) rfl <| WLs.guarded rfl rfl <| WLs.val (y_move rfl) rfl <| WLs.guarded rfl rfl <| WLs.val (y_nil rfl) rfl <| WLs.guarded rfl rfl <| WLs.val (y_fld rfl fl191_2) rfl <| WLs.guarded rfl rfl <| WLs.val (y_ld rfl sc187 (Sat.at 1 rfl) (by rfl)) rfl <| ?_
  refine WLs.guarded rfl rfl <| ?_
  refine WLs.callE Tryz.func160 rfl rfl rfl rfl (fun w hs => arcR_Len (j := 1) hs h (by omega)) ?_
  refine WLs.guarded rfl rfl <| WLs.val (y_eq rfl rfl (decide_eq_false (by omega))) rfl <| ?_
  refine WLs.guarded rfl rfl <| WLs.val (y_pick rfl rfl) rfl <| WLs.val (y_pick rfl rfl) rfl <| ?_
  refine WLs.nil ?_
  refine WEs.then_n ?_
  refine WCs.cond_f rfl rfl ?_
  refine WCs.skip ?_
  refine WEs.then_n ?_
  refine WCs.seq ?_
  refine WCs.region ?_
  refine WLs.val (y_move rfl) rfl <| WLs.val (y_nil rfl) rfl <| WLs.val (y_fld rfl fl191_2) rfl <| WLs.val (y_ld rfl sc187 (Sat.at 1 rfl) (by rfl)) rfl <| ?_
  refine WLs.val (y_move rfl) rfl <| ?_
  refine WLs.callE Tryz.func162 rfl rfl rfl rfl (fun w hs => arcR_Back_no (j := 1) hs h (by omega) hx) ?_
  refine WLs.val (y_move rfl) rfl <| WLs.val (y_ext rfl rfl) rfl <| WLs.val (y_ext rfl rfl) rfl <| WLs.val (y_asgn rfl) rfl <| WLs.val (y_asgn rfl) rfl <| ?_
  refine WLs.nil ?_
  refine WEs.then_n ?_
  refine WCs.seq ?_
  refine WCs.seq ?_
  refine WCs.region ?_
  refine WLs.val (y_move rfl) rfl <| WLs.val (y_not rfl) rfl <| ?_
  refine WLs.nil ?_
  refine WEs.then_n ?_
  refine WCs.cond_t rfl rfl ?_
  refine WCs.seq ?_
  refine WCs.region ?_
  refine WLs.val (y_asgn rfl) rfl <| ?_
  refine WLs.nil ?_
  refine WEs.then_n ?_
  refine WCs.ret ?_
  refine WEs.then_ret ?_
  refine WEs.ret1 (.inr rfl) rfl rfl ?_
  exact fun w hs => hs.emp.implAt 0 rfl (sliceAt_nil 9 1)

theorem arc_replace {w : World} {L : List Asrt} {r p : Nat} {a : Arc} {b : Bool} (hs : Sat w (arcL r p a L)) (h : a.Ok) :
    Does Tryz.prog 210 [rp p, .bool b] w fun v w' => Sat w' (sliceAt 9 1 v (a.replace b).2.length ((a.replace b).2.map str) :: arcL r p (a.replace b).1 L) := by
  unfold Arc.replace
  by_cases hf : a.fromOnce b = true
  · rw [if_pos hf]
    unfold Arc.move
    simp only [Arc.fromOnce, Bool.and_eq_true, Bool.or_eq_true, decide_eq_true_eq] at hf
    obtain ⟨h0, hf⟩ := hf
    cases hx : (a.K.getD 0 []).getLast? with
    | none => have := Arc.n_last hx; omega
    | some k =>
      by_cases h1 : a.target < a.n 0
      · exact arc_replace_b hs h h1 hx
      · cases b with
        | true =>
          rcases hf with (hf | hf) | hf
          · exact absurd hf h1
          · exact arc_replace_c hs h h0 hf.2 hx
          · by_cases h2 : a.n 0 = a.target
            · exact arc_replace_c hs h h0 h2 hx
            · exact arc_replace_f hs h h0 (by omega) hf hx
        | false =>
          rcases hf with (hf | hf) | hf
          · exact absurd hf h1
          · exact absurd hf.1 (by simp)
          · exact arc_replace_d hs h h0 (by omega) hf hx
  · rw [if_neg hf]
    unfold Arc.move
    simp only [Arc.fromOnce, Bool.and_eq_true, Bool.or_eq_true, decide_eq_true_eq, not_and, not_or] at hf
    cases hx : (a.K.getD 1 []).getLast? with
    | none =>
      rcases Nat.eq_zero_or_pos (a.n 0) with h0 | h0
      · exact arc_replace_a0 hs h h0 hx
      · obtain ⟨⟨h1, h2⟩, h3⟩ := hf h0
        exact absurd (Arc.n_last hx) h3
    | some k =>
      rcases Nat.eq_zero_or_pos (a.n 0) with h0 | h0
      · exact arc_replace_a hs h h0 hx
      · obtain ⟨⟨h1, h2⟩, h3⟩ := hf h0
        cases b with
        | true => exact arc_replace_g hs h h0 (by have := h2 rfl; omega) (by omega) hx
        | false => exact arc_replace_e hs h h0 (by omega) (by omega) hx

theorem arc_forget_yes {w : World} {L : List Asrt} {r p : Nat} {a : Arc} {k : Str} {j : Nat} (hs : Sat w (arcL r p a L)) (h : a.Ok) (hj : j < 4) (hx : (a.K.getD j []).getLast? = some k) : Does Tryz.prog 209 [rp p, natv j] w fun v w' => v = .tuple #[] ∧ Sat w' (arcL r p (a.drop k) L) := by
  refine Does.enters hs (n := 22) Tryz.func209 rfl rfl rfl rfl ?_
  refine WCs.seq ?_
  refine WCs.region ?_
  refine WLs.val (y_move rfl) rfl <| WLs.val (y_nil rfl) rfl <| WLs.val (y_fld rfl fl191_2) rfl <| WLs.val (y_ld rfl sc187 (Sat.at 1 rfl) (by rfl)) rfl <| ?_
  refine WLs.val (y_move rfl) rfl <| ?_
  refine WLs.callE Tryz.func162 rfl rfl rfl rfl (fun w hs => arcR_Back_yes hs h hj hx) ?_
  refine WLs.val (y_move rfl) rfl <| WLs.val (y_ext rfl rfl) rfl <| WLs.val (y_ext rfl rfl) rfl <| WLs.val (y_asgn rfl) rfl <| WLs.val (y_asgn rfl) rfl <| ?_
  refine WLs.nil ?_
  refine WEs.then_n ?_
  refine WCs.seq ?_
  refine WCs.region ?_
  refine WLs.val (y_move rfl) rfl <| ?_
  refine WLs.nil ?_
  refine WEs.then_n ?_
  refine WCs.cond_t rfl rfl ?_
  refine WCs.region ?_
  refine WLs.val (y_move rfl) rfl <| WLs.val (y_nil rfl) rfl <| WLs.val (y_fld rfl fl191_2) rfl <| WLs.val (y_ld rfl sc187 (Sat.at 1 rfl) (by rfl)) rfl <| ?_
  refine WLs.val (y_move rfl) rfl <| ?_
  refine WLs.callE Tryz.func119 rfl rfl rfl rfl (fun w hs => arcR_Drop hs) ?_
  refine WLs.nil ?_
  refine WEs.ret0 (.inl rfl) rfl ?_
  exact fun w hs => ⟨rfl, hs⟩

theorem arc_forget_no {w : World} {L : List Asrt} {r p : Nat} {a : Arc} {j : Nat} (hs : Sat w (arcL r p a L)) (h : a.Ok) (hj : j < 4) (hx : (a.K.getD j []).getLast? = none) : Does Tryz.prog 209 [rp p, natv j] w fun v w' => v = .tuple #[] ∧ Sat w' (arcL r p a L) := by
  refine Does.enters hs (n := 22) Tryz.func209 rfl rfl rfl rfl ?_
  refine WCs.seq ?_
  refine WCs.region ?_
  refine WLs.val (y_move rfl) rfl <| WLs.val (y_nil rfl) rfl <| WLs.val (y_fld rfl fl191_2) rfl <| WLs.val (y_ld rfl sc187 (Sat.at 1 rfl) (by rfl)) rfl <| ?_
  refine WLs.val (y_move rfl) rfl <| ?_
  refine WLs.callE Tryz.func162 rfl rfl rfl rfl (fun w hs => arcR_Back_no hs h hj hx) ?_
  refine WLs.val (y_move rfl) rfl <| WLs.val (y_ext rfl rfl) rfl <| WLs.val (y_ext rfl rfl) rfl <| WLs.val (y_asgn rfl) rfl <| WLs.val (y_asgn rfl) rfl <| ?_
  refine WLs.nil ?_
  refine WEs.then_n ?_
  refine WCs.seq ?_
  refine WCs.region ?_
  refine WLs.val (y_move rfl) rfl <| ?_
  refine WLs.nil ?_
  refine WEs.then_n ?_
  refine WCs.cond_f rfl rfl ?_
  refine WCs.skip ?_
  refine WEs.ret0 (.inl rfl) rfl ?_
  exact fun w hs => ⟨rfl, hs⟩

theorem arc_forget {w : World} {L : List Asrt} {r p : Nat} {a : Arc} {j : Nat} (hs : Sat w (arcL r p a L)) (h : a.Ok) (hj : j < 4) : Does Tryz.prog 209 [rp p, natv j] w fun v w' => v = .tuple #[] ∧ Sat w' (arcL r p (a.forget j) L) := by
  unfold Arc.forget
  cases hx : (a.K.getD j []).getLast? with
  | none => exact arc_forget_no hs h hj hx
  | some k => exact arc_forget_yes hs h hj hx

def _root_.Go.Hw.Arc.aim2 (a : Arc) : Arc := { a with target := min a.most (a.target + max 1 (a.n 3 / a.n 2)) }
def _root_.Go.Hw.Arc.aim3 (a : Arc) : Arc := { a with target := a.target - max 1 (a.n 2 / a.n 3) }

theorem arc_again2 {w : World} {L : List Asrt} {r p : Nat} {a : Arc} {k : Str} (hs : Sat w (arcL r p a L)) (h : a.Ok) (h01 : a.n 0 + a.n 1 ≤ a.most) (hk : k ∈ a.K.getD 2 []) :
    Does Tryz.prog 208 [rp p, str k, natv 2] w fun v w' => Sat w' (sliceAt 9 1 v (a.aim2.room false).2.length ((a.aim2.room false).2.map str) :: arcL r p ((a.aim2.room false).1.front 1 k) L) := by
  have ho : a.aim2.Ok := h.setTarget (by have := h.t1; exact Nat.min_le_left _ _)
  have hn : ∀ j, a.aim2.n j = a.n j := fun _ => rfl
  have hks : k.length ≤ 64 := h.ks k (mem_flatten_getD hk)
  have hm2 := h.m2
  have ht1 := h.t1
  have hfl := h.flen
  have hall := h.all1
  have hpos : 0 < a.n 2 := Arc.n_pos hk
  have hq : (a.n 3) / (a.n 2) ≤ (a.n 3) := Nat.div_le_self _ _
  have hq0 : (0 : Int) ≤ (((a.n 3) / (a.n 2) : Nat) : Int) := Int.natCast_nonneg _
  obtain ⟨e1, e2, e3, e4, e5, e6, e7, e8⟩ := ho.room (k := k) h01 false
  have hfk : k ∈ (a.aim2.room false).1.K.flatten := (e6 k).2 (mem_flatten_getD hk)
  refine Does.enters hs (n := 70) Tryz.func208 rfl rfl rfl rfl ?_
  refine WCs.seq ?_
  refine WCs.region ?_
  refine WLs.val (y_asgn rfl) rfl <| ?_
  refine WLs.nil ?_
  refine WEs.then_n ?_
  refine WCs.seq ?_
  refine WCs.draw (.one 0 3 (.one 1 3 (.one 2 3 (.one 3 0 (.one 5 3 (.one 6 3 (.one 7 3 (.one 8 0 (.one 4 1 (.one 9 2 (.one 10 3 (.one 11 3 .nil)))))))))))) [9] Tryz.mixed (by kernel_rfl) (by kernel_rfl) rfl (Pf.then Pf.body) (fun _ h => h) ?_
  refine WSs.pure rfl (y_move rfl) rfl ?_
  refine WSs.pure rfl (y_nil rfl) rfl ?_
  refine WSs.pure rfl (y_fld rfl fl191_2) rfl ?_
  refine WSs.val rfl (y_ld rfl sc187 (Sat.at 1 rfl) (by rfl)) rfl ?_
  refine WSs.pure rfl (y_move rfl) rfl ?_
  refine WSs.pure rfl (y_nil rfl) rfl ?_
  refine WSs.pure rfl (y_fld rfl fl191_2) rfl ?_
  refine WSs.val rfl (y_ld rfl sc187 (Sat.at 1 rfl) (by rfl)) rfl ?_
  refine WSs.callE rfl Tryz.func160 rfl rfl rfl rfl (fun w hs => arcR_Len (j := 2) hs h (by omega)) (fun _ h => h) ?_
  refine WSs.callBE rfl Tryz.func160 rfl rfl rfl rfl (fun w hs => arcR_Len (j := 3) hs h (by omega)) ?_
  refine WSs.pure rfl (y_asgn rfl) rfl ?_
  refine WSs.pure rfl (y_asgn rfl) rfl ?_
  refine WSs.nil ?_
  refine WEs.then_n ?_
  refine WCs.seq ?_
  refine WCs.seq ?_
  refine WCs.region ?_
  refine WLs.val (y_move rfl) rfl <| WLs.val (y_eq rfl rfl rfl) rfl <| ?_
  refine WLs.nil ?_
  refine WEs.then_n ?_
  refine WCs.cond_t rfl rfl ?_
  refine WCs.draw (.one 0 3 (.one 1 3 (.one 2 3 (.one 3 3 (.one 4 0 (.one 5 3 (.one 6 3 (.one 7 3 (.one 8 0 (.one 9 3 (.one 10 3 (.one 11 3 (.one 12 3 (.one 13 3 (.one 14 3 (.one 15 3 (.one 16 3 (.one 17 2 .nil)))))))))))))))))) [17] Tryz.mixed (by kernel_rfl) (by kernel_rfl) rfl (Pf.then Pf.body) (fun _ h => h) ?_
  refine WSs.pure rfl (y_move rfl) rfl ?_
  refine WSs.pure rfl (y_move rfl) rfl ?_
  refine WSs.pure rfl (y_nil rfl) rfl ?_
  refine WSs.pure rfl (y_fld rfl fl191_0) rfl ?_
  refine WSs.val rfl (y_ld rfl sc3 (Sat.at 1 rfl) (by rfl)) rfl ?_
  refine WSs.pure rfl (y_move rfl) rfl ?_
  refine WSs.pure rfl (y_nil rfl) rfl ?_
  refine WSs.pure rfl (y_fld rfl fl191_1) rfl ?_
  refine WSs.val rfl (y_ld rfl sc3 (Sat.at 1 rfl) (by rfl)) rfl ?_
  refine WSs.pure rfl (y_move rfl) rfl ?_
  refine WSs.pure rfl (y_move rfl) rfl ?_
  refine WSs.pure rfl (y_quo rfl rfl (by omega) (show IntKind.i64.wrap (Int.tdiv (((a.n 3) : Nat) : Int) (((a.n 2) : Nat) : Int)) = (((a.n 3) / (a.n 2) : Nat) : Int) by rw [← Int.ofNat_tdiv, wrap_i64 (by omega)])) rfl ?_
  refine WSs.pure rfl (y_max rfl rfl) rfl ?_
  refine WSs.pure rfl (y_add rfl rfl (wrap_i64 (by omega))) rfl ?_
  refine WSs.pure rfl (y_min rfl rfl) rfl ?_
  refine WSs.pure rfl (y_nil rfl) rfl ?_
  refine WSs.pure rfl (y_fld rfl fl191_1) rfl ?_
  refine WSs.store 1 rfl rfl rfl sz3 rfl (by simp) rfl (show (#[natv a.most, natv a.target, rp r] : Array Value).setIfInBounds 1 _ = #[natv a.most, natv a.aim2.target, rp r] by simp [natv, Arc.aim2]; omega) ?_
  refine WSs.nil ?_
  refine WEs.then_n ?_
  refine WCs.seq ?_
  refine WCs.region ?_
  refine WLs.val (y_asgn rfl) rfl <| ?_
  refine WLs.nil ?_
  refine WEs.then_n ?_
  refine WCs.seq ?_
  refine WCs.seq ?_
  refine WCs.draw (.one 0 3 (.one 2 3 (.one 3 3 (.one 4 3 (.one 5 0 (.one 1 1 (.one 6 3 .nil))))))) [] Tryz.mixed (by kernel_rfl) (by kernel_rfl) rfl (Pf.then (Pf.then Pf.body)) (fun _ h => h) ?_
  refine WSs.pure rfl (y_move rfl) rfl ?_
  refine WSs.pure rfl (y_move rfl) rfl ?_
  refine WSs.pure rfl (y_nil rfl) rfl ?_
  refine WSs.pure rfl (y_fld rfl fl191_0) rfl ?_
  refine WSs.val rfl (y_ld rfl sc3 (Sat.at 1 rfl) (by rfl)) rfl ?_
  refine WSs.callE rfl Tryz.func153 rfl rfl rfl rfl (fun w hs => arc_Len (a := a.aim2) hs ho (by show a.n 0 + a.n 1 ≤ 10000; omega)) (fun _ h => h) ?_
  refine WSs.pure rfl (y_ge rfl rfl rfl) rfl ?_
  refine WSs.nil ?_
  refine WEs.then_n ?_
  refine WCs.cond rfl (fun hc => ?_) (fun hc => ?_)
  · have hc := of_decide_eq_true hc
    have e : a.aim2.room false = a.aim2.replace false := if_pos (Int.ofNat_le.1 hc)
    rw [e] at e1 hfk ⊢
    refine WCs.region ?_
    refine WLs.val (y_move rfl) rfl <| WLs.val (y_move rfl) rfl <| WLs.val (y_eq rfl rfl rfl) rfl <| ?_
    refine WLs.call Tryz.func210 rfl rfl rfl rfl (fun w hs => arc_replace (b := false) hs ho) ?_
    rintro v62 w62 hs62
    have hs62 := hs62.third
    refine WLs.go hs62 ?_
    refine WLs.val (y_asgn rfl) rfl <| ?_
    refine WLs.nil ?_
    refine WEs.then_n ?_
    refine WCs.seq ?_
    refine WCs.region ?_
    refine WLs.val (y_move rfl) rfl <| WLs.val (y_nil rfl) rfl <| WLs.val (y_fld rfl fl191_2) rfl <| WLs.val (y_ld rfl sc187 (Sat.at 1 rfl) (by rfl)) rfl <| ?_
    refine WLs.val (y_move rfl) rfl <| ?_
    refine WLs.callE Tryz.func159 rfl rfl rfl rfl (fun w hs => arcR_Front (j := 1) hs e1 (by omega) hks (.inl hfk)) ?_
    refine WLs.nil ?_
    refine WEs.then_n ?_
    refine WCs.seq ?_
    refine WCs.region ?_
    refine WLs.val (y_move rfl) rfl <| WLs.val (y_asgn rfl) rfl <| ?_
    refine WLs.nil ?_
    refine WEs.then_n ?_
    refine WCs.ret ?_
    refine WEs.ret1 (.inr rfl) rfl rfl ?_
    exact fun w hs => hs.unthird
  · have hc := of_decide_eq_false hc
    have e : a.aim2.room false = (a.aim2, []) := if_neg (fun h => hc (Int.ofNat_le.2 h))
    rw [e] at e1 hfk ⊢
    refine WCs.skip ?_
    refine WEs.then_n ?_
    refine WCs.seq ?_
    refine WCs.region ?_
    refine WLs.val (y_move rfl) rfl <| WLs.val (y_nil rfl) rfl <| WLs.val (y_fld rfl fl191_2) rfl <| WLs.val (y_ld rfl sc187 (Sat.at 1 rfl) (by rfl)) rfl <| ?_
    refine WLs.val (y_move rfl) rfl <| ?_
    refine WLs.callE Tryz.func159 rfl rfl rfl rfl (fun w hs => arcR_Front (j := 1) hs e1 (by omega) hks (.inl hfk)) ?_
    refine WLs.nil ?_
    refine WEs.then_n ?_
    refine WCs.seq ?_
    refine WCs.region ?_
    refine WLs.val (y_move rfl) rfl <| WLs.val (y_asgn rfl) rfl <| ?_
    refine WLs.nil ?_
    refine WEs.then_n ?_
    refine WCs.ret ?_
    refine WEs.ret1 (.inr rfl) rfl rfl ?_
    exact fun w hs => hs.emp.implAt 0 rfl (sliceAt_nil 9 1)

theorem arc_again3 {w : World} {L : List Asrt} {r p : Nat} {a : Arc} {k : Str} (hs : Sat w (arcL r p a L)) (h : a.Ok) (h01 : a.n 0 + a.n 1 ≤ a.most) (hk : k ∈ a.K.getD 3 []) :
    Does Tryz.prog 208 [rp p, str k, natv 3] w fun v w' => Sat w' (sliceAt 9 1 v (a.aim3.room true).2.length ((a.aim3.room true).2.map str) :: arcL r p ((a.aim3.room true).1.front 1 k) L) := by
  have ho : a.aim3.Ok := h.setTarget (by have := h.t1; exact Nat.le_trans (Nat.sub_le _ _) this)
  have hn : ∀ j, a.aim3.n j = a.n j := fun _ => rfl
  have hks : k.length ≤ 64 := h.ks k (mem_flatten_getD hk)
  have hm2 := h.m2
  have ht1 := h.t1
  have hfl := h.flen
  have hall := h.all1
  have hpos : 0 < a.n 3 := Arc.n_pos hk
  have hq : (a.n 2) / (a.n 3) ≤ (a.n 2) := Nat.div_le_self _ _
  have hq0 : (0 : Int) ≤ (((a.n 2) / (a.n 3) : Nat) : Int) := Int.natCast_nonneg _
  obtain ⟨e1, e2, e3, e4, e5, e6, e7, e8⟩ := ho.room (k := k) h01 true
  have hfk : k ∈ (a.aim3.room true).1.K.flatten := (e6 k).2 (mem_flatten_getD hk)
  refine Does.enters hs (n := 70) Tryz.func208 rfl rfl rfl rfl ?_
  refine WCs.seq ?_
  refine WCs.region ?_
  refine WLs.val (y_asgn rfl) rfl <| ?_
  refine WLs.nil ?_
  refine WEs.then_n ?_
  refine WCs.seq ?_
  refine WCs.draw (.one 0 3 (.one 1 3 (.one 2 3 (.one 3 0 (.one 5 3 (.one 6 3 (.one 7 3 (.one 8 0 (.one 4 1 (.one 9 2 (.one 10 3 (.one 11 3 .nil)))))))))))) [9] Tryz.mixed (by kernel_rfl) (by kernel_rfl) rfl (Pf.then Pf.body) (fun _ h => h) ?_
  refine WSs.pure rfl (y_move rfl) rfl ?_
  refine WSs.pure rfl (y_nil rfl) rfl ?_
  refine WSs.pure rfl (y_fld rfl fl191_2) rfl ?_
  refine WSs.val rfl (y_ld rfl sc187 (Sat.at 1 rfl) (by rfl)) rfl ?_
  refine WSs.pure rfl (y_move rfl) rfl ?_
  refine WSs.pure rfl (y_nil rfl) rfl ?_
  refine WSs.pure rfl (y_fld rfl fl191_2) rfl ?_
  refine WSs.val rfl (y_ld rfl sc187 (Sat.at 1 rfl) (by rfl)) rfl ?_
  refine WSs.callE rfl Tryz.func160 rfl rfl rfl rfl (fun w hs => arcR_Len (j := 2) hs h (by omega)) (fun _ h => h) ?_
  refine WSs.callBE rfl Tryz.func160 rfl rfl rfl rfl (fun w hs => arcR_Len (j := 3) hs h (by omega)) ?_
  refine WSs.pure rfl (y_asgn rfl) rfl ?_
  refine WSs.pure rfl (y_asgn rfl) rfl ?_
  refine WSs.nil ?_
  refine WEs.then_n ?_
  refine WCs.seq ?_
  refine WCs.seq ?_
  refine WCs.region ?_
  refine WLs.val (y_move rfl) rfl <| WLs.val (y_eq rfl rfl rfl) rfl <| ?_
  refine WLs.nil ?_
  refine WEs.then_n ?_
  refine WCs.cond_f rfl rfl ?_
  refine WCs.draw (.one 0 3 (.one 1 3 (.one 2 3 (.one 3 3 (.one 4 0 (.one 5 3 (.one 6 3 (.one 7 3 (.one 8 3 (.one 9 3 (.one 10 3 (.one 11 3 (.one 12 3 (.one 13 2 .nil)))))))))))))) [13] Tryz.mixed (by kernel_rfl) (by kernel_rfl) rfl (Pf.then Pf.body) (fun _ h => h) ?_
  refine WSs.pure rfl (y_move rfl) rfl ?_
  refine WSs.pure rfl (y_move rfl) rfl ?_
  refine WSs.pure rfl (y_nil rfl) rfl ?_
  refine WSs.pure rfl (y_fld rfl fl191_1) rfl ?_
  refine WSs.val rfl (y_ld rfl sc3 (Sat.at 1 rfl) (by rfl)) rfl ?_
  refine WSs.pure rfl (y_move rfl) rfl ?_
  refine WSs.pure rfl (y_move rfl) rfl ?_
  refine WSs.pure rfl (y_quo rfl rfl (by omega) (show IntKind.i64.wrap (Int.tdiv (((a.n 2) : Nat) : Int) (((a.n 3) : Nat) : Int)) = (((a.n 2) / (a.n 3) : Nat) : Int) by rw [← Int.ofNat_tdiv, wrap_i64 (by omega)])) rfl ?_
  refine WSs.pure rfl (y_max rfl rfl) rfl ?_
  refine WSs.pure rfl (y_sub rfl rfl (wrap_i64 (by omega))) rfl ?_
  refine WSs.pure rfl (y_max rfl rfl) rfl ?_
  refine WSs.pure rfl (y_nil rfl) rfl ?_
  refine WSs.pure rfl (y_fld rfl fl191_1) rfl ?_
  refine WSs.store 1 rfl rfl rfl sz3 rfl (by simp) rfl (show (#[natv a.most, natv a.target, rp r] : Array Value).setIfInBounds 1 _ = #[natv a.most, natv a.aim3.target, rp r] by simp [natv, Arc.aim3]; omega) ?_
  refine WSs.nil ?_
  refine WEs.then_n ?_
  refine WCs.seq ?_
  refine WCs.region ?_
  refine WLs.val (y_asgn rfl) rfl <| ?_
  refine WLs.nil ?_
  refine WEs.then_n ?_
  refine WCs.seq ?_
  refine WCs.seq ?_
  refine WCs.draw (.one 0 3 (.one 2 3 (.one 3 3 (.one 4 3 (.one 5 0 (.one 1 1 (.one 6 3 .nil))))))) [] Tryz.mixed (by kernel_rfl) (by kernel_rfl) rfl (Pf.then (Pf.then Pf.body)) (fun _ h => h) ?_
  refine WSs.pure rfl (y_move rfl) rfl ?_
  refine WSs.pure rfl (y_move rfl) rfl ?_
  refine WSs.pure rfl (y_nil rfl) rfl ?_
  refine WSs.pure rfl (y_fld rfl fl191_0) rfl ?_
  refine WSs.val rfl (y_ld rfl sc3 (Sat.at 1 rfl) (by rfl)) rfl ?_
  refine WSs.callE rfl Tryz.func153 rfl rfl rfl rfl (fun w hs => arc_Len (a := a.aim3) hs ho (by show a.n 0 + a.n 1 ≤ 10000; omega)) (fun _ h => h) ?_
  refine WSs.pure rfl (y_ge rfl rfl rfl) rfl ?_
  refine WSs.nil ?_
  refine WEs.then_n ?_
  refine WCs.cond rfl (fun hc => ?_) (fun hc => ?_)
  · have hc := of_decide_eq_true hc
    have e : a.aim3.room true = a.aim3.replace true := if_pos (Int.ofNat_le.1 hc)
    rw [e] at e1 hfk ⊢
    refine WCs.region ?_
    refine WLs.val (y_move rfl) rfl <| WLs.val (y_move rfl) rfl <| WLs.val (y_eq rfl rfl rfl) rfl <| ?_
    refine WLs.call Tryz.func210 rfl rfl rfl rfl (fun w hs => arc_replace (b := true) hs ho) ?_
    rintro v62 w62 hs62
    have hs62 := hs62.third
    refine WLs.go hs62 ?_
    refine WLs.val (y_asgn rfl) rfl <| ?_
    refine WLs.nil ?_
    refine WEs.then_n ?_
    refine WCs.seq ?_
    refine WCs.region ?_
    refine WLs.val (y_move rfl) rfl <| WLs.val (y_nil rfl) rfl <| WLs.val (y_fld rfl fl191_2) rfl <| WLs.val (y_ld rfl sc187 (Sat.at 1 rfl) (by rfl)) rfl <| ?_
    refine WLs.val (y_move rfl) rfl <| ?_
    refine WLs.callE Tryz.func159 rfl rfl rfl rfl (fun w hs => arcR_Front (j := 1) hs e1 (by omega) hks (.inl hfk)) ?_
    refine WLs.nil ?_
    refine WEs.then_n ?_
    refine WCs.seq ?_
    refine WCs.region ?_
    refine WLs.val (y_move rfl) rfl <| WLs.val (y_asgn rfl) rfl <| ?_
    refine WLs.nil ?_
    refine WEs.then_n ?_
    refine WCs.ret ?_
    refine WEs.ret1 (.inr rfl) rfl rfl ?_
    exact fun w hs => hs.unthird
  · have hc := of_decide_eq_false hc
    have e : a.aim3.room true = (a.aim3, []) := if_neg (fun h => hc (Int.ofNat_le.2 h))
    rw [e] at e1 hfk ⊢
    refine WCs.skip ?_
    refine WEs.then_n ?_
    refine WCs.seq ?_
    refine WCs.region ?_
    refine WLs.val (y_move rfl) rfl <| WLs.val (y_nil rfl) rfl <| WLs.val (y_fld rfl fl191_2) rfl <| WLs.val (y_ld rfl sc187 (Sat.at 1 rfl) (by rfl)) rfl <| ?_
    refine WLs.val (y_move rfl) rfl <| ?_
    refine WLs.callE Tryz.func159 rfl rfl rfl rfl (fun w hs => arcR_Front (j := 1) hs e1 (by omega) hks (.inl hfk)) ?_
    refine WLs.nil ?_
    refine WEs.then_n ?_
    refine WCs.seq ?_
    refine WCs.region ?_
    refine WLs.val (y_move rfl) rfl <| WLs.val (y_asgn rfl) rfl <| ?_
    refine WLs.nil ?_
    refine WEs.then_n ?_
    refine WCs.ret ?_
    refine WEs.ret1 (.inr rfl) rfl rfl ?_
    exact fun w hs => hs.emp.implAt 0 rfl (sliceAt_nil 9 1)

theorem arc_again {w : World} {L : List Asrt} {r p : Nat} {a : Arc} {k : Str} {l : Nat} (hs : Sat w (arcL r p a L)) (h : a.Ok) (h01 : a.n 0 + a.n 1 ≤ a.most) (hk : k ∈ a.K.getD l []) (hl : l = 2 ∨ l = 3) :
    Does Tryz.prog 208 [rp p, str k, natv l] w fun v w' => Sat w' (sliceAt 9 1 v (a.again k l).2.length ((a.again k l).2.map str) :: arcL r p (a.again k l).1 L) := by
  rcases hl with rfl | rfl
  · exact arc_again2 hs h h01 hk
  · exact arc_again3 hs h h01 hk

theorem arc_Insert_long {w : World} {L : List Asrt} {r p : Nat} {a : Arc} {k : Str} (hs : Sat w (arcL r p a L)) (h : a.Ok) (hk : 64 < k.length) : Does Tryz.prog 163 [rp p, str k] w fun v w' => Sat w' (sliceAt 9 1 v 0 [] :: arcL r p a L) := by
  refine Does.enters hs (n := 147) Tryz.func163 rfl rfl rfl rfl ?_
  refine WCs.seq ?_
  refine WCs.region ?_
  refine WLs.val (y_asgn rfl) rfl <| ?_
  refine WLs.nil ?_
  refine WEs.then_n ?_
  refine WCs.seq ?_
  refine WCs.seq ?_
  refine WCs.region ?_
  refine WLs.val (y_move rfl) rfl <| WLs.val (y_peq rfl rfl pt132) rfl <| WLs.val (y_move rfl) rfl <| WLs.guarded rfl rfl <| WLs.val (y_move rfl) rfl <| WLs.guarded rfl rfl <| WLs.val (y_lenS rfl st9) rfl <| WLs.guarded rfl rfl <| WLs.val (y_gt rfl rfl (decide_eq_true (by omega))) rfl <| ?_
  refine WLs.val (y_pick rfl rfl) rfl <| WLs.val (y_move rfl) rfl <| WLs.skipped rfl rfl rfl <| WLs.skipped rfl rfl rfl <| WLs.skipped rfl rfl rfl <| WLs.val (y_pick rfl rfl) rfl <| ?_
  refine WLs.nil ?_
  refine WEs.then_n ?_
  refine WCs.cond_t rfl rfl ?_
  refine WCs.seq ?_
  refine WCs.region ?_
  refine WLs.val (y_asgn rfl) rfl <| ?_
  refine WLs.nil ?_
  refine WEs.then_n ?_
  refine WCs.ret ?_
  refine WEs.then_ret ?_
  refine WEs.ret1 (.inr rfl) rfl rfl ?_
  exact fun w hs => hs.emp.implAt 0 rfl (sliceAt_nil 9 1)

theorem arc_Insert_here {w : World} {L : List Asrt} {r p : Nat} {a : Arc} {k : Str} (hs : Sat w (arcL r p a L)) (h : a.Ok) (hk : k.length ≤ 64) (hh : a.has k = true) : Does Tryz.prog 163 [rp p, str k] w fun v w' => Sat w' (sliceAt 9 1 v 0 [] :: arcL r p (a.front 1 k) L) := by
  refine Does.enters hs (n := 147) Tryz.func163 rfl rfl rfl rfl ?_
  refine WCs.seq ?_
  refine WCs.region ?_
  refine WLs.val (y_asgn rfl) rfl <| ?_
  refine WLs.nil ?_
  refine WEs.then_n ?_
  refine WCs.seq ?_
  refine WCs.seq ?_
  refine WCs.region ?_
  refine WLs.val (y_move rfl) rfl <| WLs.val (y_peq rfl rfl pt132) rfl <| WLs.val (y_move rfl) rfl <| WLs.guarded rfl rfl <| WLs.val (y_move rfl) rfl <| WLs.guarded rfl rfl <| WLs.val (y_lenS rfl st9) rfl <| WLs.guarded rfl rfl <| WLs.val (y_gt rfl rfl (decide_eq_false (by omega))) rfl <| ?_
  refine WLs.val (y_pick rfl rfl) rfl <| WLs.val (y_move rfl) rfl <| WLs.guarded rfl rfl <| WLs.val (y_move rfl) rfl <| WLs.guarded rfl rfl <| WLs.val (y_move rfl) rfl <| WLs.guarded rfl rfl <| ?_
  refine WLs.callE Tryz.func122 rfl rfl rfl rfl (fun w hs => arc_Touch_true hs h hh) ?_
  refine WLs.val (y_pick rfl rfl) rfl <| ?_
  refine WLs.nil ?_
  refine WEs.then_n ?_
  refine WCs.cond_t rfl rfl ?_
  refine WCs.seq ?_
  refine WCs.region ?_
  refine WLs.val (y_asgn rfl) rfl <| ?_
  refine WLs.nil ?_
  refine WEs.then_n ?_
  refine WCs.ret ?_
  refine WEs.then_ret ?_
  refine WEs.ret1 (.inr rfl) rfl rfl ?_
  exact fun w hs => hs.emp.implAt 0 rfl (sliceAt_nil 9 1)

theorem arc_Insert_again {w : World} {L : List Asrt} {r p : Nat} {a : Arc} {k : Str} (hs : Sat w (arcL r p a L)) (h : a.Ok) (hk : k.length ≤ 64) (hh : a.has k = false) (h01 : a.n 0 + a.n 1 ≤ a.most) {l : Nat} (hm : k ∈ a.K.getD l []) (hl : l = 2 ∨ l = 3) : Does Tryz.prog 163 [rp p, str k] w fun v w' => Sat w' (sliceAt 9 1 v (a.again k l).2.length ((a.again k l).2.map str) :: arcL r p (a.again k l).1 L) := by
  refine Does.enters hs (n := 147) Tryz.func163 rfl rfl rfl rfl ?_
  refine WCs.seq ?_
  refine WCs.region ?_
  refine WLs.val (y_asgn rfl) rfl <| ?_
  refine WLs.nil ?_
  refine WEs.then_n ?_
  refine WCs.seq ?_
  refine WCs.seq ?_
  refine WCs.region ?_
  refine WLs.val (y_move rfl) rfl <| WLs.val (y_peq rfl rfl pt132) rfl <| WLs.val (y_move rfl) rfl <| WLs.guarded rfl rfl <| WLs.val (y_move rfl) rfl <| WLs.guarded rfl rfl <| WLs.val (y_lenS rfl st9) rfl <| WLs.guarded rfl rfl <| WLs.val (y_gt rfl rfl (decide_eq_false (by omega))) rfl <| ?_
  refine WLs.val (y_pick rfl rfl) rfl <| WLs.val (y_move rfl) rfl <| WLs.guarded rfl rfl <| WLs.val (y_move rfl) rfl <| WLs.guarded rfl rfl <| WLs.val (y_move rfl) rfl <| WLs.guarded rfl rfl <| ?_
  refine WLs.callE Tryz.func122 rfl rfl rfl rfl (fun w hs => arc_Touch_false hs h hh) ?_
  refine WLs.val (y_pick rfl rfl) rfl <| ?_
  refine WLs.nil ?_
  refine WEs.then_n ?_
  refine WCs.cond_f rfl rfl ?_
  refine WCs.skip ?_
  refine WEs.then_n ?_
  refine WCs.seq ?_
  refine WCs.seq ?_
  refine WCs.region ?_
  refine WLs.val (y_move rfl) rfl <| WLs.val (y_nil rfl) rfl <| WLs.val (y_fld rfl fl191_2) rfl <| WLs.val (y_ld rfl sc187 (Sat.at 1 rfl) (by rfl)) rfl <| ?_
  refine WLs.val (y_move rfl) rfl <| ?_
  refine WLs.callE Tryz.func156 rfl rfl rfl rfl (fun w hs => ringA_In_yes hs hm) ?_
  refine WLs.val (y_move rfl) rfl <| WLs.val (y_ext rfl rfl) rfl <| WLs.val (y_ext rfl rfl) rfl <| WLs.val (y_asgn rfl) rfl <| WLs.val (y_asgn rfl) rfl <| ?_
  refine WLs.nil ?_
  refine WEs.then_n ?_
  refine WCs.seq ?_
  refine WCs.region ?_
  refine WLs.val (y_move rfl) rfl <| ?_
  refine WLs.nil ?_
  refine WEs.then_n ?_
  refine WCs.cond_t rfl rfl ?_
  refine WCs.seq ?_
  refine WCs.region ?_
  refine WLs.val (y_move rfl) rfl <| WLs.val (y_move rfl) rfl <| WLs.val (y_move rfl) rfl <| ?_
  refine WLs.call Tryz.func208 rfl rfl rfl rfl (fun w hs => arc_again hs h h01 hm hl) ?_
  rintro v37 w37 hs37
  refine WLs.go hs37 ?_
  refine WLs.val (y_asgn rfl) rfl <| ?_
  refine WLs.nil ?_
  refine WEs.then_n ?_
  refine WCs.ret ?_
  refine WEs.then_ret ?_
  refine WEs.ret1 (.inr rfl) rfl rfl ?_
  exact fun w hs => hs

theorem arc_Insert_f1 {w : World} {L : List Asrt} {r p : Nat} {a : Arc} {k : Str} (hs : Sat w (arcL r p a L)) (hi : a.Inv) (hk : k.length ≤ 64) (hh : a.has k = false) (hw : k ∉ a.K.flatten) (c1 : a.most ≤ a.n 0 + a.n 2) (c2 : a.n 0 < a.most) : Does Tryz.prog 163 [rp p, str k] w fun v w' => Sat w' (sliceAt 9 1 v a.fresh.2.length (a.fresh.2.map str) :: arcL r p (a.fresh.1.front 0 k) L) := by
  have hn : k ∉ a.K.flatten := hw
  have h := hi.toOk
  have hfl := h.flen
  have hall := h.all1
  have hm2 := h.m2
  have hm1 := h.m1
  obtain ⟨e1, e2, e3, e4, e5, e6, e7⟩ := hi.fresh hw
  have hro := e1
  have hlt : a.fresh.1.K.flatten.length ≤ 2 * a.fresh.1.most := e1.all1
  obtain ⟨g1, g2, g3, g4, g5⟩ := h.forget (l := 2)
  refine Does.enters hs (n := 147) Tryz.func163 rfl rfl rfl rfl ?_
  refine WCs.seq ?_
  refine WCs.region ?_
  refine WLs.val (y_asgn rfl) rfl <| ?_
  refine WLs.nil ?_
  refine WEs.then_n ?_
  refine WCs.seq ?_
  refine WCs.seq ?_
  refine WCs.region ?_
  refine WLs.val (y_move rfl) rfl <| WLs.val (y_peq rfl rfl pt132) rfl <| WLs.val (y_move rfl) rfl <| WLs.guarded rfl rfl <| WLs.val (y_move rfl) rfl <| WLs.guarded rfl rfl <| WLs.val (y_lenS rfl st9) rfl <| WLs.guarded rfl rfl <| WLs.val (y_gt rfl rfl (decide_eq_false (by omega))) rfl <| ?_
  refine WLs.val (y_pick rfl rfl) rfl <| WLs.val (y_move rfl) rfl <| WLs.guarded rfl rfl <| WLs.val (y_move rfl) rfl <| WLs.guarded rfl rfl <| WLs.val (y_move rfl) rfl <| WLs.guarded rfl rfl <| ?_
  refine WLs.callE Tryz.func122 rfl rfl rfl rfl (fun w hs => arc_Touch_false hs h hh) ?_
  refine WLs.val (y_pick rfl rfl) rfl <| ?_
  refine WLs.nil ?_
  refine WEs.then_n ?_
  refine WCs.cond_f rfl rfl ?_
  refine WCs.skip ?_
  refine WEs.then_n ?_
  refine WCs.seq ?_
  refine WCs.seq ?_
  refine WCs.region ?_
  refine WLs.val (y_move rfl) rfl <| WLs.val (y_nil rfl) rfl <| WLs.val (y_fld rfl fl191_2) rfl <| WLs.val (y_ld rfl sc187 (Sat.at 1 rfl) (by rfl)) rfl <| ?_
  refine WLs.val (y_move rfl) rfl <| ?_
  refine WLs.callE Tryz.func156 rfl rfl rfl rfl (fun w hs => ringA_In_no hs hn) ?_
  refine WLs.val (y_move rfl) rfl <| WLs.val (y_ext rfl rfl) rfl <| WLs.val (y_ext rfl rfl) rfl <| WLs.val (y_asgn rfl) rfl <| WLs.val (y_asgn rfl) rfl <| ?_
  refine WLs.nil ?_
  refine WEs.then_n ?_
  refine WCs.seq ?_
  refine WCs.region ?_
  refine WLs.val (y_move rfl) rfl <| ?_
  refine WLs.nil ?_
  refine WEs.then_n ?_
  refine WCs.cond_f rfl rfl ?_
  refine WCs.skip ?_
  refine WEs.then_n ?_
  refine WCs.seq ?_
  refine WCs.region ?_
  refine WLs.val (y_asgn rfl) rfl <| ?_
  refine WLs.nil ?_
  refine WEs.then_n ?_
  refine WCs.seq ?_
  refine WCs.draw (.one 0 3 (.one 1 3 (.one 2 3 (.one 3 0 (.one 5 3 (.one 6 3 (.one 7 3 (.one 8 0 (.one 4 1 (.one 9 2 (.one 10 3 (.one 11 3 .nil)))))))))))) [9] Tryz.mixed (by kernel_rfl) (by kernel_rfl) rfl (Pf.then Pf.body) (fun _ h => h) ?_
  refine WSs.pure rfl (y_move rfl) rfl ?_
  refine WSs.pure rfl (y_nil rfl) rfl ?_
  refine WSs.pure rfl (y_fld rfl fl191_2) rfl ?_
  refine WSs.val rfl (y_ld rfl sc187 (Sat.at 1 rfl) (by rfl)) rfl ?_
  refine WSs.pure rfl (y_move rfl) rfl ?_
  refine WSs.pure rfl (y_nil rfl) rfl ?_
  refine WSs.pure rfl (y_fld rfl fl191_2) rfl ?_
  refine WSs.val rfl (y_ld rfl sc187 (Sat.at 1 rfl) (by rfl)) rfl ?_
  refine WSs.callE rfl Tryz.func160 rfl rfl rfl rfl (fun w hs => arcR_Len (j := 0) hs h (by omega)) (fun _ h => h) ?_
  refine WSs.callBE rfl Tryz.func160 rfl rfl rfl rfl (fun w hs => arcR_Len (j := 2) hs h (by omega)) ?_
  refine WSs.pure rfl (y_add rfl rfl (by first | exact wrap_i64 (by omega) | rfl)) rfl ?_
  refine WSs.pure rfl (y_asgn rfl) rfl ?_
  refine WSs.nil ?_
  refine WEs.then_n ?_
  refine WCs.seq ?_
  refine WCs.draw (.one 0 3 (.one 1 3 (.one 2 3 (.one 3 3 (.one 4 0 (.one 7 3 (.one 8 3 (.one 9 3 (.one 10 0 (.one 5 1 (.one 6 3 (.one 11 2 (.one 12 3 (.one 13 3 .nil)))))))))))))) [11] Tryz.mixed (by kernel_rfl) (by kernel_rfl) rfl (Pf.then Pf.body) (fun _ h => h) ?_
  refine WSs.pure rfl (y_move rfl) rfl ?_
  refine WSs.pure rfl (y_move rfl) rfl ?_
  refine WSs.pure rfl (y_nil rfl) rfl ?_
  refine WSs.pure rfl (y_fld rfl fl191_2) rfl ?_
  refine WSs.val rfl (y_ld rfl sc187 (Sat.at 1 rfl) (by rfl)) rfl ?_
  refine WSs.pure rfl (y_move rfl) rfl ?_
  refine WSs.pure rfl (y_nil rfl) rfl ?_
  refine WSs.pure rfl (y_fld rfl fl191_2) rfl ?_
  refine WSs.val rfl (y_ld rfl sc187 (Sat.at 1 rfl) (by rfl)) rfl ?_
  refine WSs.callE rfl Tryz.func160 rfl rfl rfl rfl (fun w hs => arcR_Len (j := 1) hs h (by omega)) (fun _ h => h) ?_
  refine WSs.pure rfl (y_add rfl rfl (by first | exact wrap_i64 (by omega) | rfl)) rfl ?_
  refine WSs.callBE rfl Tryz.func160 rfl rfl rfl rfl (fun w hs => arcR_Len (j := 3) hs h (by omega)) ?_
  refine WSs.pure rfl (y_add rfl rfl (by first | exact wrap_i64 (by omega) | rfl)) rfl ?_
  refine WSs.pure rfl (y_asgn rfl) rfl ?_
  refine WSs.nil ?_
  refine WEs.then_n ?_
  refine WCs.seq ?_
  refine WCs.block ?_
  refine WCs.seq ?_
  refine WCs.draw (.one 0 3 (.one 1 3 (.one 2 3 (.one 3 3 (.one 4 0 (.one 5 3 (.one 6 3 (.one 7 3 (.one 8 3 (.one 9 3 (.one 10 0 (.one 12 3 (.one 13 3 (.one 14 3 (.one 15 0 (.one 11 1 (.one 16 3 (.one 17 3 (.one 18 3 .nil))))))))))))))))))) [] Tryz.mixed (by kernel_rfl) (by kernel_rfl) rfl (Pf.then (Pf.block (Pf.then Pf.body))) (fun _ h => h) ?_
  refine WSs.pure rfl (y_move rfl) rfl ?_
  refine WSs.pure rfl (y_move rfl) rfl ?_
  refine WSs.pure rfl (y_nil rfl) rfl ?_
  refine WSs.pure rfl (y_fld rfl fl191_0) rfl ?_
  refine WSs.val rfl (y_ld rfl sc3 (Sat.at 1 rfl) (by rfl)) rfl ?_
  refine WSs.pure rfl (y_ge rfl rfl (decide_eq_true (by omega))) rfl ?_
  refine WSs.pure rfl (y_move rfl) rfl ?_
  refine WSs.pureG rfl rfl rfl (y_move rfl) rfl ?_
  refine WSs.pureG rfl rfl rfl (y_nil rfl) rfl ?_
  refine WSs.pureG rfl rfl rfl (y_fld rfl fl191_2) rfl ?_
  refine WSs.valG rfl rfl rfl (y_ld rfl sc187 (Sat.at 1 rfl) (by rfl)) rfl ?_
  refine WSs.pureG rfl rfl rfl (y_move rfl) rfl ?_
  refine WSs.pureG rfl rfl rfl (y_nil rfl) rfl ?_
  refine WSs.pureG rfl rfl rfl (y_fld rfl fl191_0) rfl ?_
  refine WSs.valG rfl rfl rfl (y_ld rfl sc3 (Sat.at 1 rfl) (by rfl)) rfl ?_
  refine WSs.callEG rfl rfl rfl Tryz.func160 rfl rfl rfl rfl (fun w hs => arcR_Len (j := 0) hs h (by omega)) (fun _ h => h) ?_
  refine WSs.pureG rfl rfl rfl (y_lt rfl rfl (decide_eq_true (by omega))) rfl ?_
  refine WSs.pure rfl (y_pick rfl rfl) rfl ?_
  refine WSs.pure rfl (y_asgn rfl) rfl ?_
  refine WSs.nil ?_
  refine WEs.then_n ?_
  refine WCs.cond_t rfl rfl ?_
  refine WCs.seq ?_
  refine WCs.region ?_
  refine WLs.val (y_move rfl) rfl <| ?_
  refine WLs.callE Tryz.func209 rfl rfl rfl rfl (fun w hs => arc_forget (j := 2) hs h (by omega)) ?_
  refine WLs.nil ?_
  refine WEs.then_n ?_
  refine WCs.seq ?_
  refine WCs.draw (.one 0 3 (.one 2 3 (.one 3 3 (.one 4 3 (.one 5 0 (.one 1 1 (.one 6 3 .nil))))))) [] Tryz.mixed (by kernel_rfl) (by kernel_rfl) rfl (Pf.then (Pf.block (Pf.then Pf.body))) (fun _ h => h) ?_
  refine WSs.pure rfl (y_move rfl) rfl ?_
  refine WSs.pure rfl (y_move rfl) rfl ?_
  refine WSs.pure rfl (y_nil rfl) rfl ?_
  refine WSs.pure rfl (y_fld rfl fl191_0) rfl ?_
  refine WSs.val rfl (y_ld rfl sc3 (Sat.at 1 rfl) (by rfl)) rfl ?_
  refine WSs.callE rfl Tryz.func153 rfl rfl rfl rfl (fun w hs => arc_Len (a := (a.forget 2)) hs g1 (by show (a.forget 2).n 0 + (a.forget 2).n 1 ≤ 10000; have := g1.flen; have := g1.all1; omega)) (fun _ h => h) ?_
  refine WSs.pure rfl (y_ge rfl rfl rfl) rfl ?_
  refine WSs.nil ?_
  refine WEs.then_n ?_
  refine WCs.cond rfl (fun hc => ?_) (fun hc => ?_)
  · have hc := of_decide_eq_true hc
    have e : a.fresh = (a.forget 2).replace false := by unfold Arc.fresh Arc.room; rw [if_pos c1, if_pos c2, if_pos (Int.ofNat_le.1 hc)]
    rw [e] at e1 hlt ⊢
    refine WCs.region ?_
    refine WLs.val (y_move rfl) rfl <| ?_
    refine WLs.call Tryz.func210 rfl rfl rfl rfl (fun w hs => arc_replace (a := (a.forget 2)) (b := false) hs g1) ?_
    rintro v91 w91 hs91
    have hs91 := hs91.third
    refine WLs.go hs91 ?_
    refine WLs.val (y_asgn rfl) rfl <| ?_
    refine WLs.nil ?_
    refine WEs.in_n ?_
    refine WEs.then_n ?_
    refine WCs.seq ?_
    refine WCs.region ?_
    refine WLs.val (y_move rfl) rfl <| WLs.val (y_nil rfl) rfl <| WLs.val (y_fld rfl fl191_2) rfl <| WLs.val (y_ld rfl sc187 (Sat.at 1 rfl) (by rfl)) rfl <| ?_
    refine WLs.val (y_move rfl) rfl <| ?_
    refine WLs.callE Tryz.func159 rfl rfl rfl rfl (fun w hs => arcR_Front (j := 0) hs e1 (by omega) hk (.inr hlt)) ?_
    refine WLs.nil ?_
    refine WEs.then_n ?_
    refine WCs.seq ?_
    refine WCs.region ?_
    refine WLs.val (y_move rfl) rfl <| WLs.val (y_asgn rfl) rfl <| ?_
    refine WLs.nil ?_
    refine WEs.then_n ?_
    refine WCs.ret ?_
    refine WEs.ret1 (.inr rfl) rfl rfl ?_
    exact fun w hs => hs.unthird
  · have hc := of_decide_eq_false hc
    have e : a.fresh = ((a.forget 2), []) := by unfold Arc.fresh Arc.room; rw [if_pos c1, if_pos c2, if_neg (fun h => hc (Int.ofNat_le.2 h))]
    rw [e] at e1 hlt ⊢
    refine WCs.skip ?_
    refine WEs.in_n ?_
    refine WEs.then_n ?_
    refine WCs.seq ?_
    refine WCs.region ?_
    refine WLs.val (y_move rfl) rfl <| WLs.val (y_nil rfl) rfl <| WLs.val (y_fld rfl fl191_2) rfl <| WLs.val (y_ld rfl sc187 (Sat.at 1 rfl) (by rfl)) rfl <| ?_
    refine WLs.val (y_move rfl) rfl <| ?_
    refine WLs.callE Tryz.func159 rfl rfl rfl rfl (fun w hs => arcR_Front (j := 0) hs e1 (by omega) hk (.inr hlt)) ?_
    refine WLs.nil ?_
    refine WEs.then_n ?_
    refine WCs.seq ?_
    refine WCs.region ?_
    refine WLs.val (y_move rfl) rfl <| WLs.val (y_asgn rfl) rfl <| ?_
    refine WLs.nil ?_
    refine WEs.then_n ?_
    refine WCs.ret ?_
    refine WEs.ret1 (.inr rfl) rfl rfl ?_
    exact fun w hs => hs.emp.implAt 0 rfl (sliceAt_nil 9 1)

theorem arc_Insert_f2 {w : World} {L : List Asrt} {r p : Nat} {a : Arc} {k : Str} (hs : Sat w (arcL r p a L)) (hi : a.Inv) (hk : k.length ≤ 64) (hh : a.has k = false) (hw : k ∉ a.K.flatten) (c1 : a.most ≤ a.n 0 + a.n 2) (c2 : ¬ a.n 0 < a.most) {x : Str} (hx : (a.K.getD 0 []).getLast? = some x) : Does Tryz.prog 163 [rp p, str k] w fun v w' => Sat w' (sliceAt 9 1 v a.fresh.2.length (a.fresh.2.map str) :: arcL r p (a.fresh.1.front 0 k) L) := by
  have hn : k ∉ a.K.flatten := hw
  have h := hi.toOk
  have hfl := h.flen
  have hall := h.all1
  have hm2 := h.m2
  have hm1 := h.m1
  obtain ⟨e1, e2, e3, e4, e5, e6, e7⟩ := hi.fresh hw
  have hro := e1
  have hlt : a.fresh.1.K.flatten.length ≤ 2 * a.fresh.1.most := e1.all1
  have e : a.fresh = (a.drop x, [x]) := by unfold Arc.fresh; rw [if_pos c1, if_neg c2, hx]
  rw [e] at e1 hlt ⊢
  refine Does.enters hs (n := 147) Tryz.func163 rfl rfl rfl rfl ?_
  refine WCs.seq ?_
  refine WCs.region ?_
  refine WLs.val (y_asgn rfl) rfl <| ?_
  refine WLs.nil ?_
  refine WEs.then_n ?_
  refine WCs.seq ?_
  refine WCs.seq ?_
  refine WCs.region ?_
  refine WLs.val (y_move rfl) rfl <| WLs.val (y_peq rfl rfl pt132) rfl <| WLs.val (y_move rfl) rfl <| WLs.guarded rfl rfl <| WLs.val (y_move rfl) rfl <| WLs.guarded rfl rfl <| WLs.val (y_lenS rfl st9) rfl <| WLs.guarded rfl rfl <| WLs.val (y_gt rfl rfl (decide_eq_false (by omega))) rfl <| ?_
  refine WLs.val (y_pick rfl rfl) rfl <| WLs.val (y_move rfl) rfl <| WLs.guarded rfl rfl <| WLs.val (y_move rfl) rfl <| WLs.guarded rfl rfl <| WLs.val (y_move rfl) rfl <| WLs.guarded rfl rfl <| ?_
  refine WLs.callE Tryz.func122 rfl rfl rfl rfl (fun w hs => arc_Touch_false hs h hh) ?_
  refine WLs.val (y_pick rfl rfl) rfl <| ?_
  refine WLs.nil ?_
  refine WEs.then_n ?_
  refine WCs.cond_f rfl rfl ?_
  refine WCs.skip ?_
  refine WEs.then_n ?_
  refine WCs.seq ?_
  refine WCs.seq ?_
  refine WCs.region ?_
  refine WLs.val (y_move rfl) rfl <| WLs.val (y_nil rfl) rfl <| WLs.val (y_fld rfl fl191_2) rfl <| WLs.val (y_ld rfl sc187 (Sat.at 1 rfl) (by rfl)) rfl <| ?_
  refine WLs.val (y_move rfl) rfl <| ?_
  refine WLs.callE Tryz.func156 rfl rfl rfl rfl (fun w hs => ringA_In_no hs hn) ?_
  refine WLs.val (y_move rfl) rfl <| WLs.val (y_ext rfl rfl) rfl <| WLs.val (y_ext rfl rfl) rfl <| WLs.val (y_asgn rfl) rfl <| WLs.val (y_asgn rfl) rfl <| ?_
  refine WLs.nil ?_
  refine WEs.then_n ?_
  refine WCs.seq ?_
  refine WCs.region ?_
  refine WLs.val (y_move rfl) rfl <| ?_
  refine WLs.nil ?_
  refine WEs.then_n ?_
  refine WCs.cond_f rfl rfl ?_
  refine WCs.skip ?_
  refine WEs.then_n ?_
  refine WCs.seq ?_
  refine WCs.region ?_
  refine WLs.val (y_asgn rfl) rfl <| ?_
  refine WLs.nil ?_
  refine WEs.then_n ?_
  refine WCs.seq ?_
  refine WCs.draw (.one 0 3 (.one 1 3 (.one 2 3 (.one 3 0 (.one 5 3 (.one 6 3 (.one 7 3 (.one 8 0 (.one 4 1 (.one 9 2 (.one 10 3 (.one 11 3 .nil)))))))))))) [9] Tryz.mixed (by kernel_rfl) (by kernel_rfl) rfl (Pf.then Pf.body) (fun _ h => h) ?_
  refine WSs.pure rfl (y_move rfl) rfl ?_
  refine WSs.pure rfl (y_nil rfl) rfl ?_
  refine WSs.pure rfl (y_fld rfl fl191_2) rfl ?_
  refine WSs.val rfl (y_ld rfl sc187 (Sat.at 1 rfl) (by rfl)) rfl ?_
  refine WSs.pure rfl (y_move rfl) rfl ?_
  refine WSs.pure rfl (y_nil rfl) rfl ?_
  refine WSs.pure rfl (y_fld rfl fl191_2) rfl ?_
  refine WSs.val rfl (y_ld rfl sc187 (Sat.at 1 rfl) (by rfl)) rfl ?_
  refine WSs.callE rfl Tryz.func160 rfl rfl rfl rfl (fun w hs => arcR_Len (j := 0) hs h (by omega)) (fun _ h => h) ?_
  refine WSs.callBE rfl Tryz.func160 rfl rfl rfl rfl (fun w hs => arcR_Len (j := 2) hs h (by omega)) ?_
  refine WSs.pure rfl (y_add rfl rfl (by first | exact wrap_i64 (by omega) | rfl)) rfl ?_
  refine WSs.pure rfl (y_asgn rfl) rfl ?_
  refine WSs.nil ?_
  refine WEs.then_n ?_
  refine WCs.seq ?_
  refine WCs.draw (.one 0 3 (.one 1 3 (.one 2 3 (.one 3 3 (.one 4 0 (.one 7 3 (.one 8 3 (.one 9 3 (.one 10 0 (.one 5 1 (.one 6 3 (.one 11 2 (.one 12 3 (.one 13 3 .nil)))))))))))))) [11] Tryz.mixed (by kernel_rfl) (by kernel_rfl) rfl (Pf.then Pf.body) (fun _ h => h) ?_
  refine WSs.pure rfl (y_move rfl) rfl ?_
  refine WSs.pure rfl (y_move rfl) rfl ?_
  refine WSs.pure rfl (y_nil rfl) rfl ?_
  refine WSs.pure rfl (y_fld rfl fl191_2) rfl ?_
  refine WSs.val rfl (y_ld rfl sc187 (Sat.at 1 rfl) (by rfl)) rfl ?_
  refine WSs.pure rfl (y_move rfl) rfl ?_
  refine WSs.pure rfl (y_nil rfl) rfl ?_
  refine WSs.pure rfl (y_fld rfl fl191_2) rfl ?_
  refine WSs.val rfl (y_ld rfl sc187 (Sat.at 1 rfl) (by rfl)) rfl ?_
  refine WSs.callE rfl Tryz.func160 rfl rfl rfl rfl (fun w hs => arcR_Len (j := 1) hs h (by omega)) (fun _ h => h) ?_
  refine WSs.pure rfl (y_add rfl rfl (by first | exact wrap_i64 (by omega) | rfl)) rfl ?_
  refine WSs.callBE rfl Tryz.func160 rfl rfl rfl rfl (fun w hs => arcR_Len (j := 3) hs h (by omega)) ?_
  refine WSs.pure rfl (y_add rfl rfl (by first | exact wrap_i64 (by omega) | rfl)) rfl ?_
  refine WSs.pure rfl (y_asgn rfl) rfl ?_
  refine WSs.nil ?_
  refine WEs.then_n ?_
  refine WCs.seq ?_
  refine WCs.block ?_
  refine WCs.seq ?_
  refine WCs.draw (.one 0 3 (.one 1 3 (.one 2 3 (.one 3 3 (.one 4 0 (.one 5 3 (.one 6 3 (.one 7 3 (.one 8 3 (.one 9 3 (.one 10 0 (.one 12 3 (.one 13 3 (.one 14 3 (.one 15 0 (.one 11 1 (.one 16 3 (.one 17 3 (.one 18 3 .nil))))))))))))))))))) [] Tryz.mixed (by kernel_rfl) (by kernel_rfl) rfl (Pf.then (Pf.block (Pf.then Pf.body))) (fun _ h => h) ?_
  refine WSs.pure rfl (y_move rfl) rfl ?_
  refine WSs.pure rfl (y_move rfl) rfl ?_
  refine WSs.pure rfl (y_nil rfl) rfl ?_
  refine WSs.pure rfl (y_fld rfl fl191_0) rfl ?_
  refine WSs.val rfl (y_ld rfl sc3 (Sat.at 1 rfl) (by rfl)) rfl ?_
  refine WSs.pure rfl (y_ge rfl rfl (decide_eq_true (by omega))) rfl ?_
  refine WSs.pure rfl (y_move rfl) rfl ?_
  refine WSs.pureG rfl rfl rfl (y_move rfl) rfl ?_
  refine WSs.pureG rfl rfl rfl (y_nil rfl) rfl ?_
  refine WSs.pureG rfl rfl rfl (y_fld rfl fl191_2) rfl ?_
  refine WSs.valG rfl rfl rfl (y_ld rfl sc187 (Sat.at 1 rfl) (by rfl)) rfl ?_
  refine WSs.pureG rfl rfl rfl (y_move rfl) rfl ?_
  refine WSs.pureG rfl rfl rfl (y_nil rfl) rfl ?_
  refine WSs.pureG rfl rfl rfl (y_fld rfl fl191_0) rfl ?_
  refine WSs.valG rfl rfl rfl (y_ld rfl sc3 (Sat.at 1 rfl) (by rfl)) rfl ?_
  refine WSs.callEG rfl rfl rfl Tryz.func160 rfl rfl rfl rfl (fun w hs => arcR_Len (j := 0) hs h (by omega)) (fun _ h => h) ?_
  refine WSs.pureG rfl rfl rfl (y_lt rfl rfl (decide_eq_false (by omega))) rfl ?_
  refine WSs.pure rfl (y_pick rfl rfl) rfl ?_
  refine WSs.pure rfl (y_asgn rfl) rfl ?_
  refine WSs.nil ?_
  refine WEs.then_n ?_
  refine WCs.cond_f rfl rfl ?_
  refine WCs.seq ?_
  refine WCs.region ?_
  refine WLs.val (y_move rfl) rfl <| WLs.val (y_move rfl) rfl <| WLs.val (y_nil rfl) rfl <| WLs.val (y_fld rfl fl191_0) rfl <| WLs.val (y_ld rfl sc3 (Sat.at 1 rfl) (by rfl)) rfl <| ?_
  refine WLs.val (y_ge rfl rfl (decide_eq_true (by omega))) rfl <| ?_
  refine WLs.val (y_asgn rfl) rfl <| ?_
  refine WLs.nil ?_
  refine WEs.then_n ?_
  refine WCs.cond_t rfl rfl ?_
  refine WCs.seq ?_
  refine WCs.region ?_
  refine WLs.val (y_move rfl) rfl <| WLs.val (y_nil rfl) rfl <| WLs.val (y_fld rfl fl191_2) rfl <| WLs.val (y_ld rfl sc187 (Sat.at 1 rfl) (by rfl)) rfl <| ?_
  refine WLs.callE Tryz.func162 rfl rfl rfl rfl (fun w hs => arcR_Back_yes (j := 0) hs h (by omega) hx) ?_
  refine WLs.val (y_move rfl) rfl <| WLs.val (y_ext rfl rfl) rfl <| WLs.val (y_ext rfl rfl) rfl <| WLs.val (y_asgn rfl) rfl <| WLs.val (y_asgn rfl) rfl <| ?_
  refine WLs.nil ?_
  refine WEs.then_n ?_
  refine WCs.seq ?_
  refine WCs.region ?_
  refine WLs.val (y_move rfl) rfl <| WLs.val (y_nil rfl) rfl <| WLs.val (y_fld rfl fl191_2) rfl <| WLs.val (y_ld rfl sc187 (Sat.at 1 rfl) (by rfl)) rfl <| ?_
  refine WLs.val (y_move rfl) rfl <| ?_
  refine WLs.callE Tryz.func119 rfl rfl rfl rfl (fun w hs => arcR_Drop (k := x) hs) ?_
  refine WLs.nil ?_
  refine WEs.then_n ?_
  refine WCs.region ?_
  refine WLs.val (y_move rfl) rfl <| ?_
  refine WLs.bslice1 rfl sl97 zr9 rfl rfl rfl rfl (fun b => ?_)
  refine WLs.implAt 0 rfl (sliceAt_one 9 b (str x)) ?_
  refine WLs.third ?_
  refine WLs.val (y_asgn rfl) rfl <| ?_
  refine WLs.nil ?_
  refine WEs.in_n ?_
  refine WEs.then_n ?_
  refine WCs.seq ?_
  refine WCs.region ?_
  refine WLs.val (y_move rfl) rfl <| WLs.val (y_nil rfl) rfl <| WLs.val (y_fld rfl fl191_2) rfl <| WLs.val (y_ld rfl sc187 (Sat.at 1 rfl) (by rfl)) rfl <| ?_
  refine WLs.val (y_move rfl) rfl <| ?_
  refine WLs.callE Tryz.func159 rfl rfl rfl rfl (fun w hs => arcR_Front (j := 0) hs e1 (by omega) hk (.inr hlt)) ?_
  refine WLs.nil ?_
  refine WEs.then_n ?_
  refine WCs.seq ?_
  refine WCs.region ?_
  refine WLs.val (y_move rfl) rfl <| WLs.val (y_asgn rfl) rfl <| ?_
  refine WLs.nil ?_
  refine WEs.then_n ?_
  refine WCs.ret ?_
  refine WEs.ret1 (.inr rfl) rfl rfl ?_
  exact fun w hs => hs.unthird

theorem arc_Insert_f3 {w : World} {L : List Asrt} {r p : Nat} {a : Arc} {k : Str} (hs : Sat w (arcL r p a L)) (hi : a.Inv) (hk : k.length ≤ 64) (hh : a.has k = false) (hw : k ∉ a.K.flatten) (c1 : ¬ a.most ≤ a.n 0 + a.n 2) (c3 : a.most ≤ a.all) : Does Tryz.prog 163 [rp p, str k] w fun v w' => Sat w' (sliceAt 9 1 v a.fresh.2.length (a.fresh.2.map str) :: arcL r p (a.fresh.1.front 0 k) L) := by
  have hn : k ∉ a.K.flatten := hw
  have h := hi.toOk
  have hfl := h.flen
  have hall := h.all1
  have hm2 := h.m2
  have hm1 := h.m1
  obtain ⟨e1, e2, e3, e4, e5, e6, e7⟩ := hi.fresh hw
  have hro := e1
  have hlt : a.fresh.1.K.flatten.length ≤ 2 * a.fresh.1.most := e1.all1
  
  refine Does.enters hs (n := 147) Tryz.func163 rfl rfl rfl rfl ?_
  refine WCs.seq ?_
  refine WCs.region ?_
  refine WLs.val (y_asgn rfl) rfl <| ?_
  refine WLs.nil ?_
  refine WEs.then_n ?_
  refine WCs.seq ?_
  refine WCs.seq ?_
  refine WCs.region ?_
  refine WLs.val (y_move rfl) rfl <| WLs.val (y_peq rfl rfl pt132) rfl <| WLs.val (y_move rfl) rfl <| WLs.guarded rfl rfl <| WLs.val (y_move rfl) rfl <| WLs.guarded rfl rfl <| WLs.val (y_lenS rfl st9) rfl <| WLs.guarded rfl rfl <| WLs.val (y_gt rfl rfl (decide_eq_false (by omega))) rfl <| ?_
  refine WLs.val (y_pick rfl rfl) rfl <| WLs.val (y_move rfl) rfl <| WLs.guarded rfl rfl <| WLs.val (y_move rfl) rfl <| WLs.guarded rfl rfl <| WLs.val (y_move rfl) rfl <| WLs.guarded rfl rfl <| ?_
  refine WLs.callE Tryz.func122 rfl rfl rfl rfl (fun w hs => arc_Touch_false hs h hh) ?_
  refine WLs.val (y_pick rfl rfl) rfl <| ?_
  refine WLs.nil ?_
  refine WEs.then_n ?_
  refine WCs.cond_f rfl rfl ?_
  refine WCs.skip ?_
  refine WEs.then_n ?_
  refine WCs.seq ?_
  refine WCs.seq ?_
  refine WCs.region ?_
  refine WLs.val (y_move rfl) rfl <| WLs.val (y_nil rfl) rfl <| WLs.val (y_fld rfl fl191_2) rfl <| WLs.val (y_ld rfl sc187 (Sat.at 1 rfl) (by rfl)) rfl <| ?_
  refine WLs.val (y_move rfl) rfl <| ?_
  refine WLs.callE Tryz.func156 rfl rfl rfl rfl (fun w hs => ringA_In_no hs hn) ?_
  refine WLs.val (y_move rfl) rfl <| WLs.val (y_ext rfl rfl) rfl <| WLs.val (y_ext rfl rfl) rfl <| WLs.val (y_asgn rfl) rfl <| WLs.val (y_asgn rfl) rfl <| ?_
  refine WLs.nil ?_
  refine WEs.then_n ?_
  refine WCs.seq ?_
  refine WCs.region ?_
  refine WLs.val (y_move rfl) rfl <| ?_
  refine WLs.nil ?_
  refine WEs.then_n ?_
  refine WCs.cond_f rfl rfl ?_
  refine WCs.skip ?_
  refine WEs.then_n ?_
  refine WCs.seq ?_
  refine WCs.region ?_
  refine WLs.val (y_asgn rfl) rfl <| ?_
  refine WLs.nil ?_
  refine WEs.then_n ?_
  refine WCs.seq ?_
  refine WCs.draw (.one 0 3 (.one 1 3 (.one 2 3 (.one 3 0 (.one 5 3 (.one 6 3 (.one 7 3 (.one 8 0 (.one 4 1 (.one 9 2 (.one 10 3 (.one 11 3 .nil)))))))))))) [9] Tryz.mixed (by kernel_rfl) (by kernel_rfl) rfl (Pf.then Pf.body) (fun _ h => h) ?_
  refine WSs.pure rfl (y_move rfl) rfl ?_
  refine WSs.pure rfl (y_nil rfl) rfl ?_
  refine WSs.pure rfl (y_fld rfl fl191_2) rfl ?_
  refine WSs.val rfl (y_ld rfl sc187 (Sat.at 1 rfl) (by rfl)) rfl ?_
  refine WSs.pure rfl (y_move rfl) rfl ?_
  refine WSs.pure rfl (y_nil rfl) rfl ?_
  refine WSs.pure rfl (y_fld rfl fl191_2) rfl ?_
  refine WSs.val rfl (y_ld rfl sc187 (Sat.at 1 rfl) (by rfl)) rfl ?_
  refine WSs.callE rfl Tryz.func160 rfl rfl rfl rfl (fun w hs => arcR_Len (j := 0) hs h (by omega)) (fun _ h => h) ?_
  refine WSs.callBE rfl Tryz.func160 rfl rfl rfl rfl (fun w hs => arcR_Len (j := 2) hs h (by omega)) ?_
  refine WSs.pure rfl (y_add rfl rfl (by first | exact wrap_i64 (by omega) | rfl)) rfl ?_
  refine WSs.pure rfl (y_asgn rfl) rfl ?_
  refine WSs.nil ?_
  refine WEs.then_n ?_
  refine WCs.seq ?_
  refine WCs.draw (.one 0 3 (.one 1 3 (.one 2 3 (.one 3 3 (.one 4 0 (.one 7 3 (.one 8 3 (.one 9 3 (.one 10 0 (.one 5 1 (.one 6 3 (.one 11 2 (.one 12 3 (.one 13 3 .nil)))))))))))))) [11] Tryz.mixed (by kernel_rfl) (by kernel_rfl) rfl (Pf.then Pf.body) (fun _ h => h) ?_
  refine WSs.pure rfl (y_move rfl) rfl ?_
  refine WSs.pure rfl (y_move rfl) rfl ?_
  refine WSs.pure rfl (y_nil rfl) rfl ?_
  refine WSs.pure rfl (y_fld rfl fl191_2) rfl ?_
  refine WSs.val rfl (y_ld rfl sc187 (Sat.at 1 rfl) (by rfl)) rfl ?_
  refine WSs.pure rfl (y_move rfl) rfl ?_
  refine WSs.pure rfl (y_nil rfl) rfl ?_
  refine WSs.pure rfl (y_fld rfl fl191_2) rfl ?_
  refine WSs.val rfl (y_ld rfl sc187 (Sat.at 1 rfl) (by rfl)) rfl ?_
  refine WSs.callE rfl Tryz.func160 rfl rfl rfl rfl (fun w hs => arcR_Len (j := 1) hs h (by omega)) (fun _ h => h) ?_
  refine WSs.pure rfl (y_add rfl rfl (by first | exact wrap_i64 (by omega) | rfl)) rfl ?_
  refine WSs.callBE rfl Tryz.func160 rfl rfl rfl rfl (fun w hs => arcR_Len (j := 3) hs h (by omega)) ?_
  refine WSs.pure rfl (y_add rfl rfl (by first | exact wrap_i64 (by omega) | rfl)) rfl ?_
  refine WSs.pure rfl (y_asgn rfl) rfl ?_
  refine WSs.nil ?_
  refine WEs.then_n ?_
  refine WCs.seq ?_
  refine WCs.block ?_
  refine WCs.seq ?_
  refine WCs.draw (.one 0 3 (.one 1 3 (.one 2 3 (.one 3 3 (.one 4 0 (.one 5 3 (.one 6 3 (.one 7 3 (.one 8 3 (.one 9 3 (.one 10 0 (.one 12 3 (.one 13 3 (.one 14 3 (.one 15 0 (.one 11 1 (.one 16 3 (.one 17 3 (.one 18 3 .nil))))))))))))))))))) [] Tryz.mixed (by kernel_rfl) (by kernel_rfl) rfl (Pf.then (Pf.block (Pf.then Pf.body))) (fun _ h => h) ?_
  refine WSs.pure rfl (y_move rfl) rfl ?_
  refine WSs.pure rfl (y_move rfl) rfl ?_
  refine WSs.pure rfl (y_nil rfl) rfl ?_
  refine WSs.pure rfl (y_fld rfl fl191_0) rfl ?_
  refine WSs.val rfl (y_ld rfl sc3 (Sat.at 1 rfl) (by rfl)) rfl ?_
  refine WSs.pure rfl (y_ge rfl rfl (decide_eq_false (by omega))) rfl ?_
  refine WSs.pure rfl (y_move rfl) rfl ?_
  refine WSs.pureN rfl rfl rfl rfl ?_
  refine WSs.pureN rfl rfl rfl rfl ?_
  refine WSs.pureN rfl rfl rfl rfl ?_
  refine WSs.valN rfl rfl rfl rfl ?_
  refine WSs.pureN rfl rfl rfl rfl ?_
  refine WSs.pureN rfl rfl rfl rfl ?_
  refine WSs.pureN rfl rfl rfl rfl ?_
  refine WSs.valN rfl rfl rfl rfl ?_
  refine WSs.skip1 rfl rfl rfl (.inl rfl) rfl (fun _ h => h) ?_
  refine WSs.pureN rfl rfl rfl rfl ?_
  refine WSs.pure rfl (y_pick rfl rfl) rfl ?_
  refine WSs.pure rfl (y_asgn rfl) rfl ?_
  refine WSs.nil ?_
  refine WEs.then_n ?_
  refine WCs.cond_f rfl rfl ?_
  refine WCs.seq ?_
  refine WCs.region ?_
  refine WLs.val (y_move rfl) rfl <| WLs.val (y_move rfl) rfl <| WLs.val (y_nil rfl) rfl <| WLs.val (y_fld rfl fl191_0) rfl <| WLs.val (y_ld rfl sc3 (Sat.at 1 rfl) (by rfl)) rfl <| ?_
  refine WLs.val (y_ge rfl rfl (decide_eq_false (by omega))) rfl <| ?_
  refine WLs.val (y_asgn rfl) rfl <| ?_
  refine WLs.nil ?_
  refine WEs.then_n ?_
  refine WCs.cond_f rfl rfl ?_
  refine WCs.seq ?_
  refine WCs.region ?_
  refine WLs.val (y_move rfl) rfl <| WLs.val (y_move rfl) rfl <| WLs.val (y_nil rfl) rfl <| WLs.val (y_fld rfl fl191_0) rfl <| WLs.val (y_ld rfl sc3 (Sat.at 1 rfl) (by rfl)) rfl <| ?_
  refine WLs.val (y_ge rfl rfl (decide_eq_true (by unfold Arc.all at c3; omega))) rfl <| ?_
  refine WLs.val (y_asgn rfl) rfl <| ?_
  refine WLs.nil ?_
  refine WEs.then_n ?_
  refine WCs.cond_t rfl rfl ?_
  refine WCs.seq ?_
  refine WCs.seq ?_
  refine WCs.region ?_
  refine WLs.val (y_move rfl) rfl <| WLs.val (y_move rfl) rfl <| WLs.val (y_nil rfl) rfl <| WLs.val (y_fld rfl fl191_0) rfl <| WLs.val (y_ld rfl sc3 (Sat.at 1 rfl) (by rfl)) rfl <| ?_
  refine WLs.val (y_mul rfl rfl (by first | exact wrap_i64 (by omega) | rfl)) rfl <| ?_
  refine WLs.val (y_ge rfl rfl rfl) rfl <| ?_
  refine WLs.nil ?_
  refine WEs.then_n ?_
  refine WCs.cond rfl (fun hb => ?_) (fun hb => ?_)
  · have c4 : 2 * a.most ≤ a.all := by have := of_decide_eq_true hb; unfold Arc.all; omega
    obtain ⟨g1, g2, g3, g4, g5⟩ := h.forget (l := 3)
    refine WCs.region ?_
    refine WLs.val (y_move rfl) rfl <| ?_
    refine WLs.callE Tryz.func209 rfl rfl rfl rfl (fun w hs => arc_forget (j := 3) hs h (by omega)) ?_
    refine WLs.nil ?_
    refine WEs.then_n ?_
    refine WCs.seq ?_
    refine WCs.draw (.one 0 3 (.one 2 3 (.one 3 3 (.one 4 3 (.one 5 0 (.one 1 1 (.one 6 3 .nil))))))) [] Tryz.mixed (by kernel_rfl) (by kernel_rfl) rfl (Pf.then (Pf.block (Pf.then Pf.body))) (fun _ h => h) ?_
    refine WSs.pure rfl (y_move rfl) rfl ?_
    refine WSs.pure rfl (y_move rfl) rfl ?_
    refine WSs.pure rfl (y_nil rfl) rfl ?_
    refine WSs.pure rfl (y_fld rfl fl191_0) rfl ?_
    refine WSs.val rfl (y_ld rfl sc3 (Sat.at 1 rfl) (by rfl)) rfl ?_
    refine WSs.callE rfl Tryz.func153 rfl rfl rfl rfl (fun w hs => arc_Len (a := (a.forget 3)) hs g1 (by show (a.forget 3).n 0 + (a.forget 3).n 1 ≤ 10000; have := g1.flen; have := g1.all1; omega)) (fun _ h => h) ?_
    refine WSs.pure rfl (y_ge rfl rfl rfl) rfl ?_
    refine WSs.nil ?_
    refine WEs.then_n ?_
    refine WCs.cond rfl (fun hc => ?_) (fun hc => ?_)
    · have hc := of_decide_eq_true hc
      have e : a.fresh = (a.forget 3).replace false := by unfold Arc.fresh Arc.room; rw [if_neg c1, if_pos c3, if_pos c4, if_pos (Int.ofNat_le.1 hc)]
      rw [e] at e1 hlt ⊢
      refine WCs.region ?_
      refine WLs.val (y_move rfl) rfl <| ?_
      refine WLs.call Tryz.func210 rfl rfl rfl rfl (fun w hs => arc_replace (a := (a.forget 3)) (b := false) hs g1) ?_
      rintro v139 w139 hs139
      have hs139 := hs139.third
      refine WLs.go hs139 ?_
      refine WLs.val (y_asgn rfl) rfl <| ?_
      refine WLs.nil ?_
      refine WEs.in_n ?_
      refine WEs.then_n ?_
      refine WCs.seq ?_
      refine WCs.region ?_
      refine WLs.val (y_move rfl) rfl <| WLs.val (y_nil rfl) rfl <| WLs.val (y_fld rfl fl191_2) rfl <| WLs.val (y_ld rfl sc187 (Sat.at 1 rfl) (by rfl)) rfl <| ?_
      refine WLs.val (y_move rfl) rfl <| ?_
      refine WLs.callE Tryz.func159 rfl rfl rfl rfl (fun w hs => arcR_Front (j := 0) hs e1 (by omega) hk (.inr hlt)) ?_
      refine WLs.nil ?_
      refine WEs.then_n ?_
      refine WCs.seq ?_
      refine WCs.region ?_
      refine WLs.val (y_move rfl) rfl <| WLs.val (y_asgn rfl) rfl <| ?_
      refine WLs.nil ?_
      refine WEs.then_n ?_
      refine WCs.ret ?_
      refine WEs.ret1 (.inr rfl) rfl rfl ?_
      exact fun w hs => hs.unthird
    · have hc := of_decide_eq_false hc
      have e : a.fresh = ((a.forget 3), []) := by unfold Arc.fresh Arc.room; rw [if_neg c1, if_pos c3, if_pos c4, if_neg (fun h => hc (Int.ofNat_le.2 h))]
      rw [e] at e1 hlt ⊢
      refine WCs.skip ?_
      refine WEs.in_n ?_
      refine WEs.then_n ?_
      refine WCs.seq ?_
      refine WCs.region ?_
      refine WLs.val (y_move rfl) rfl <| WLs.val (y_nil rfl) rfl <| WLs.val (y_fld rfl fl191_2) rfl <| WLs.val (y_ld rfl sc187 (Sat.at 1 rfl) (by rfl)) rfl <| ?_
      refine WLs.val (y_move rfl) rfl <| ?_
      refine WLs.callE Tryz.func159 rfl rfl rfl rfl (fun w hs => arcR_Front (j := 0) hs e1 (by omega) hk (.inr hlt)) ?_
      refine WLs.nil ?_
      refine WEs.then_n ?_
      refine WCs.seq ?_
      refine WCs.region ?_
      refine WLs.val (y_move rfl) rfl <| WLs.val (y_asgn rfl) rfl <| ?_
      refine WLs.nil ?_
      refine WEs.then_n ?_
      refine WCs.ret ?_
      refine WEs.ret1 (.inr rfl) rfl rfl ?_
      exact fun w hs => hs.emp.implAt 0 rfl (sliceAt_nil 9 1)
  · have c4 : ¬ 2 * a.most ≤ a.all := by have := of_decide_eq_false hb; unfold Arc.all; omega
    have g1 := h
    refine WCs.skip ?_
    refine WEs.then_n ?_
    refine WCs.seq ?_
    refine WCs.draw (.one 0 3 (.one 2 3 (.one 3 3 (.one 4 3 (.one 5 0 (.one 1 1 (.one 6 3 .nil))))))) [] Tryz.mixed (by kernel_rfl) (by kernel_rfl) rfl (Pf.then (Pf.block (Pf.then Pf.body))) (fun _ h => h) ?_
    refine WSs.pure rfl (y_move rfl) rfl ?_
    refine WSs.pure rfl (y_move rfl) rfl ?_
    refine WSs.pure rfl (y_nil rfl) rfl ?_
    refine WSs.pure rfl (y_fld rfl fl191_0) rfl ?_
    refine WSs.val rfl (y_ld rfl sc3 (Sat.at 1 rfl) (by rfl)) rfl ?_
    refine WSs.callE rfl Tryz.func153 rfl rfl rfl rfl (fun w hs => arc_Len (a := a) hs g1 (by show a.n 0 + a.n 1 ≤ 10000; have := g1.flen; have := g1.all1; omega)) (fun _ h => h) ?_
    refine WSs.pure rfl (y_ge rfl rfl rfl) rfl ?_
    refine WSs.nil ?_
    refine WEs.then_n ?_
    refine WCs.cond rfl (fun hc => ?_) (fun hc => ?_)
    · have hc := of_decide_eq_true hc
      have e : a.fresh = a.replace false := by unfold Arc.fresh Arc.room; rw [if_neg c1, if_pos c3, if_neg c4, if_pos (Int.ofNat_le.1 hc)]
      rw [e] at e1 hlt ⊢
      refine WCs.region ?_
      refine WLs.val (y_move rfl) rfl <| ?_
      refine WLs.call Tryz.func210 rfl rfl rfl rfl (fun w hs => arc_replace (a := a) (b := false) hs g1) ?_
      rintro v139 w139 hs139
      have hs139 := hs139.third
      refine WLs.go hs139 ?_
      refine WLs.val (y_asgn rfl) rfl <| ?_
      refine WLs.nil ?_
      refine WEs.in_n ?_
      refine WEs.then_n ?_
      refine WCs.seq ?_
      refine WCs.region ?_
      refine WLs.val (y_move rfl) rfl <| WLs.val (y_nil rfl) rfl <| WLs.val (y_fld rfl fl191_2) rfl <| WLs.val (y_ld rfl sc187 (Sat.at 1 rfl) (by rfl)) rfl <| ?_
      refine WLs.val (y_move rfl) rfl <| ?_
      refine WLs.callE Tryz.func159 rfl rfl rfl rfl (fun w hs => arcR_Front (j := 0) hs e1 (by omega) hk (.inr hlt)) ?_
      refine WLs.nil ?_
      refine WEs.then_n ?_
      refine WCs.seq ?_
      refine WCs.region ?_
      refine WLs.val (y_move rfl) rfl <| WLs.val (y_asgn rfl) rfl <| ?_
      refine WLs.nil ?_
      refine WEs.then_n ?_
      refine WCs.ret ?_
      refine WEs.ret1 (.inr rfl) rfl rfl ?_
      exact fun w hs => hs.unthird
    · have hc := of_decide_eq_false hc
      have e : a.fresh = (a, []) := by unfold Arc.fresh Arc.room; rw [if_neg c1, if_pos c3, if_neg c4, if_neg (fun h => hc (Int.ofNat_le.2 h))]
      rw [e] at e1 hlt ⊢
      refine WCs.skip ?_
      refine WEs.in_n ?_
      refine WEs.then_n ?_
      refine WCs.seq ?_
      refine WCs.region ?_
      refine WLs.val (y_move rfl) rfl <| WLs.val (y_nil rfl) rfl <| WLs.val (y_fld rfl fl191_2) rfl <| WLs.val (y_ld rfl sc187 (Sat.at 1 rfl) (by rfl)) rfl <| ?_
      refine WLs.val (y_move rfl) rfl <| ?_
      refine WLs.callE Tryz.func159 rfl rfl rfl rfl (fun w hs => arcR_Front (j := 0) hs e1 (by omega) hk (.inr hlt)) ?_
      refine WLs.nil ?_
      refine WEs.then_n ?_
      refine WCs.seq ?_
      refine WCs.region ?_
      refine WLs.val (y_move rfl) rfl <| WLs.val (y_asgn rfl) rfl <| ?_
      refine WLs.nil ?_
      refine WEs.then_n ?_
      refine WCs.ret ?_
      refine WEs.ret1 (.inr rfl) rfl rfl ?_
      exact fun w hs => hs.emp.implAt 0 rfl (sliceAt_nil 9 1)

theorem arc_Insert_f4 {w : World} {L : List Asrt} {r p : Nat} {a : Arc} {k : Str} (hs : Sat w (arcL r p a L)) (hi : a.Inv) (hk : k.length ≤ 64) (hh : a.has k = false) (hw : k ∉ a.K.flatten) (c1 : ¬ a.most ≤ a.n 0 + a.n 2) (c3 : ¬ a.most ≤ a.all) : Does Tryz.prog 163 [rp p, str k] w fun v w' => Sat w' (sliceAt 9 1 v a.fresh.2.length (a.fresh.2.map str) :: arcL r p (a.fresh.1.front 0 k) L) := by
  have hn : k ∉ a.K.flatten := hw
  have h := hi.toOk
  have hfl := h.flen
  have hall := h.all1
  have hm2 := h.m2
  have hm1 := h.m1
  obtain ⟨e1, e2, e3, e4, e5, e6, e7⟩ := hi.fresh hw
  have hro := e1
  have hlt : a.fresh.1.K.flatten.length ≤ 2 * a.fresh.1.most := e1.all1
  have e : a.fresh = (a, []) := by unfold Arc.fresh; rw [if_neg c1, if_neg c3]
  rw [e] at e1 hlt ⊢
  refine Does.enters hs (n := 147) Tryz.func163 rfl rfl rfl rfl ?_
  refine WCs.seq ?_
  refine WCs.region ?_
  refine WLs.val (y_asgn rfl) rfl <| ?_
  refine WLs.nil ?_
  refine WEs.then_n ?_
  refine WCs.seq ?_
  refine WCs.seq ?_
  refine WCs.region ?_
  refine WLs.val (y_move rfl) rfl <| WLs.val (y_peq rfl rfl pt132) rfl <| WLs.val (y_move rfl) rfl <| WLs.guarded rfl rfl <| WLs.val (y_move rfl) rfl <| WLs.guarded rfl rfl <| WLs.val (y_lenS rfl st9) rfl <| WLs.guarded rfl rfl <| WLs.val (y_gt rfl rfl (decide_eq_false (by omega))) rfl <| ?_
  refine WLs.val (y_pick rfl rfl) rfl <| WLs.val (y_move rfl) rfl <| WLs.guarded rfl rfl <| WLs.val (y_move rfl) rfl <| WLs.guarded rfl rfl <| WLs.val (y_move rfl) rfl <| WLs.guarded rfl rfl <| ?_
  refine WLs.callE Tryz.func122 rfl rfl rfl rfl (fun w hs => arc_Touch_false hs h hh) ?_
  refine WLs.val (y_pick rfl rfl) rfl <| ?_
  refine WLs.nil ?_
  refine WEs.then_n ?_
  refine WCs.cond_f rfl rfl ?_
  refine WCs.skip ?_
  refine WEs.then_n ?_
  refine WCs.seq ?_
  refine WCs.seq ?_
  refine WCs.region ?_
  refine WLs.val (y_move rfl) rfl <| WLs.val (y_nil rfl) rfl <| WLs.val (y_fld rfl fl191_2) rfl <| WLs.val (y_ld rfl sc187 (Sat.at 1 rfl) (by rfl)) rfl <| ?_
  refine WLs.val (y_move rfl) rfl <| ?_
  refine WLs.callE Tryz.func156 rfl rfl rfl rfl (fun w hs => ringA_In_no hs hn) ?_
  refine WLs.val (y_move rfl) rfl <| WLs.val (y_ext rfl rfl) rfl <| WLs.val (y_ext rfl rfl) rfl <| WLs.val (y_asgn rfl) rfl <| WLs.val (y_asgn rfl) rfl <| ?_
  refine WLs.nil ?_
  refine WEs.then_n ?_
  refine WCs.seq ?_
  refine WCs.region ?_
  refine WLs.val (y_move rfl) rfl <| ?_
  refine WLs.nil ?_
  refine WEs.then_n ?_
  refine WCs.cond_f rfl rfl ?_
  refine WCs.skip ?_
  refine WEs.then_n ?_
  refine WCs.seq ?_
  refine WCs.region ?_
  refine WLs.val (y_asgn rfl) rfl <| ?_
  refine WLs.nil ?_
  refine WEs.then_n ?_
  refine WCs.seq ?_
  refine WCs.draw (.one 0 3 (.one 1 3 (.one 2 3 (.one 3 0 (.one 5 3 (.one 6 3 (.one 7 3 (.one 8 0 (.one 4 1 (.one 9 2 (.one 10 3 (.one 11 3 .nil)))))))))))) [9] Tryz.mixed (by kernel_rfl) (by kernel_rfl) rfl (Pf.then Pf.body) (fun _ h => h) ?_
  refine WSs.pure rfl (y_move rfl) rfl ?_
  refine WSs.pure rfl (y_nil rfl) rfl ?_
  refine WSs.pure rfl (y_fld rfl fl191_2) rfl ?_
  refine WSs.val rfl (y_ld rfl sc187 (Sat.at 1 rfl) (by rfl)) rfl ?_
  refine WSs.pure rfl (y_move rfl) rfl ?_
  refine WSs.pure rfl (y_nil rfl) rfl ?_
  refine WSs.pure rfl (y_fld rfl fl191_2) rfl ?_
  refine WSs.val rfl (y_ld rfl sc187 (Sat.at 1 rfl) (by rfl)) rfl ?_
  refine WSs.callE rfl Tryz.func160 rfl rfl rfl rfl (fun w hs => arcR_Len (j := 0) hs h (by omega)) (fun _ h => h) ?_
  refine WSs.callBE rfl Tryz.func160 rfl rfl rfl rfl (fun w hs => arcR_Len (j := 2) hs h (by omega)) ?_
  refine WSs.pure rfl (y_add rfl rfl (by first | exact wrap_i64 (by omega) | rfl)) rfl ?_
  refine WSs.pure rfl (y_asgn rfl) rfl ?_
  refine WSs.nil ?_
  refine WEs.then_n ?_
  refine WCs.seq ?_
  refine WCs.draw (.one 0 3 (.one 1 3 (.one 2 3 (.one 3 3 (.one 4 0 (.one 7 3 (.one 8 3 (.one 9 3 (.one 10 0 (.one 5 1 (.one 6 3 (.one 11 2 (.one 12 3 (.one 13 3 .nil)))))))))))))) [11] Tryz.mixed (by kernel_rfl) (by kernel_rfl) rfl (Pf.then Pf.body) (fun _ h => h) ?_
  refine WSs.pure rfl (y_move rfl) rfl ?_
  refine WSs.pure rfl (y_move rfl) rfl ?_
  refine WSs.pure rfl (y_nil rfl) rfl ?_
  refine WSs.pure rfl (y_fld rfl fl191_2) rfl ?_
  refine WSs.val rfl (y_ld rfl sc187 (Sat.at 1 rfl) (by rfl)) rfl ?_
  refine WSs.pure rfl (y_move rfl) rfl ?_
  refine WSs.pure rfl (y_nil rfl) rfl ?_
  refine WSs.pure rfl (y_fld rfl fl191_2) rfl ?_
  refine WSs.val rfl (y_ld rfl sc187 (Sat.at 1 rfl) (by rfl)) rfl ?_
  refine WSs.callE rfl Tryz.func160 rfl rfl rfl rfl (fun w hs => arcR_Len (j := 1) hs h (by omega)) (fun _ h => h) ?_
  refine WSs.pure rfl (y_add rfl rfl (by first | exact wrap_i64 (by omega) | rfl)) rfl ?_
  refine WSs.callBE rfl Tryz.func160 rfl rfl rfl rfl (fun w hs => arcR_Len (j := 3) hs h (by omega)) ?_
  refine WSs.pure rfl (y_add rfl rfl (by first | exact wrap_i64 (by omega) | rfl)) rfl ?_
  refine WSs.pure rfl (y_asgn rfl) rfl ?_
  refine WSs.nil ?_
  refine WEs.then_n ?_
  refine WCs.seq ?_
  refine WCs.block ?_
  refine WCs.seq ?_
  refine WCs.draw (.one 0 3 (.one 1 3 (.one 2 3 (.one 3 3 (.one 4 0 (.one 5 3 (.one 6 3 (.one 7 3 (.one 8 3 (.one 9 3 (.one 10 0 (.one 12 3 (.one 13 3 (.one 14 3 (.one 15 0 (.one 11 1 (.one 16 3 (.one 17 3 (.one 18 3 .nil))))))))))))))))))) [] Tryz.mixed (by kernel_rfl) (by kernel_rfl) rfl (Pf.then (Pf.block (Pf.then Pf.body))) (fun _ h => h) ?_
  refine WSs.pure rfl (y_move rfl) rfl ?_
  refine WSs.pure rfl (y_move rfl) rfl ?_
  refine WSs.pure rfl (y_nil rfl) rfl ?_
  refine WSs.pure rfl (y_fld rfl fl191_0) rfl ?_
  refine WSs.val rfl (y_ld rfl sc3 (Sat.at 1 rfl) (by rfl)) rfl ?_
  refine WSs.pure rfl (y_ge rfl rfl (decide_eq_false (by omega))) rfl ?_
  refine WSs.pure rfl (y_move rfl) rfl ?_
  refine WSs.pureN rfl rfl rfl rfl ?_
  refine WSs.pureN rfl rfl rfl rfl ?_
  refine WSs.pureN rfl rfl rfl rfl ?_
  refine WSs.valN rfl rfl rfl rfl ?_
  refine WSs.pureN rfl rfl rfl rfl ?_
  refine WSs.pureN rfl rfl rfl rfl ?_
  refine WSs.pureN rfl rfl rfl rfl ?_
  refine WSs.valN rfl rfl rfl rfl ?_
  refine WSs.skip1 rfl rfl rfl (.inl rfl) rfl (fun _ h => h) ?_
  refine WSs.pureN rfl rfl rfl rfl ?_
  refine WSs.pure rfl (y_pick rfl rfl) rfl ?_
  refine WSs.pure rfl (y_asgn rfl) rfl ?_
  refine WSs.nil ?_
  refine WEs.then_n ?_
  refine WCs.cond_f rfl rfl ?_
  refine WCs.seq ?_
  refine WCs.region ?_
  refine WLs.val (y_move rfl) rfl <| WLs.val (y_move rfl) rfl <| WLs.val (y_nil rfl) rfl <| WLs.val (y_fld rfl fl191_0) rfl <| WLs.val (y_ld rfl sc3 (Sat.at 1 rfl) (by rfl)) rfl <| ?_
  refine WLs.val (y_ge rfl rfl (decide_eq_false (by omega))) rfl <| ?_
  refine WLs.val (y_asgn rfl) rfl <| ?_
  refine WLs.nil ?_
  refine WEs.then_n ?_
  refine WCs.cond_f rfl rfl ?_
  refine WCs.seq ?_
  refine WCs.region ?_
  refine WLs.val (y_move rfl) rfl <| WLs.val (y_move rfl) rfl <| WLs.val (y_nil rfl) rfl <| WLs.val (y_fld rfl fl191_0) rfl <| WLs.val (y_ld rfl sc3 (Sat.at 1 rfl) (by rfl)) rfl <| ?_
  refine WLs.val (y_ge rfl rfl (decide_eq_false (by unfold Arc.all at c3; omega))) rfl <| ?_
  refine WLs.val (y_asgn rfl) rfl <| ?_
  refine WLs.nil ?_
  refine WEs.then_n ?_
  refine WCs.cond_f rfl rfl ?_
  refine WCs.skip ?_
  refine WEs.in_n ?_
  refine WEs.then_n ?_
  refine WCs.seq ?_
  refine WCs.region ?_
  refine WLs.val (y_move rfl) rfl <| WLs.val (y_nil rfl) rfl <| WLs.val (y_fld rfl fl191_2) rfl <| WLs.val (y_ld rfl sc187 (Sat.at 1 rfl) (by rfl)) rfl <| ?_
  refine WLs.val (y_move rfl) rfl <| ?_
  refine WLs.callE Tryz.func159 rfl rfl rfl rfl (fun w hs => arcR_Front (j := 0) hs e1 (by omega) hk (.inr hlt)) ?_
  refine WLs.nil ?_
  refine WEs.then_n ?_
  refine WCs.seq ?_
  refine WCs.region ?_
  refine WLs.val (y_move rfl) rfl <| WLs.val (y_asgn rfl) rfl <| ?_
  refine WLs.nil ?_
  refine WEs.then_n ?_
  refine WCs.ret ?_
  refine WEs.ret1 (.inr rfl) rfl rfl ?_
  exact fun w hs => hs.emp.implAt 0 rfl (sliceAt_nil 9 1)

theorem arc_Insert {w : World} {L : List Asrt} {r p : Nat} {a : Arc} {k : Str} (hs : Sat w (arcL r p a L)) (hi : a.Inv) :
    Does Tryz.prog 163 [rp p, str k] w fun v w' => Sat w' (sliceAt 9 1 v (a.insert k).2.length ((a.insert k).2.map str) :: arcL r p (a.insert k).1 L) := by
  unfold Arc.insert
  by_cases hk : 64 < k.length
  · rw [if_pos hk]; exact arc_Insert_long hs hi.toOk hk
  rw [if_neg hk]
  have hk : k.length ≤ 64 := by omega
  cases hh : a.has k with
  | true => exact arc_Insert_here hs hi.toOk hk hh
  | false =>
    rw [if_neg (by simp)]
    cases hw : whichK a.K k with
    | some l =>
      obtain ⟨hm, hl⟩ := hi.toOk.which hw hh
      exact arc_Insert_again hs hi.toOk hk hh hi.n01 hm hl
    | none =>
      have hw := which_isNone.1 hw
      by_cases c1 : a.most ≤ a.n 0 + a.n 2
      · by_cases c2 : a.n 0 < a.most
        · exact arc_Insert_f1 hs hi hk hh hw c1 c2
        · cases hx : (a.K.getD 0 []).getLast? with
          | none => have := Arc.n_last hx; have := hi.m1; omega
          | some x => exact arc_Insert_f2 hs hi hk hh hw c1 c2 hx
      · by_cases c3 : a.most ≤ a.all
        · exact arc_Insert_f3 hs hi hk hh hw c1 c3
        · exact arc_Insert_f4 hs hi hk hh hw c1 c3

theorem arc_Remove {w : World} {L : List Asrt} {r p : Nat} {a : Arc} {k : Str} (hs : Sat w (arcL r p a L)) (h : a.Ok) : Does Tryz.prog 68 [rp p, str k] w fun v w' => v = .bool (a.has k) ∧ Sat w' (arcL r p (a.drop k) L) := by
  refine Does.enters hs (n := 18) Tryz.func68 rfl rfl rfl rfl ?_
  refine WCs.seq ?_
  refine WCs.region ?_
  refine WLs.val (y_asgn rfl) rfl <| ?_
  refine WLs.nil ?_
  refine WEs.then_n ?_
  refine WCs.seq ?_
  refine WCs.region ?_
  refine WLs.val (y_move rfl) rfl <| WLs.val (y_move rfl) rfl <| ?_
  refine WLs.callE Tryz.func118 rfl rfl rfl rfl (fun w hs => arc_Has hs h) ?_
  refine WLs.val (y_asgn rfl) rfl <| ?_
  refine WLs.nil ?_
  refine WEs.then_n ?_
  refine WCs.seq ?_
  refine WCs.seq ?_
  refine WCs.region ?_
  refine WLs.val (y_move rfl) rfl <| WLs.val (y_pne rfl rfl pt132) rfl <| ?_
  refine WLs.nil ?_
  refine WEs.then_n ?_
  refine WCs.cond_t rfl rfl ?_
  refine WCs.region ?_
  refine WLs.val (y_move rfl) rfl <| WLs.val (y_nil rfl) rfl <| WLs.val (y_fld rfl fl191_2) rfl <| WLs.val (y_ld rfl sc187 (Sat.at 1 rfl) (by rfl)) rfl <| ?_
  refine WLs.val (y_move rfl) rfl <| ?_
  refine WLs.callE Tryz.func119 rfl rfl rfl rfl (fun w hs => arcR_Drop hs) ?_
  refine WLs.nil ?_
  refine WEs.then_n ?_
  refine WCs.seq ?_
  refine WCs.region ?_
  refine WLs.val (y_move rfl) rfl <| WLs.val (y_asgn rfl) rfl <| ?_
  refine WLs.nil ?_
  refine WEs.then_n ?_
  refine WCs.ret ?_
  refine WEs.ret1 (.inr rfl) rfl rfl ?_
  exact fun w hs => ⟨rfl, hs⟩

theorem arc_Evict_no {w : World} {L : List Asrt} {r p : Nat} {a : Arc} (hs : Sat w (arcL r p a L)) (h : a.Ok) (h0 : a.len = 0) : Does Tryz.prog 165 [rp p] w fun v w' => v = .tuple #[str [], .bool false] ∧ Sat w' (arcL r p a L) := by
  refine Does.enters hs (n := 11) Tryz.func165 rfl rfl rfl rfl ?_
  refine WCs.seq ?_
  refine WCs.region ?_
  refine WLs.val (y_asgn rfl) rfl <| WLs.val (y_asgn rfl) rfl <| ?_
  refine WLs.nil ?_
  refine WEs.then_n ?_
  refine WCs.seq ?_
  refine WCs.seq ?_
  refine WCs.region ?_
  refine WLs.val (y_move rfl) rfl <| ?_
  refine WLs.callE Tryz.func153 rfl rfl rfl rfl (fun w hs => arc_Len hs h (by omega)) ?_
  refine WLs.val (y_eq rfl rfl (decide_eq_true (by omega))) rfl <| ?_
  refine WLs.nil ?_
  refine WEs.then_n ?_
  refine WCs.cond_t rfl rfl ?_
  refine WCs.seq ?_
  refine WCs.region ?_
  refine WLs.val (y_asgn rfl) rfl <| WLs.val (y_asgn rfl) rfl <| ?_
  refine WLs.nil ?_
  refine WEs.then_n ?_
  refine WCs.ret ?_
  refine WEs.then_ret ?_
  refine WEs.ret2 (.inr rfl) rfl rfl rfl ?_
  exact fun w hs => ⟨rfl, hs⟩

theorem arc_Evict_yes {w : World} {L : List Asrt} {r p : Nat} {a : Arc} {k : Str} (hs : Sat w (arcL r p a L)) (h : a.Ok) (h0 : a.len ≠ 0) (hx : (a.replace false).2 = [k]) : Does Tryz.prog 165 [rp p] w fun v w' => v = .tuple #[str k, .bool true] ∧ Sat w' (arcL r p (a.replace false).1 L) := by
  refine Does.enters hs (n := 11) Tryz.func165 rfl rfl rfl rfl ?_
  refine WCs.seq ?_
  refine WCs.region ?_
  refine WLs.val (y_asgn rfl) rfl <| WLs.val (y_asgn rfl) rfl <| ?_
  refine WLs.nil ?_
  refine WEs.then_n ?_
  refine WCs.seq ?_
  refine WCs.seq ?_
  refine WCs.region ?_
  refine WLs.val (y_move rfl) rfl <| ?_
  refine WLs.callE Tryz.func153 rfl rfl rfl rfl (fun w hs => arc_Len hs h (by unfold Arc.len; have := h.flen; have := h.all1; have := h.m2; omega)) ?_
  refine WLs.val (y_eq rfl rfl (decide_eq_false (by omega))) rfl <| ?_
  refine WLs.nil ?_
  refine WEs.then_n ?_
  refine WCs.cond_f rfl rfl ?_
  refine WCs.skip ?_
  refine WEs.then_n ?_
  refine WCs.seq ?_
  refine WCs.region ?_
  refine WLs.val (y_move rfl) rfl <| ?_
  refine WLs.call Tryz.func210 rfl rfl rfl rfl (fun w hs => arc_replace (b := false) hs h) ?_
  rintro v8 w8 hs8
  rw [hx] at hs8
  obtain ⟨b, pre, sp, cap, rfl, he, hcap, hs8⟩ := hs8.openS 0 rfl (by simp)
  refine WLs.go hs8 ?_
  refine WLs.val (y_ix rfl rfl sl97 (by simp)) rfl <| ?_
  refine WLs.val (y_ld rfl sc9 (Sat.at 0 rfl) (show _ = some (str k) by simp)) rfl <| ?_
  refine WLs.val (y_asgn rfl) rfl <| WLs.val (y_asgn rfl) rfl <| ?_
  refine WLs.nil ?_
  refine WEs.then_n ?_
  refine WCs.ret ?_
  refine WEs.ret2 (.inr rfl) rfl rfl rfl ?_
  exact fun w hs => ⟨rfl, hs.tail⟩

theorem arc_New {w : World} {L : List Asrt} {m : Nat} (hs : Sat w L) (h1 : 1 ≤ m) (h2 : m ≤ 1000) : Does Tryz.prog 60 [natv m] w fun v w' => ∃ p, v = .tuple #[rp p, .int .i64 0] ∧ Sat w' (arcAt p ⟨m, 0, List.replicate 4 []⟩ :: L) := by
  refine Does.enters hs (n := 24) Tryz.func60 rfl rfl rfl rfl ?_
  refine WCs.seq ?_
  refine WCs.region ?_
  refine WLs.val (y_asgn rfl) rfl <| WLs.val (y_asgn rfl) rfl <| ?_
  refine WLs.nil ?_
  refine WEs.then_n ?_
  refine WCs.seq ?_
  refine WCs.seq ?_
  refine WCs.region ?_
  refine WLs.val (y_move rfl) rfl <| WLs.val (y_lt rfl rfl (decide_eq_false (by omega))) rfl <| ?_
  refine WLs.val (y_move rfl) rfl <| WLs.guarded rfl rfl <| WLs.val (y_move rfl) rfl <| WLs.guarded rfl rfl <| WLs.val (y_gt rfl rfl (decide_eq_false (by omega))) rfl <| ?_
  refine WLs.val (y_pick rfl rfl) rfl <| ?_
  refine WLs.nil ?_
  refine WEs.then_n ?_
  refine WCs.cond_f rfl rfl ?_
  refine WCs.skip ?_
  refine WEs.then_n ?_
  refine WCs.seq ?_
  refine WCs.region ?_
  refine WLs.val (y_move rfl) rfl <| WLs.val (y_mul rfl rfl (wrap_i64 (by omega))) rfl <| ?_
  refine WLs.val (y_add rfl rfl (show IntKind.i64.wrap (2 * (m : Int) + 1) = ((2 * m + 1 : Nat) : Int) by rw [wrap_i64 (by omega)]; omega)) rfl <| ?_
  refine WLs.callX Tryz.func111 rfl rfl rfl rfl (fun w hs => ringA_New (lists := 4) (places := 2 * m + 1) hs (by omega) (by omega) (by omega)) (fun r => ?_)
  refine WLs.val (y_move rfl) rfl <| WLs.val (y_ext rfl rfl) rfl <| WLs.val (y_ext rfl rfl) rfl <| WLs.val (y_asgn rfl) rfl <| WLs.val (y_asgn rfl) rfl <| ?_
  refine WLs.nil ?_
  refine WEs.then_n ?_
  refine WCs.seq ?_
  refine WCs.region ?_
  refine WLs.val (y_move rfl) rfl <| WLs.val (y_move rfl) rfl <| WLs.val (y_build (is := [0, 2]) (xs := [.tmp 19, .tmp 20]) #[(0, .tmp 19), (2, .tmp 20)] rfl rfl pl191 zr191 rfl) rfl <| ?_
  refine WLs.box rfl rfl (fun p => ?_)
  refine WLs.val (y_move rfl) rfl <| WLs.val (y_asgn rfl) rfl <| WLs.val (y_asgn rfl) rfl <| ?_
  refine WLs.nil ?_
  refine WEs.then_n ?_
  refine WCs.ret ?_
  refine WEs.ret2 (.inr rfl) rfl rfl rfl ?_
  exact fun w hs => ⟨p, rfl, arcAt_shut (r := r) (a := ⟨m, 0, List.replicate 4 []⟩) hs.swap⟩
end Go.Proofs.YteoplijfofohkaaGreat
