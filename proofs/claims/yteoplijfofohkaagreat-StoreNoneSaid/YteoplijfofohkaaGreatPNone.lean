/- StoreNone answers true at every input: whatever configuration and whatever operation comes in. No condition beyond the row's own. -/
import Derived.Test.YteoplijfofohkaaGreatRows
import Derived.Test.YteoplijfofohkaaGreatSNone
import Derived.Test.YteoplijfofohkaaGreatRowS
namespace Go.Proofs.YteoplijfofohkaaGreat
open Go Go.Sx Go.Hw Go.ChangeShapes Go.WideShapes Go.ChangeAt Go.RowKit
theorem Tryz.own : ownKnob Tryz.prog.godebug = none := by kernel_rfl
theorem Tryz.laidOut : laidOutB Tryz.prog = true := by kernel_rfl
theorem law_StoreNone [Env] {w : World} {L : List Asrt} {c : Conf} {a : Act1} (hs : Sat w L) : Does Tryz.prog 4 [confv c, act1V a] w fun v w' => v = .bool true ∧ Sat w' L := by
  cases hc : c.ok with
  | false => exact law_StoreNone_no hc hs
  | true =>
    have h := hc
    simp only [Conf.ok, Bool.and_eq_true, Bool.or_eq_true, decide_eq_true_eq] at h
    have h1 : c.entries = (c.entries.toNat : Int) := by omega
    rcases h.1.1.1.1 with h2 | h2
    · exact law_StoreNone_1 hc h2 h1 (by omega) (by omega) hs
    · exact law_StoreNone_2 hc h2 h1 (by omega) (by omega) hs
theorem open_conf {cs : List Value} (h : Cks [.int .i64, .int .i64, .int .i64, .int .u64] cs) : ∃ c : Conf, cs = (confC c).toList := by
  obtain ⟨_, cs1, rfl, ⟨a, rfl, _⟩, h1⟩ := h.cons
  obtain ⟨_, cs2, rfl, ⟨b, rfl, _⟩, h2⟩ := h1.cons
  obtain ⟨_, cs3, rfl, ⟨c, rfl, _⟩, h3⟩ := h2.cons
  obtain ⟨_, cs4, rfl, ⟨d, rfl, hd, _⟩, h4⟩ := h3.cons
  obtain rfl := h4.nil
  refine ⟨⟨a, b, c, d.toNat⟩, ?_⟩
  have : d = (d.toNat : Int) := by have : (0 : Int) ≤ d := hd; omega
  simp only [confC, u64v, ← this]
theorem open_act {cs : List Value} (h : Cks [.int .u64, .int .u64, .int .u64, .int .i64, .str, .str, .int .u64, .int .u64, .int .i64] cs) : ∃ a : Act1, cs = act1C a := by
  obtain ⟨_, cs1, rfl, ⟨a, rfl, _⟩, h1⟩ := h.cons
  obtain ⟨_, cs2, rfl, ⟨b, rfl, _⟩, h2⟩ := h1.cons
  obtain ⟨_, cs3, rfl, ⟨c, rfl, _⟩, h3⟩ := h2.cons
  obtain ⟨_, cs4, rfl, ⟨d, rfl, _⟩, h4⟩ := h3.cons
  obtain ⟨_, cs5, rfl, ⟨e, rfl, _⟩, h5⟩ := h4.cons
  obtain ⟨_, cs6, rfl, ⟨f, rfl, _⟩, h6⟩ := h5.cons
  obtain ⟨_, cs7, rfl, ⟨g, rfl, _⟩, h7⟩ := h6.cons
  obtain ⟨_, cs8, rfl, ⟨i, rfl, _⟩, h8⟩ := h7.cons
  obtain ⟨_, cs9, rfl, ⟨j, rfl, _⟩, h9⟩ := h8.cons
  obtain rfl := h9.nil
  exact ⟨⟨a, b, c, ⟨d, e, f, g, i⟩, j⟩, rfl⟩
theorem flat24 : flat Tryz.prog 3 24 = some [.int .i64, .int .i64, .int .i64, .int .u64] := by kernel_rfl
theorem flat59 : flat Tryz.prog 3 59 = some [.int .u64, .int .u64, .int .u64, .int .i64, .str, .str, .int .u64, .int .u64, .int .i64] := by kernel_rfl
set_option maxRecDepth 100000 in
theorem storeNone_lifted (os : Os) (started : os.Started) (H : Type) (enc : TypeId × Value → H) :
    ReturnsInHanded {} Tryz.checked os 4 .any (Rows.storeNoneSpec.pre6 enc Tryz.prog Tryz.f4 Rows.storeNoneRow.domain false) (Rows.storeNoneSpec.post enc Tryz.prog Tryz.f4 false true false false) := by
  refine returnsInHanded_of_change (C := Tryz.checked) Tryz.own started (by kernel_rfl) Tryz.func4
    (ChangeSpec.witness6 (enc := enc) (C := Tryz.checked) false ⟨#[], #[.agg #[.int .i64 0, .int .i64 0, .int .i64 0, .int .u64 0], .agg #[.int .u64 0, .int .u64 0, .int .u64 0, .int .i64 0, .string ⟨#[]⟩, .string ⟨#[]⟩, .int .u64 0, .int .u64 0, .int .i64 0]], []⟩ 8 (by kernel_rfl) (by kernel_rfl) (by kernel_rfl) (by kernel_rfl)) ?_
  intro W base args ds gs before hval0 hW hcnd _
  have hval : ∀ (j : Nat) t v, Tryz.f4.params[j]? = some t → args[j]? = some v → Value.okWide Tryz.prog W .any base t v := hval0
  have hW' := hW
  obtain ⟨p, q, hA0, hV, rfl, hfz, hnd⟩ := hW
  have hA : DataW.TrodAll enc Tryz.prog W 0 (fun _ => true) true Tryz.f4.params.toList args.toList ds p := hA0
  rw [Tryz.params4] at hA hval
  obtain ⟨v0, v1, d0, d1, p0, p1, rfl, rfl, rfl, h0, h1⟩ := trodAll_two hA
  obtain ⟨rfl, rfl⟩ := trodVars_none hV
  obtain ⟨cs0, rfl, k0⟩ := open_flat 3 Tryz.underlying24 flat24 (hval 0 24 v0 rfl rfl) h0
  obtain ⟨cs1, rfl, k1⟩ := open_flat 3 Tryz.underlying59 flat59 (hval 1 59 v1 rfl rfl) h1
  obtain ⟨c, rfl⟩ := open_conf k0
  obtain ⟨a, rfl⟩ := open_act k1
  exact law_calls (vs := [confv c, act1V a]) (fun hs => law_StoreNone hs) fun w' hw' =>
    ⟨_, rfl, post_law (tb := 4) Tryz.laidOut rfl rfl (by kernel_rfl) Tryz.underlying4 (by kernel_rfl) hW' hw'⟩
theorem storeNone_holds : Rows.StoreNoneSaid :=
  OpenClaim.holds_of_wide 4 Tryz.f4 rfl rfl rfl rfl rfl rfl rfl ⟨rfl, rfl, rfl, rfl, rfl⟩ rfl rfl rfl rfl rfl (by kernel_rfl) Tryz.func4 (by kernel_rfl)
    (of_decide_eq_true (by kernel_rfl)) (by unfold Func.isWrapper; first | (rw [if_pos (by decide +kernel)]; kernel_rfl) | (rw [if_neg (by decide +kernel)]; exact ⟨rfl, rfl⟩))
    (fun os started H enc _ => storeNone_lifted os started H enc)
#print axioms storeNone_holds
end Go.Proofs.YteoplijfofohkaaGreat
