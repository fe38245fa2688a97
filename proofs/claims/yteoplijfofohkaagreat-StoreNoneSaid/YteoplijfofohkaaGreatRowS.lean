/- From a walk that leaves all memory as it was to the row of a law; what the cells of a struct of plain fields are. -/
import Derived.Test.YteoplijfofohkaaGreatSx
import Derived.ProofKit
namespace Go.Sx
open Go Go.ChangeShapes Go.WideShapes Go.ChangeAt Go.RowKit
section
variable {H : Type} {enc : TypeId × Value → H} {P : Program} {w : World} {base : Nat} {spare : Nat → Bool} {held : Bool}
inductive CK where
  | int (k : IntKind)
  | str
  | bool
def CK.is : CK → Value → Prop
  | .int k, v => ∃ n : Int, v = .int k n ∧ k.min ≤ n ∧ n ≤ k.max
  | .str, v => ∃ l : List UInt8, v = Sx.str l ∧ l.length ≤ maxLen
  | .bool, v => ∃ b, v = .bool b
def Cks : List CK → List Value → Prop
  | [], [] => True
  | c :: l, v :: vs => c.is v ∧ Cks l vs
  | _, _ => False
theorem Cks.append : ∀ {l m : List CK} {vs us : List Value}, Cks l vs → Cks m us → Cks (l ++ m) (vs ++ us)
  | [], _, [], _, _, h => h
  | _ :: _, _, _ :: _, _, h1, h => ⟨h1.1, h1.2.append h⟩
theorem Cks.cons {c : CK} {l : List CK} : ∀ {vs : List Value}, Cks (c :: l) vs → ∃ v us, vs = v :: us ∧ c.is v ∧ Cks l us
  | v :: us, h => ⟨v, us, rfl, h.1, h.2⟩
theorem Cks.nil : ∀ {vs : List Value}, Cks [] vs → vs = []
  | [], _ => rfl
/-- the cells of a type of plain fields, one behind the other -/
def flatFs (P : Program) (g : TypeId → Option (List CK)) : Nat → List Field → Option (List CK)
  | _, [] => some []
  | off, f :: fs => match g f.type with
    | none => none
    | some l => if f.offset = off ∧ P.cellsOf f.type = l.length then (flatFs P g (off + l.length) fs).map (l ++ ·) else none
def flat (P : Program) : Nat → TypeId → Option (List CK)
  | 0, _ => none
  | n + 1, t => match P.underlying t with
    | some (.int k) => some [.int k]
    | some .string => some [.str]
    | some .bool => some [.bool]
    | some (.struct fs) => match flatFs P (flat P n) 0 fs.toList with
      | some l => if P.cellsOf t = l.length then some l else none
      | none => none
    | _ => none
theorem flatFs_sound {g : TypeId → Option (List CK)} {cs : List Value} : ∀ (fs : List Field) (off : Nat) (l : List CK), flatFs P g off fs = some l →
    (∀ f ∈ fs, ∀ l', g f.type = some l' → Cks l' ((cs.drop f.offset).take (P.cellsOf f.type))) → Cks l ((cs.drop off).take l.length)
  | [], off, l, h, _ => by
    simp only [flatFs, Option.some.injEq] at h
    subst h
    simp [Cks]
  | f :: fs, off, l, h, hf => by
    simp only [flatFs] at h
    split at h
    · cases h
    · rename_i l1 hg
      split at h
      · rename_i hc
        simp only [Option.map_eq_some_iff] at h
        obtain ⟨l2, h2, rfl⟩ := h
        have a1 := hf f (.head _) l1 hg
        rw [hc.1, hc.2] at a1
        have a2 := flatFs_sound fs _ l2 h2 fun f' hm => hf f' (.tail _ hm)
        rw [← List.drop_drop] at a2
        rw [List.length_append, List.take_add]
        exact a1.append a2
      · cases h
theorem flat_sound : ∀ (n : Nat) (t : TypeId) (l : List CK) (fuel : Nat) (cs : List Value) (x : DataW H × List MemPlace), flat P n t = some l → DataW.trod enc P w base spare held fuel t cs = some x → Cks l cs
  | 0, _, _, _, _, _, h, _ => by cases h
  | n + 1, t, l, fuel, cs, x, h, hx => by
    unfold flat at h
    split at h
    · rename_i k hu
      obtain ⟨m, rfl, _, hw⟩ := DataW.trod_int hu hx
      cases h
      simp only [Lit.wf, Bool.and_eq_true, decide_eq_true_eq] at hw
      exact ⟨⟨m, rfl, hw.1, hw.2⟩, trivial⟩
    · rename_i hu
      obtain ⟨s, rfl, _, hs⟩ := DataW.trod_string hu hx
      cases h
      exact ⟨⟨s.data.toList, rfl, by simpa using hs⟩, trivial⟩
    · rename_i hu
      obtain ⟨b, rfl, _⟩ := DataW.trod_bool hu hx
      cases h
      exact ⟨⟨b, rfl⟩, trivial⟩
    · rename_i fs hu
      split at h
      · rename_i l' hl
        split at h
        · rename_i hlen
          cases h
          obtain ⟨xs, n', _, _, hcl, hxl, hf⟩ := DataW.trod_struct hu hx
          have := flatFs_sound (cs := cs) fs.toList 0 l hl fun f hm l'' hg => by
            obtain ⟨i, hi, he⟩ := List.getElem_of_mem hm
            have hi' : i < fs.size := by simpa using hi
            have h1 := hf i f (by rw [Array.getElem?_eq_getElem hi']; simpa using he)
            rw [List.getElem?_eq_getElem (by omega)] at h1
            exact flat_sound n f.type l'' n' _ _ hg h1
          rw [List.drop_zero, ← hlen, ← hcl, List.take_length] at this
          exact this
        · cases h
      · cases h
    · cases h
theorem open_flat {r : Reach} {b0 : Nat} {t : TypeId} {fs : Array Field} {v : Value} {d : DataW H} {p : List MemPlace} {l : List CK} (n : Nat) (hs : P.underlying t = some (.struct fs)) (hl : flat P n t = some l)
    (hv : Value.okWide P w r b0 t v) (h : DataW.Trod enc P w base spare held t v d p) : ∃ cs : List Value, v = .agg cs.toArray ∧ Cks l cs := by
  obtain ⟨cs, rfl, _⟩ := okWide_struct hs hv
  obtain ⟨fuel, hf⟩ := h
  exact ⟨cs.toList, by simp, flat_sound n t l fuel _ _ hl hf⟩
end

section
variable {H : Type} {enc : TypeId × Value → H} {P : Program}
theorem trodAll_stays (hl : laidOutB P = true) {W W' : World} {sp' : Nat → Bool} : ∀ {ts : List TypeId} {vs : List Value} {ds : List (DataW H)} {ps : List MemPlace}, (∀ t ∈ ts, P.readableRec t = true ∧ t < P.types.size) →
    DataW.TrodAll enc P W 0 (fun _ => true) true ts vs ds ps → (∀ p ∈ ps, W.sameAt W' p) → (∀ p ∈ ps, sp' p.block = true) → DataW.TrodAll enc P W' 0 sp' true ts vs ds ps
  | [], _, _, _, _, h, _, _ => by obtain ⟨rfl, rfl, rfl⟩ := trodAll_nil h; exact rfl
  | t :: ts, _, _, _, hr, h, h1, h2 => by
    obtain ⟨v, vs, d, ds, p, q, rfl, rfl, rfl, ha, hb⟩ := trodAll_cons h
    exact ⟨p, q, WideElems.Trod_stays hl (hr t (.head _)).1 (hr t (.head _)).2 ha (fun x hx => h1 x (List.mem_append_left _ hx)) (fun x hx => h2 x (List.mem_append_left _ hx)),
      trodAll_stays hl (fun t' ht => hr t' (.tail _ ht)) hb (fun x hx => h1 x (List.mem_append_right _ hx)) (fun x hx => h2 x (List.mem_append_right _ hx)), rfl⟩
/-- all memory -/
def all (w : World) : Asrt := ex (w.heap[·]?)
theorem Sat.start (w : World) : @Sat ⟨w⟩ w [all w] := ⟨⟨rfl, rfl⟩, [(all w, (w.heap[·]?))], rfl, by
  intro p hp
  rw [List.mem_singleton] at hp
  subst hp
  exact ⟨rfl, fun b o h => h⟩, by simp⟩
theorem Sat.kept {w w' : World} (h : @Sat ⟨w⟩ w' [all w]) : (w'.os = w.os ∧ w'.output = w.output) ∧ ∀ (b : Nat) (o : Obj), w.heap[b]? = some o → w'.heap[b]? = some o := by
  obtain ⟨h1, l, hl, h2, _⟩ := h
  refine ⟨h1, fun b o hb => ?_⟩
  cases l with
  | nil => cases hl
  | cons p l =>
    simp only [List.map_cons, List.cons.injEq] at hl
    have hp := h2 p (.head _)
    have he : p.2 = (w.heap[·]?) := by have := hp.1; rw [hl.1] at this; exact this
    exact hp.2 b o (by rw [he]; exact hb)
/-- A law's row, behind a walk that returned true and left all that there was. -/
theorem post_law (hl : laidOutB P = true) {f : Func} {s : ChangeSpec} {W W' : World} {args : Array Value} {tb : TypeId} {ds gs : List (DataW H)} {before : List MemPlace}
    (hv : s.vars = []) (hs : s.fn H (ds ++ gs) = { results := [.lit (.bool true)], args := ds }) (hr : f.resultTypes = #[tb]) (hb : P.underlying tb = some .bool) (hp : f.params.toList.all (fun t => P.readableRec t && decide (t < P.types.size)) = true)
    (hW : DataW.Whole enc P f.params.toList s.vars false W args.toList ds gs before) (hk : @Sat ⟨W⟩ W' [all W]) : s.post enc P f false true false false W args (.bool true) W' := by
  obtain ⟨⟨h1, h2⟩, h3⟩ := hk.kept
  obtain ⟨p, q, hA, hV, he, _, _⟩ := id hW
  rw [hv] at hV
  obtain ⟨rfl, rfl⟩ := trodVars_none hV
  have hlt : ∀ x ∈ p, x.block < W.heap.size := fun x hx => hW.lt x (by rw [he]; simpa using hx)
  have hblk : ∀ b, b < W.heap.size → W'.heap[b]? = W.heap[b]? := fun b hb => by rw [Array.getElem?_eq_getElem hb]; exact h3 b _ (Array.getElem?_eq_getElem hb)
  refine ⟨ds, [], before, [], p, [], hW, ?_, ?_, ?_, ⟨h1, h2, fun i hi => ?_⟩, fun h => by cases h⟩
  · rw [hs, hr]; exact trodAll_mk1 (shut_bool hb true)
  · rw [hs]
    refine trodAll_stays hl (fun t ht => ?_) hA (fun x hx => ?_) (fun x hx => by simpa using hlt x hx)
    · have := List.all_eq_true.1 hp t ht
      simpa using this
    · cases x with
      | cell b o => exact World.cell?_of_block (w := W) (hblk b (hlt _ hx))
      | map b => exact hblk b (hlt _ hx)
  · rw [hs, hv]; exact rfl
  · rw [hblk i hi]
    split <;> simp_all
/-- the call itself -/
theorem law_calls {f : FuncId} {vs : List Value} {W : World} {K : Ending → World → Prop} (h : ∀ [Env], ∀ {w : World} {L : List Asrt}, Sat w L → Does P f vs w fun v w' => v = .bool true ∧ Sat w' L) (hK : ∀ w', @Sat ⟨W⟩ w' [all W] → K (.returned (.bool true)) w') :
    Calls P f vs.toArray W K :=
  Calls.mono (@h ⟨W⟩ W [all W] (Sat.start W)) fun e w' he => by
    cases e with
    | returned v => obtain ⟨rfl, hs⟩ := he; exact hK w' hs
    | panicked c => exact he.elim
    | outgrown => exact he.elim
end
end Go.Sx
