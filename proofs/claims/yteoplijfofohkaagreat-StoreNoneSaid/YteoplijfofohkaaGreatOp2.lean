/- More operations: append, reslicing, texts' bytes and parts, aggregates, shifts. -/
import Derived.Test.YteoplijfofohkaaGreatSl
namespace Go.Sx
open Go
variable [Env]
section
variable {P : Program} {S : World → Prop} {n : Nat} {rs : RS} {t : TypeId}

omit [Env] in
/-- bounds of a reslicing -/
theorem run_bound {k : IntKind} {i : Int} {y : Nat} {c : BoundsCode} {w : World} (h : 0 ≤ i ∧ i ≤ y) : (Instr.sliceBound (.int k i) y c).run P w = .ok i.toNat w := by
  unfold Instr.sliceBound
  rw [run_bindOk run_asIntOf]
  simp [h, run_pure]
omit [Env] in
theorem run_bounds_lh {b : Bool} {len cap : Nat} {k k' : IntKind} {i j : Int} {w : World} (h : 0 ≤ i ∧ i ≤ j ∧ j ≤ cap) : (Instr.sliceBounds b len cap (some (.int k i)) (some (.int k' j)) none).run P w = .ok (i.toNat, j.toNat, cap) w := by
  unfold Instr.sliceBounds
  simp only []
  rw [run_bindOk (run_pure _), run_bindOk (run_bound (y := cap) ⟨by omega, h.2.2⟩), run_bindOk (run_bound (y := j.toNat) ⟨h.1, by omega⟩)]
  rfl
omit [Env] in
theorem run_bounds_h {b : Bool} {len cap : Nat} {k' : IntKind} {j : Int} {w : World} (h : 0 ≤ j ∧ j ≤ cap) : (Instr.sliceBounds b len cap none (some (.int k' j)) none).run P w = .ok (0, j.toNat, cap) w := by
  unfold Instr.sliceBounds
  simp only []
  rw [run_bindOk (run_pure _), run_bindOk (run_bound (y := cap) h), run_bindOk (run_pure _)]
  rfl
omit [Env] in
theorem run_bounds_l {b : Bool} {len cap : Nat} {k : IntKind} {i : Int} {w : World} (h : 0 ≤ i ∧ i ≤ len) : (Instr.sliceBounds b len cap (some (.int k i)) none none).run P w = .ok (i.toNat, len, cap) w := by
  unfold Instr.sliceBounds
  simp only []
  rw [run_bindOk (run_pure _), run_bindOk (run_pure _), run_bindOk (run_bound (y := len) h)]
  rfl
omit [Env] in
theorem run_bounds_0 {b : Bool} {len cap : Nat} {w : World} : (Instr.sliceBounds b len cap none none none).run P w = .ok (0, len, cap) w := by
  unfold Instr.sliceBounds
  simp only []
  rw [run_bindOk (run_pure _), run_bindOk (run_pure _), run_bindOk (run_pure _)]
  rfl

omit [Env] in
theorem run_sliceS {T : TypeId} {s : List UInt8} {lo hi : Option Value} {l h m : Nat} {w : World} (ht : tStr P T = true) (hb : (Instr.sliceBounds false s.length s.length lo hi none).run P w = .ok (l, h, m) w) :
    (Instr.sliceAt T (str s) lo hi none).run P w = .ok (str ((s.take h).drop l)) w := by
  unfold tStr at ht
  cases hu : P.underlying T with
  | none => simp [hu] at ht
  | some D =>
    cases D <;> simp [hu] at ht
    rw [Instr.sliceAt, run_bindOk (run_und hu)]
    simp only []
    rw [Instr.slice, run_bindOk (run_und hu)]
    simp only [str, str_size, Option.isSome_none, Bool.false_eq_true, if_false]
    rw [run_bindOk hb]
    simp [run_pure, str_extract]
omit [Env] in
theorem y_sS {x : Operand} {lo hi : Option Operand} {T : TypeId} {s : List UInt8} {vl vh : Option Value} {l h m : Nat} (hx : ev rs x = some (str s)) (ht : tStr P T = true)
    (hl : match lo, vl with | some o, some v => ev rs o = some v | none, none => True | _, _ => False) (hh : match hi, vh with | some o, some v => ev rs o = some v | none, none => True | _, _ => False)
    (hb : ∀ w, (Instr.sliceBounds false s.length s.length vl vh none).run P w = .ok (l, h, m) w) {r : List UInt8} (hr : (s.take h).drop l = r) : Yv P S n rs (.slice T x lo hi none) t (str r) := fun a ha w _ d pos af g => by
  have h1 : lo.map a.eval = vl := by cases lo <;> cases vl <;> simp at hl ⊢; exact ev_sound ha hl
  have h2 : hi.map a.eval = vh := by cases hi <;> cases vh <;> simp at hh ⊢; exact ev_sound ha hh
  simp only [execOp, ev_sound ha hx, h1, h2, Option.map_none, ← hr]
  exact run_value (run_sliceS ht (hb w))
omit [Env] in
/-- s[i:j], s[i:], s[:j] -/
theorem y_sij {x y z : Operand} {T : TypeId} {s r : List UInt8} {k k' : IntKind} {i j : Int} (hx : ev rs x = some (str s)) (hy : ev rs y = some (.int k i)) (hz : ev rs z = some (.int k' j)) (ht : tStr P T = true) (h : 0 ≤ i ∧ i ≤ j ∧ j ≤ s.length)
    (hr : (s.take j.toNat).drop i.toNat = r) : Yv P S n rs (.slice T x (some y) (some z) none) t (str r) :=
  y_sS (vl := some (.int k i)) (vh := some (.int k' j)) hx ht hy hz (fun _ => run_bounds_lh h) hr
omit [Env] in
theorem y_si {x y : Operand} {T : TypeId} {s r : List UInt8} {k : IntKind} {i : Int} (hx : ev rs x = some (str s)) (hy : ev rs y = some (.int k i)) (ht : tStr P T = true) (h : 0 ≤ i ∧ i ≤ s.length)
    (hr : (s.take s.length).drop i.toNat = r) : Yv P S n rs (.slice T x (some y) none none) t (str r) :=
  y_sS (vl := some (.int k i)) (vh := none) hx ht hy trivial (fun _ => run_bounds_l h) hr
omit [Env] in
theorem y_sj {x z : Operand} {T : TypeId} {s r : List UInt8} {k' : IntKind} {j : Int} (hx : ev rs x = some (str s)) (hz : ev rs z = some (.int k' j)) (ht : tStr P T = true) (h : 0 ≤ j ∧ j ≤ s.length)
    (hr : (s.take j.toNat).drop 0 = r) : Yv P S n rs (.slice T x none (some z) none) t (str r) :=
  y_sS (vl := none) (vh := some (.int k' j)) hx ht trivial hz (fun _ => run_bounds_h h) hr

omit [Env] in
theorem run_sliceL {T E sz : Nat} {p : Option Addr} {len cap : Nat} {lo hi : Option Value} {l h m : Nat} {w : World} (ht : tSlice P T E sz = true) (hb : (Instr.sliceBounds true len cap lo hi none).run P w = .ok (l, h, m) w) :
    (Instr.sliceAt T (.slice p len cap) lo hi none).run P w = .ok (.slice (if m = l then p else p.map (·.add (l * sz))) (h - l) (m - l)) w := by
  unfold tSlice at ht
  cases hu : P.underlying T with
  | none => simp [hu] at ht
  | some D =>
    cases D <;> simp [hu] at ht
    obtain ⟨rfl, h2⟩ := ht
    rw [Instr.sliceAt, run_bindOk (run_und hu)]
    simp only []
    rw [Instr.slice, run_bindOk (run_und hu)]
    simp only []
    rw [run_bindOk hb, run_bindOk (run_sizeOf (by simpa [tSize] using h2))]
    rfl
omit [Env] in
theorem y_sL {x : Operand} {lo hi : Option Operand} {T E sz : Nat} {p : Option Addr} {len cap : Nat} {vl vh : Option Value} {l h m : Nat} {v : Value} (hx : ev rs x = some (.slice p len cap)) (ht : tSlice P T E sz = true)
    (hl : match lo, vl with | some o, some v => ev rs o = some v | none, none => True | _, _ => False) (hh : match hi, vh with | some o, some v => ev rs o = some v | none, none => True | _, _ => False)
    (hb : ∀ w, (Instr.sliceBounds true len cap vl vh none).run P w = .ok (l, h, m) w) (hv : Value.slice (if m = l then p else p.map (·.add (l * sz))) (h - l) (m - l) = v) : Yv P S n rs (.slice T x lo hi none) t v := fun a ha w _ d pos af g => by
  have h1 : lo.map a.eval = vl := by cases lo <;> cases vl <;> simp at hl ⊢; exact ev_sound ha hl
  have h2 : hi.map a.eval = vh := by cases hi <;> cases vh <;> simp at hh ⊢; exact ev_sound ha hh
  simp only [execOp, ev_sound ha hx, h1, h2, Option.map_none, ← hv]
  exact run_value (run_sliceL ht (hb w))
omit [Env] in
/-- x[:j] -/
theorem y_lj {x z : Operand} {T E sz : Nat} {p : Option Addr} {len cap : Nat} {k' : IntKind} {j : Int} (hx : ev rs x = some (.slice p len cap)) (hz : ev rs z = some (.int k' j)) (ht : tSlice P T E sz = true) (h : 0 ≤ j ∧ j ≤ cap) :
    Yv P S n rs (.slice T x none (some z) none) t (.slice p j.toNat cap) :=
  y_sL (vl := none) (vh := some (.int k' j)) hx ht trivial hz (fun _ => run_bounds_h h) (by
    cases p with
    | none => simp
    | some a => split <;> simp [Addr.add])
omit [Env] in
/-- x[i:] -/
theorem y_li {x y : Operand} {T E sz : Nat} {b o : Nat} {len cap : Nat} {k' : IntKind} {i : Int} (hx : ev rs x = some (.slice (some ⟨b, o, none⟩) len cap)) (hy : ev rs y = some (.int k' i)) (ht : tSlice P T E sz = true) (h : 0 ≤ i ∧ i ≤ len) {v : Value}
    (hv : Value.slice (if cap = i.toNat then some ⟨b, o, none⟩ else some ⟨b, o + i.toNat * sz, none⟩) (len - i.toNat) (cap - i.toNat) = v) :
    Yv P S n rs (.slice T x (some y) none none) t v :=
  y_sL (vl := some (.int k' i)) (vh := none) hx ht hy trivial (fun _ => run_bounds_l h) (by
    rw [← hv]
    split <;> simp [addr_add])

omit [Env] in
/-- a byte of a text -/
theorem y_sx {x y : Operand} {T : TypeId} {s : List UInt8} {k : IntKind} {i : Int} {c : UInt8} (hx : ev rs x = some (str s)) (hy : ev rs y = some (.int k i)) (ht : tStr P T = true) (h0 : 0 ≤ i) (hc : s[i.toNat]? = some c) :
    Yv P S n rs (.index T x y) t (.int .u8 c.toNat) := fun a ha w _ d pos af g => by
  simp only [execOp, ev_sound ha hx, ev_sound ha hy, str]
  refine run_value ?_
  unfold tStr at ht
  cases hu : P.underlying T with
  | none => simp [hu] at ht
  | some D =>
    cases D <;> simp [hu] at ht
    rw [Instr.index, run_bindOk run_asIntOf]
    simp only []
    rw [run_bindOk (run_und hu)]
    have : (⟨s.toArray⟩ : ByteArray)[i.toNat]? = some c := by
      have hl : i.toNat < s.length := by
        rcases Nat.lt_or_ge i.toNat s.length with h | h
        · exact h
        · simp [List.getElem?_eq_none h] at hc
      rw [getElem?_pos (⟨s.toArray⟩ : ByteArray) i.toNat (by rw [str_size]; exact hl)]
      rw [List.getElem?_eq_getElem hl] at hc
      simpa [ByteArray.getElem_eq_getElem_data] using hc
    simp only [h0, if_true, this]
    rfl

/-- a part of an aggregate -/
def tFld2 (P : Program) (T i off sz : Nat) (agg : Bool) : Bool :=
  match P.underlying T with
  | some (.struct fs) => (fs[i]?).any fun f => f.offset == off && (if agg then tAgg P f.type sz else tScal P f.type)
  | _ => false
omit [Env] in
theorem y_fv {x : Operand} {T i off : Nat} {cs : Array Value} {v : Value} (hx : ev rs x = some (.agg cs)) (hf : tFld2 P T i off 1 false = true) (hv : cs[off]? = some v) : Yv P S n rs (.field T x i) t v := fun a ha w _ d pos af g => by
  simp only [execOp, ev_sound ha hx]
  refine run_value ?_
  unfold tFld2 at hf
  cases hu : P.underlying T with
  | none => simp [hu] at hf
  | some D =>
    cases D <;> simp [hu] at hf
    rename_i fs
    cases hi : fs[i]? with
    | none => simp [hi] at hf
    | some f =>
      simp [hi] at hf
      obtain ⟨h1, h2⟩ := hf
      rw [Instr.field, run_bindOk (run_und hu)]
      simp only [hi]
      rw [run_bindOk (a := cs) (w' := w) (by simp [asAgg, run_pure])]
      rw [part, run_bindOk (run_isAgg_f h2), h1]
      simp [hv, run_pure]
omit [Env] in
theorem y_fa {x : Operand} {T i off sz : Nat} {cs vs : Array Value} (hx : ev rs x = some (.agg cs)) (hf : tFld2 P T i off sz true = true) (hv : cs.extract off (off + sz) = vs) : Yv P S n rs (.field T x i) t (.agg vs) := fun a ha w _ d pos af g => by
  simp only [execOp, ev_sound ha hx]
  refine run_value ?_
  unfold tFld2 at hf
  cases hu : P.underlying T with
  | none => simp [hu] at hf
  | some D =>
    cases D <;> simp [hu] at hf
    rename_i fs
    cases hi : fs[i]? with
    | none => simp [hi] at hf
    | some f =>
      simp [hi] at hf
      obtain ⟨h1, h2⟩ := hf
      rw [Instr.field, run_bindOk (run_und hu)]
      simp only [hi]
      rw [run_bindOk (a := cs) (w' := w) (by simp [asAgg, run_pure])]
      rw [part, run_bindOk (run_isAgg_t h2)]
      simp only [if_true]
      rw [run_bindOk (run_sizeOf (tAgg_size h2)), h1, hv]; rfl

/-- parts laid into cells, one behind the other -/
def bldC (place : Nat → Option (Nat × Nat)) : Array Value → List (Nat × Value) → Option (Array Value)
  | c, [] => some c
  | c, (i, v) :: r => match place i with
    | none => none
    | some (off, size) => if v.cells.size = size && Nat.ble (off + v.cells.size) c.size then bldC place (blit c off v.cells.toList) r else none
omit [Env] in
theorem foldl_blit : ∀ (l : List Value) (k off : Nat) (c : Array Value), (l.zipIdx k).foldl (fun cs (x : Value × Nat) => cs.setIfInBounds (off + x.2) x.1) c = blit c (off + k) l
  | [], k, off, c => rfl
  | v :: l, k, off, c => by
    rw [List.zipIdx_cons, List.foldl_cons, foldl_blit l (k + 1) off]; rfl
omit [Env] in
theorem fill_bldC {place : Nat → Option (Nat × Nat)} : ∀ (parts : List (Nat × Value)) (c r : Array Value), bldC place c parts = some r → Instr.fill place c parts = some r
  | [], c, r, h => h
  | (i, v) :: l, c, r, h => by
    unfold bldC at h
    unfold Instr.fill
    cases hp : place i with
    | none => simp [hp] at h
    | some p =>
      obtain ⟨off, size⟩ := p
      simp only [hp] at h ⊢
      split at h
      · rename_i hc
        simp only [Bool.and_eq_true, decide_eq_true_eq, Nat.ble_eq] at hc
        rw [if_neg (by simp; omega)]
        have : v.cells.zipIdx.foldl (fun cs (x : Value × Nat) => cs.setIfInBounds (off + x.2) x.1) c = blit c off v.cells.toList := by
          rw [← Array.foldl_toList, Array.toList_zipIdx, foldl_blit]; rfl
        have h2 := fill_bldC l _ r h
        rw [← this] at h2
        exact h2
      · cases h
def placeF (P : Program) (fs : Array Field) (i : Nat) : Option (Nat × Nat) := (fs[i]?).bind fun f => (P.info? f.type).map fun k => (f.offset, k.size)
/-- the places of a struct's fields -/
def tPlaces (P : Program) (T : TypeId) (pl : Array (Nat × Nat)) : Prop := ∃ fs, P.underlying T = some (.struct fs) ∧ ∀ w : World, (fs.mapM (fun f => do pure (f.offset, ← sizeOf f.type)) : Sem (Array (Nat × Nat))).run P w = .ok pl w
def placesB (P : Program) (T : TypeId) : Option (List (Nat × Nat)) :=
  match P.underlying T with
  | some (.struct fs) => fs.toList.mapM fun f => (P.info? f.type).map fun i => (f.offset, i.size)
  | _ => none
omit [Env] in
theorem tPlaces_of {T : TypeId} {pl : List (Nat × Nat)} (h : placesB P T = some pl) : tPlaces P T pl.toArray := by
  unfold placesB at h
  cases hu : P.underlying T with
  | none => simp [hu] at h
  | some D =>
    cases D <;> simp only [hu] at h <;> try (cases h)
    rename_i fs
    refine ⟨fs, hu, fun w => ?_⟩
    have key : ∀ (l : List Field) (pl : List (Nat × Nat)), (l.mapM fun f => (P.info? f.type).map fun i => (f.offset, i.size)) = some pl →
        (l.mapM (fun f => do pure (f.offset, ← sizeOf f.type)) : Sem (List (Nat × Nat))).run P w = .ok pl w := by
      intro l
      induction l with
      | nil => intro pl h; simp at h; subst h; rfl
      | cons f l ih =>
        intro pl h
        rw [List.mapM_cons] at h ⊢
        cases hi : P.info? f.type with
        | none => simp [hi] at h
        | some i =>
          simp only [hi, Option.map_some] at h
          cases hl : (l.mapM fun f => (P.info? f.type).map fun i => (f.offset, i.size)) with
          | none => simp [hl] at h
          | some pl' =>
            simp [hl] at h
            subst h
            have h1 : (do pure (f.offset, ← sizeOf f.type) : Sem (Nat × Nat)).run P w = .ok (f.offset, i.size) w := by
              rw [run_bindOk (run_sizeOf (n := i.size) (by simp [tSize, hi]))]; rfl
            rw [run_bindOk h1, run_bindOk (ih pl' hl)]; rfl
    have := key fs.toList pl h
    rw [Array.mapM_eq_mapM_toList]
    generalize (List.mapM (fun f => do pure (f.offset, ← sizeOf f.type)) fs.toList : Sem (List (Nat × Nat))) = s at this ⊢
    simp [go_sem, this]
omit [Env] in
theorem y_build {T : TypeId} {z : Value} {pl : Array (Nat × Nat)} {is : List Nat} {xs : List Operand} {vs : List Value} {r : Array Value} (parts : Array (Nat × Operand)) (hp : parts = (is.zip xs).toArray) (hx : evs rs xs = some vs)
    (hT : tPlaces P T pl) (hz : tZero P T z) (hr : bldC (pl[·]?) z.cells (is.zip vs) = some r) : Yv P S n rs (.build T parts) t (.agg r) := fun a ha w _ d pos af g => by
  obtain ⟨fs, hu, hpl⟩ := hT
  have h1 : parts.map (fun (i, x) => (i, a.eval x)) = (is.zip vs).toArray := by
    rw [hp, ← evs_sound ha hx]
    apply Array.ext'
    simp [List.zip_map_right]
  simp only [execOp, h1]
  refine run_value ?_
  rw [Instr.build, run_bindOk (run_zero hz), run_bindOk (run_und hu)]
  simp only []
  rw [run_bindOk (hpl w)]
  have := fill_bldC _ _ _ hr
  simp only [this]
  rfl

omit [Env] in
/-- shifts -/
theorem y_shl {T T' : TypeId} {x y : Operand} {k k' : IntKind} {i j r : Int} (hx : ev rs x = some (.int k i)) (hy : ev rs y = some (.int k' j)) (h0 : 0 ≤ j) (hr : k.wrap (i * 2 ^ (min j.toNat k.bits)) = r) : Yv P S n rs (.binOp .shl T x y T') t (.int k r) := fun a ha w _ d pos af g => by
  simp only [execOp, ev_sound ha hx, ev_sound ha hy]
  refine run_value ?_
  rw [run_bindOk run_eqGuard]
  have : ¬ j < 0 := by omega
  simp [binOp, Op.shift, this, run_pure, hr]
omit [Env] in
theorem y_shr {T T' : TypeId} {x y : Operand} {k k' : IntKind} {i j r : Int} (hx : ev rs x = some (.int k i)) (hy : ev rs y = some (.int k' j)) (h0 : 0 ≤ j) (hr : i.fdiv (2 ^ (min j.toNat k.bits)) = r) : Yv P S n rs (.binOp .shr T x y T') t (.int k r) := fun a ha w _ d pos af g => by
  simp only [execOp, ev_sound ha hx, ev_sound ha hy]
  refine run_value ?_
  rw [run_bindOk run_eqGuard]
  have : ¬ j < 0 := by omega
  simp [binOp, Op.shift, this, run_pure, hr]
omit [Env] in
/-- the lesser, the greater of two -/
theorem y_min {x y : Operand} {Ts : Array TypeId} {k : IntKind} {i j : Int} (hx : ev rs x = some (.int k i)) (hy : ev rs y = some (.int k j)) : Yv P S n rs (.call ⟨.builtin .min, #[x, y], Ts⟩) t (.int k (min i j)) :=
  y_bi (l := [x, y]) (vs := [.int k i, .int k j]) (by simp [evs, hx, hy]) fun w _ cs => run_value (by
    simp only [Builtin.min_, List.foldlM_cons, List.foldlM_nil, Builtin.min2]
    have : (if j < i then j else i) = min i j := by omega
    rw [this]; rfl)
omit [Env] in
theorem y_max {x y : Operand} {Ts : Array TypeId} {k : IntKind} {i j : Int} (hx : ev rs x = some (.int k i)) (hy : ev rs y = some (.int k j)) : Yv P S n rs (.call ⟨.builtin .max, #[x, y], Ts⟩) t (.int k (max i j)) :=
  y_bi (l := [x, y]) (vs := [.int k i, .int k j]) (by simp [evs, hx, hy]) fun w _ cs => run_value (by
    simp only [Builtin.max_, List.foldlM_cons, List.foldlM_nil, Builtin.max2]
    have : (if i < j then j else i) = max i j := by omega
    first | (rw [this]; rfl) | (have h2 : (if j > i then j else i) = max i j := by omega
                                rw [h2]; rfl))
end

section
variable {P : Program} {ops : Array Oper} {Q : Exit → Act → World → Prop} {n : Nat} {rs : RS} {L K : List Asrt} {l : List Oper} {t : TypeId} {d : Nat} {pos : String} {af : Array Edge}
theorem Sat.lenS {w : World} {E sz k : Nat} {v : Value} {cs : List Value} (h : Sat w L) (i : Nat) (hi : L[i]? = some (sliceAt E sz v k cs)) : ∃ a c, v = .slice a k c := by
  obtain ⟨x, hx⟩ := (h.front i hi).exists
  cases x with
  | none => obtain ⟨h1, h2, _⟩ := hx.pure.1; exact ⟨none, 0, by rw [h1, h2]⟩
  | some x => obtain ⟨b, pre, spare, cap⟩ := x; exact ⟨_, _, hx.pure.1.1⟩
/-- x = append(x, y...) -/
theorem WLs.append {x y : Operand} {T tx E sz bytes k m : Nat} {sv xv : Value} {cs news : List Value} (i : Nat) (hx : ev rs x = some sv) (hy : ev rs y = some xv) (hi : L[i]? = some (sliceAt E sz sv k cs)) (ht : tSlice P T E sz = true)
    (hby : tBytes P E bytes = true) (hz : ∃ z, tZero P E z ∧ z.cells.size = sz) (hroom : (2 * (k + m) + 768) * bytes ≤ 281474976710656) (h63 : k + m ≤ 9223372036854775807) (hsrc : ∀ w, Sat w L → Src P sz tx xv m news w)
    (hd : Nat.blt d n = true) (h : ∀ a c, WLs P ops Q n l ((d, .slice a (k + m) c) :: rs) (L.set i (sliceAt E sz (.slice a (k + m) c) (k + m) (cs ++ news)))) : WLs P ops Q n (⟨some d, .call ⟨.builtin .append, #[x, y], #[T, tx]⟩, t, pos, af, none⟩ :: l) rs L := fun w hs => by
  have hlt : i < L.length := by
    rcases Nat.lt_or_ge i L.length with h' | h'
    · exact h'
    · simp [List.getElem?_eq_none h'] at hi
  obtain ⟨v', w', h1, h2⟩ := run_append (t := t) ht hby hz hroom h63 (hs.front i hi) (hsrc w hs)
  obtain ⟨a, c, rfl⟩ := h2.lenS 0 rfl
  refine WL.act (w' := w') (v := .slice a (k + m) c) (fun a ha d pos af g => ?_) (blt_lt hd) (h a c w' (h2.perm (perm_set i _ hlt)))
  exact run_bi (l := [x, y]) (vs := [sv, xv]) ha (by simp [evs, hx, hy]) (fun cs => run_value h1) d pos af g
omit [Env] in
/-- []T{..}: a new array of so many -/
theorem run_bslice {w : World} {T E sz len : Nat} {z : Value} {parts : List (Nat × Value)} {r : Array Value} (ht : tSlice P T E sz = true) (hz : tZero P E z) (hle : len * sz ≤ 16777216)
    (hr : bldC (fun i => some (i * sz, sz)) ((Array.range (len * sz)).map (z.cells[· % z.cells.size]!)) parts = some r) :
    (Instr.buildSlice T len parts.toArray).run P w = .ok (.slice (some ⟨w.heap.size, 0, none⟩) len len) (wnew w (.cells r E)) := by
  unfold tSlice at ht
  cases hu : P.underlying T with
  | none => simp [hu] at ht
  | some D =>
    cases D <;> simp [hu] at ht
    obtain ⟨rfl, h2⟩ := ht
    rw [Instr.buildSlice, run_bindOk (run_und hu)]
    simp only []
    rw [run_bindOk (run_sizeOf (by simpa [tSize] using h2))]
    rw [if_neg (by omega)]
    by_cases h0 : len * sz = 0
    · rw [if_pos h0, run_bindOk (run_pure _)]
      have hr' := fill_bldC _ _ _ hr
      rw [show (Array.range (len * sz)).map (z.cells[· % z.cells.size]!) = (Array.range (len * sz)).map ((#[] : Array Value)[· % (#[] : Array Value).size]!) from by rw [h0]; simp] at hr'
      simp only [hr']
      rfl
    · rw [if_neg h0]
      rw [run_bindOk (run_zero hz), run_bindOk (run_pure _)]
      simp only [fill_bldC _ _ _ hr]
      rfl
theorem WLs.bslice {T E sz len : Nat} {z : Value} {is : List Nat} {xs : List Operand} {vs : List Value} {r : Array Value} (parts : Array (Nat × Operand)) (hp : parts = (is.zip xs).toArray) (hx : evs rs xs = some vs) (ht : tSlice P T E sz = true) (hz : tZero P E z) (hle : Nat.ble (len * sz) 16777216 = true)
    (hr : bldC (fun i => some (i * sz, sz)) ((Array.range (len * sz)).map (z.cells[· % z.cells.size]!)) (is.zip vs) = some r) (hd : Nat.blt d n = true)
    (h : ∀ b, WLs P ops Q n l ((d, .slice (some ⟨b, 0, none⟩) len len) :: rs) (pt b (.cells r E (0, 0)) :: L)) : WLs P ops Q n (⟨some d, .buildSlice T len parts, t, pos, af, none⟩ :: l) rs L := fun w hs => by
  refine WL.act (fun a ha d pos af g => ?_) (blt_lt hd) (h _ _ (hs.alloc (.cells r E)))
  have h1 : parts.map (fun (i, x) => (i, a.eval x)) = (is.zip vs).toArray := by
    rw [hp, ← evs_sound ha hx]
    apply Array.ext'
    simp [List.zip_map_right]
  simp only [execOp, h1]
  exact run_value (run_bslice ht hz (by simpa using hle) hr)
omit [Env] in
/-- make([]T, n) -/
theorem run_mkslice {w : World} {T E sz bytes k : Nat} {z : Value} (ht : tSlice P T E sz = true) (hz : tZero P E z) (hzs : z.cells.size = sz) (hby : tBytes P E bytes = true) (hk : bytes * k ≤ 281474976710656) (hk2 : k ≤ 9223372036854775807) :
    (Instr.makeSlice T (.int .i64 k) (.int .i64 k)).run P w = .ok (.slice (some ⟨w.heap.size, 0, none⟩) k k) (wnew w (.cells ((Array.range (k * sz)).map (z.cells[· % z.cells.size]!)) E)) := by
  unfold tSlice at ht
  cases hu : P.underlying T with
  | none => simp [hu] at ht
  | some D =>
    cases D <;> simp [hu] at ht
    rename_i e
    obtain ⟨rfl, h2⟩ := ht
    unfold tBytes at hby
    cases hi : P.info? e with
    | none => simp [hi] at h2
    | some i =>
      simp [hi] at h2 hby
      have hw : IntKind.i64.wrap (k : Int) = k := wrap_i64 ⟨by omega, by omega⟩
      have hai : (asInt (.int .i64 (k : Int))).run P w = .ok (k : Int) w := by simp [asInt, go_sem]
      rw [Instr.makeSlice, run_bindOk (run_und hu)]
      simp only []
      rw [run_bindOk hai, run_bindOk hai, run_bindOk (run_info hi)]
      have h3 : ¬ ((k : Int) < 0) := by omega
      have h4 : ¬ ((i.bytes : Int) * (k : Int) > 2 ^ 48) := by
        rw [hby.1, ← Int.natCast_mul]; omega
      simp only [hw, h3, h4, decide_false, Bool.or_self, Bool.false_eq_true, if_false, Int.lt_irrefl, gt_iff_lt, Int.toNat_natCast]
      have hroom : ∀ q, (askRoom q).run P w = .ok () w := fun q => by unfold askRoom; split <;> rfl
      rw [run_bindOk (hroom _), run_bindOk (run_sizeOf (by simpa [tSize, hi] using h2))]
      by_cases h0 : k * sz = 0
      · rw [if_pos h0, run_bindOk (run_pure _)]
        simp [h0, newRow, newObj, go_sem, wnew, Sem.run]
      · rw [if_neg h0]
        rw [run_bindOk (run_zero hz), run_bindOk (run_pure _)]
        rfl
theorem WLs.mkslice {x : Operand} {y : Operand} {T E sz bytes k : Nat} {z : Value} (hx : ev rs x = some (.int .i64 (k : Int))) (hy : ev rs y = some (.int .i64 (k : Int))) (ht : tSlice P T E sz = true) (hz : tZero P E z) (hzs : z.cells.size = sz) (hby : tBytes P E bytes = true) (hk : bytes * k ≤ 281474976710656) (hk2 : k ≤ 9223372036854775807) (hd : Nat.blt d n = true)
    {c' : Array Value} (hc : (Array.range (k * sz)).map (z.cells[· % z.cells.size]!) = c')
    (h : ∀ b, WLs P ops Q n l ((d, .slice (some ⟨b, 0, none⟩) k k) :: rs) (pt b (.cells c' E (0, 0)) :: L)) : WLs P ops Q n (⟨some d, .makeSlice T x y, t, pos, af, none⟩ :: l) rs L := fun w hs => by
  subst hc
  refine WL.act (fun a ha d pos af g => ?_) (blt_lt hd) (h _ _ (hs.alloc _))
  simp only [execOp, ev_sound ha hx, ev_sound ha hy]
  exact run_value (run_mkslice ht hz hzs hby hk hk2)
/-- a result that lies in memory -/
theorem WEs.retC {fn : Func} {R : Value → World → Prop} {e : Exit} {r b m T E : Nat} {c vs : Array Value} {fr : Nat × Nat} (he : e = .normal ∨ e = .ret) (hr : fn.results = #[.cell r T]) (hv : rs.get r = some (.pointer (some ⟨b, 0, none⟩))) (ht : tAgg P T m = true)
    (i : Nat) (hi : L[i]? = some (pt b (.cells c E fr))) (hm : m ≤ c.size) (hc : c.extract 0 m = vs) (h : ∀ w, Sat w L → R (.agg vs) w) : WEs (bodyPost P fn (Ret R)) e n rs L := fun w hs a ha => by
  have hg := ha.2.2 r _ hv
  have : (results fn a.tmps).run P w = .ok (.agg vs) w := by
    have hl := run_loadA (P := P) (w := w) (o := 0) ht (hs.get i hi) (by omega)
    simp only [Nat.zero_add, hc] at hl
    have h1 : (do loadVar T (← asAddr (a.tmps.getD r undef)) : Sem Value).run P w = .ok (.agg vs) w := by
      rw [Array.getD_eq_getD_getElem?, hg]
      rw [run_bindOk (a := ⟨b, 0, none⟩) (w' := w) (by simp [asAddr, run_pure])]
      exact hl
    rw [results, hr]
    simp only [List.mapM_toArray, List.mapM_cons, List.mapM_nil]
    generalize (do loadVar T (← asAddr (a.tmps.getD r undef)) : Sem Value) = s at h1 ⊢
    simp [go_sem, h1]
  rcases he with rfl | rfl <;> exact ⟨ha.2.1, _, this, h w hs⟩

omit [Env] in
theorem blit_all : ∀ (l : List Value) (c : Array Value), c.size = l.length → blit c 0 l = l.toArray := fun l c h => by
  have := blit_list l [] [] c.toList (by simpa using h)
  simpa using this
/-- []T{x} -/
theorem WLs.bslice1 {x : Operand} {T E sz : Nat} {z v : Value} (hx : ev rs x = some v) (ht : tSlice P T E sz = true) (hz : tZero P E z) (hzs : z.cells.size = sz) (hle : Nat.ble sz 16777216 = true) (hvs : v.cells.size = sz) (hd : Nat.blt d n = true)
    (h : ∀ b, WLs P ops Q n l ((d, .slice (some ⟨b, 0, none⟩) 1 1) :: rs) (pt b (.cells v.cells E (0, 0)) :: L)) : WLs P ops Q n (⟨some d, .buildSlice T 1 #[(0, x)], t, pos, af, none⟩ :: l) rs L := by
  have hr : bldC (fun i => some (i * sz, sz)) ((Array.range (1 * sz)).map (z.cells[· % z.cells.size]!)) [(0, v)] = some v.cells := by
    unfold bldC
    simp only [hvs, decide_true, Bool.true_and]
    rw [if_pos (by simp)]
    unfold bldC
    rw [Nat.zero_mul, blit_all _ _ (by simp [hvs])]
  exact WLs.bslice (is := [0]) (xs := [x]) (vs := [v]) #[(0, x)] rfl (by simp [evs, hx]) ht hz (by simpa using hle) hr hd h
omit [Env] in
theorem und_of {P : Program} {T E sz : Nat} (ht : tSlice P T E sz = true) : P.underlying T = some (.slice E) := by
  unfold tSlice at ht
  cases hu : P.underlying T with
  | none => simp [hu] at ht
  | some D => cases D <;> simp [hu] at ht; rw [ht.1]
theorem Src.at {w : World} {sz tx E' sz' b o m cap : Nat} {c : Array Value} {T : TypeId} {fr : Nat × Nat} {news : List Value} (i : Nat) (hi : L[i]? = some (Sx.pt b (.cells c T fr))) (hk : tSlice P tx E' sz' = true)
    (h : o + m * sz ≤ c.size) (hn : c.extract o (o + m * sz) = news.toArray) (h1 : news.all oneCell = true) (hs : Sat w L) : Src P sz tx (.slice (some ⟨b, o, none⟩) m cap) m news w := Src.pt hs i hi (und_of hk) h hn h1
theorem Src.atS {w : World} {E sz tx E' sz' m : Nat} {v : Value} {news : List Value} (i : Nat) (hi : L[i]? = some (sliceAt E sz v m news)) (hk : tSlice P tx E' sz' = true)
    (h1 : news.all oneCell = true) (hs : Sat w L) : Src P sz tx v m news w := Src.slice hs i hi (und_of hk) h1
/-- a slice that is not empty, open -/
theorem Sat.openS {w : World} {E sz k : Nat} {v : Value} {cs : List Value} (h : Sat w L) (i : Nat) (hi : L[i]? = some (sliceAt E sz v k cs)) (hk : k ≠ 0) :
    ∃ b pre spare cap, v = .slice (some ⟨b, pre.length, none⟩) k cap ∧ cs.length = k * sz ∧ cs.length + spare.length = cap * sz ∧ Sat w (L.set i (pt b (.cells (pre ++ cs ++ spare).toArray E (0, 0)))) := by
  have hlt : i < L.length := by
    rcases Nat.lt_or_ge i L.length with h' | h'
    · exact h'
    · simp [List.getElem?_eq_none h'] at hi
  obtain ⟨x, hx⟩ := (h.front i hi).exists
  cases x with
  | none => exact absurd hx.pure.1.2.1 hk
  | some x =>
    obtain ⟨b, pre, spare, cap⟩ := x
    obtain ⟨⟨h1, h2, h3⟩, hx⟩ := hx.pure
    exact ⟨b, pre, spare, cap, h1, h2, h3, hx.perm (perm_set i _ hlt)⟩
omit [Env] in
theorem sliceAt_intro {E sz k b cap : Nat} {pre cs spare : List Value} (h2 : cs.length = k * sz) (h3 : cs.length + spare.length = cap * sz) : ∀ g, pt b (.cells (pre ++ cs ++ spare).toArray E (0, 0)) g → sliceAt E sz (.slice (some ⟨b, pre.length, none⟩) k cap) k cs g :=
  fun g hg => ⟨some (b, pre, spare, cap), ⟨rfl, h2, h3⟩, hg⟩
omit [Env] in
theorem sliceAt_nil (E sz : Nat) : ∀ g, emp g → sliceAt E sz (.slice none 0 0) 0 [] g := fun g hg => ⟨none, ⟨rfl, rfl, rfl⟩, hg⟩
theorem Sat.emp {w : World} (h : Sat w L) : Sat w (Sx.emp :: L) := by
  refine ⟨h.1, ?_⟩
  obtain ⟨_, l, rfl, h1, h2⟩ := h
  refine ⟨(Sx.emp, fun _ => none) :: l, rfl, ?_, ?_⟩
  · intro p hp
    cases hp with
    | head => exact ⟨rfl, fun b o hb => by cases hb⟩
    | tail _ hp => exact h1 p hp
  · rw [List.map_cons, List.pairwise_cons]
    exact ⟨fun g _ b => .inl rfl, h2⟩
theorem Sat.implAt {w : World} {B C : Asrt} (h : Sat w L) (i : Nat) (hi : L[i]? = some B) (hm : ∀ g, B g → C g) : Sat w (L.set i C) := by
  have hlt : i < L.length := by
    rcases Nat.lt_or_ge i L.length with h' | h'
    · exact h'
    · simp [List.getElem?_eq_none h'] at hi
  exact ((h.front i hi).impl hm).perm (perm_set i _ hlt)
theorem WLs.implAt {B C : Asrt} (i : Nat) (hi : L[i]? = some B) (hm : ∀ g, B g → C g) (h : WLs P ops Q n l rs (L.set i C)) : WLs P ops Q n l rs L := fun w hs => h w (hs.implAt i hi hm)
theorem WCs.implAt {c : Code} {B C : Asrt} (i : Nat) (hi : L[i]? = some B) (hm : ∀ g, B g → C g) (h : WCs P Q n c rs (L.set i C)) : WCs P Q n c rs L := fun w hs => h w (hs.implAt i hi hm)
theorem WSs.mkslice {x y : Operand} {T E sz bytes k i : Nat} {r : Tr} {z : Value} (ho : ops[i]? = some ⟨some d, .makeSlice T x y, t, pos, af, none⟩) (hx : ev rs x = some (.int .i64 (k : Int))) (hy : ev rs y = some (.int .i64 (k : Int))) (ht : tSlice P T E sz = true) (hz : tZero P E z) (hzs : z.cells.size = sz) (hby : tBytes P E bytes = true) (hk : bytes * k ≤ 281474976710656) (hk2 : k ≤ 9223372036854775807) (hd : Nat.blt d n = true)
    (hK : ∀ w, Sat w L → Sat w K) {c' : Array Value} (hc : (Array.range (k * sz)).map (z.cells[· % z.cells.size]!) = c')
    (h : ∀ b, WSs P ops Q n r K ((d, .slice (some ⟨b, 0, none⟩) k k) :: rs) (pt b (.cells c' E (0, 0)) :: L)) : WSs P ops Q n (.one i 1 r) K rs L := fun w hs a ha => by
  subst hc
  refine wpOp_av (nx := .value (.slice (some ⟨w.heap.size, 0, none⟩) k k)) (w' := wnew w (.cells ((Array.range (k * sz)).map (z.cells[· % z.cells.size]!)) E)) ha ho (fun a ha d pos af g => ?_) ⟨(hs.alloc _).tails hK, h _ _ (hs.alloc _) _ (ha.put (blt_lt hd) _)⟩
  simp only [execOp, ev_sound ha hx, ev_sound ha hy]
  exact run_value (run_mkslice ht hz hzs hby hk hk2)
omit [Env] in
theorem zero_row (z : Array Value) (hz : 0 < z.size) (k : Nat) : (Array.range (k * z.size)).map (z[· % z.size]!) = ((List.replicate k z.toList).flatten).toArray := by
  apply Array.ext'
  rw [Array.toList_map, Array.toList_range]
  induction k with
  | zero => simp
  | succ k ih =>
    have h1 : (List.range z.size).map (fun i => z[(k * z.size + i) % z.size]!) = z.toList := by
      apply List.ext_getElem
      · simp
      · intro i h1 h2
        have : i < z.size := by simpa using h2
        simp [Nat.mul_add_mod_self_right, Nat.mod_eq_of_lt this, this]
    rw [Nat.succ_mul, List.range_add, List.map_append, ih, List.map_map, List.replicate_succ', List.flatten_append]
    simp only [List.toList_toArray, List.flatten_cons, List.flatten_nil, List.append_nil]
    congr 1
end
end Go.Sx
