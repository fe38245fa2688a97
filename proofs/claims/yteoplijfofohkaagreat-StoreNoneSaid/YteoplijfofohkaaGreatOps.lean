/- The operations, one lemma each, over the registers' list. -/
import Derived.Test.YteoplijfofohkaaGreatCore
namespace Go.Sx
open Go

/-- A text's value, by its bytes. -/
def str (l : List UInt8) : Value := .string ⟨l.toArray⟩
theorem str_size (l : List UInt8) : (⟨l.toArray⟩ : ByteArray).size = l.length := by simp [ByteArray.size]
theorem str_toList (l : List UInt8) : (⟨l.toArray⟩ : ByteArray).toList = l := by rw [ByteArray.toList_eq]
theorem str_append (l m : List UInt8) : (⟨l.toArray⟩ : ByteArray) ++ ⟨m.toArray⟩ = ⟨(l ++ m).toArray⟩ := by
  apply ByteArray.ext; simp
theorem str_extract (l : List UInt8) (i j : Nat) : (⟨l.toArray⟩ : ByteArray).extract i j = ⟨((l.take j).drop i).toArray⟩ := by
  apply ByteArray.ext; simp [List.extract_eq_take_drop, List.drop_take]
theorem str_beq (l m : List UInt8) : ((⟨l.toArray⟩ : ByteArray) == ⟨m.toArray⟩) = (l == m) := by
  rw [Bool.eq_iff_iff, MapKept.bytes_beq]; simp

/-- facts on types -/
def tScal (P : Program) (t : TypeId) : Bool :=
  match P.underlying t with
  | some (.struct _) | some (.array _ _) | none => false
  | some _ => (P.info? t).any (·.size == 1)
def tAgg (P : Program) (t : TypeId) (n : Nat) : Bool :=
  match P.underlying t with
  | some (.struct _) | some (.array _ _) => (P.info? t).any (·.size == n)
  | _ => false
def tSize (P : Program) (t : TypeId) (n : Nat) : Bool := (P.info? t).any (·.size == n)
def tFld (P : Program) (T i off : Nat) : Bool :=
  match P.underlying T with
  | some (.struct fs) => (fs[i]?).any fun f => f.offset == off && (P.info? f.type).any (·.size != 0)
  | _ => false
def tSlice (P : Program) (T E n : Nat) : Bool :=
  match P.underlying T with
  | some (.slice e) => e == E && (P.info? E).any (·.size == n)
  | _ => false
def tArr (P : Program) (T len E n : Nat) : Bool :=
  match P.underlying T with
  | some (.array l e) => l == len && e == E && (P.info? E).any (·.size == n)
  | _ => false
def tStr (P : Program) (T : Nat) : Bool := match P.underlying T with | some .string => true | _ => false
def tInt (P : Program) (T : Nat) (k : IntKind) : Bool := match P.underlying T with | some (.int k') => k' == k | _ => false

section
variable {P : Program} {w : World}
theorem run_pure {α : Type} (a : α) : (pure a : Sem α).run P w = .ok a w := rfl
theorem run_und {t : TypeId} {d : TypeDesc} (h : P.underlying t = some d) : (underlying t).run P w = .ok d w := by
  simp [underlying, h, go_sem]
theorem run_info {t : TypeId} {i : TypeInfo} (h : P.info? t = some i) : (typeInfo t).run P w = .ok i w := by
  simp [typeInfo, h, go_sem]
theorem run_bindOk {α β : Type} {s : Sem α} {f : α → Sem β} {a : α} {w' : World} (h : s.run P w = .ok a w') : (s >>= f).run P w = (f a).run P w' := by
  simp [go_sem, h]

theorem run_sizeOf {t n : Nat} (h : tSize P t n = true) : (sizeOf t).run P w = .ok n w := by
  unfold tSize at h
  cases hi : P.info? t with
  | none => simp [hi] at h
  | some i => simp [hi] at h; rw [sizeOf, run_bindOk (run_info hi), h]; rfl
theorem run_isAgg_f {t : Nat} (h : tScal P t = true) : (isAgg t).run P w = .ok false w := by
  unfold tScal at h
  cases hu : P.underlying t with
  | none => simp [hu] at h
  | some d => rw [isAgg, run_bindOk (run_und hu)]; cases d <;> simp [hu] at h ⊢ <;> rfl
theorem run_isAgg_t {t n : Nat} (h : tAgg P t n = true) : (isAgg t).run P w = .ok true w := by
  unfold tAgg at h
  cases hu : P.underlying t with
  | none => simp [hu] at h
  | some d => rw [isAgg, run_bindOk (run_und hu)]; cases d <;> simp [hu] at h ⊢ <;> rfl
theorem tScal_size {t : Nat} (h : tScal P t = true) : tSize P t 1 = true := by
  unfold tScal at h; unfold tSize
  cases hu : P.underlying t with
  | none => simp [hu] at h
  | some d => cases d <;> simp [hu] at h ⊢ <;> exact h
theorem tAgg_size {t n : Nat} (h : tAgg P t n = true) : tSize P t n = true := by
  unfold tAgg at h; unfold tSize
  cases hu : P.underlying t with
  | none => simp [hu] at h
  | some d => cases d <;> simp [hu] at h ⊢ <;> exact h

theorem cell_blk {b o : Nat} {c : Array Value} {T : TypeId} {fr : Nat × Nat} {v : Value} (hb : w.heap[b]? = some (.cells c T fr)) (hv : c[o]? = some v) :
    w.cell? ⟨b, o, none⟩ = some v := by simp [World.cell?, hb, hv]
theorem addr_add (b o n : Nat) : Addr.add ⟨b, o, none⟩ n = ⟨b, o + n, none⟩ := by
  unfold Addr.add; split <;> simp_all

theorem run_load1 {t b o : Nat} {c : Array Value} {T : TypeId} {fr : Nat × Nat} {v : Value} (ht : tScal P t = true) (hb : w.heap[b]? = some (.cells c T fr)) (hv : c[o]? = some v) :
    (loadVar t ⟨b, o, none⟩).run P w = .ok v w := by
  rw [loadVar, run_bindOk (run_isAgg_f ht)]
  simp [load, Sem.run, cell_blk hb hv]

theorem run_loadCellsFrom {b o : Nat} {c : Array Value} {T : TypeId} {fr : Nat × Nat} (hb : w.heap[b]? = some (.cells c T fr)) :
    ∀ (k i : Nat) (acc : Array Value), o + i + k ≤ c.size → (loadCellsFrom ⟨b, o, none⟩ i k acc).run P w = .ok (acc ++ c.extract (o + i) (o + i + k)) w
  | 0, i, acc, _ => by simp [loadCellsFrom, go_sem]; omega
  | k + 1, i, acc, h => by
    have hv : c[o + i]? = some c[o + i] := by rw [Array.getElem?_eq_getElem (by omega)]
    have hl : (load (Addr.add ⟨b, o, none⟩ i)).run P w = .ok c[o + i] w := by
      rw [addr_add]; simp [load, Sem.run, cell_blk hb hv]
    rw [loadCellsFrom, run_bindOk hl, run_loadCellsFrom hb k (i + 1) _ (by omega)]
    congr 1
    apply Array.ext'
    have h1 : o + i < c.toList.length := by simp; omega
    have h2 : o + i < min (o + i + (k + 1)) c.toList.length := by simp; omega
    simp only [Array.toList_append, Array.toList_push, Array.toList_extract, List.append_assoc, List.extract_eq_take_drop]
    congr 1
    rw [show o + i + (k + 1) - (o + i) = k + 1 by omega, show o + (i + 1) + k - (o + (i + 1)) = k by omega, ← Nat.add_assoc, List.drop_eq_getElem_cons h1]
    simp
theorem run_loadA {t b o m : Nat} {c : Array Value} {T : TypeId} {fr : Nat × Nat} (ht : tAgg P t m = true) (hb : w.heap[b]? = some (.cells c T fr)) (hm : o + m ≤ c.size) :
    (loadVar t ⟨b, o, none⟩).run P w = .ok (.agg (c.extract o (o + m))) w := by
  rw [loadVar, run_bindOk (run_isAgg_t ht)]
  simp only [if_true]
  rw [run_bindOk (run_sizeOf (tAgg_size ht))]
  rw [loadCells, run_bindOk (run_loadCellsFrom hb m 0 #[] (by omega))]
  simp [go_sem]


/-- a store into a run of cells -/
def blit : Array Value → Nat → List Value → Array Value
  | c, _, [] => c
  | c, o, v :: l => blit (c.setIfInBounds o v) (o + 1) l
theorem blit_size : ∀ (l : List Value) (c : Array Value) (o : Nat), (blit c o l).size = c.size
  | [], _, _ => rfl
  | v :: l, c, o => by rw [blit, blit_size l]; simp
def oneCell : Value → Bool
  | .agg _ | .tuple _ => false
  | _ => true
/-- block b is o now -/
def wupd (w : World) (b : Nat) (o : Obj) : World := { w with heap := w.heap.setIfInBounds b o }
def wnew (w : World) (o : Obj) : World := { w with heap := w.heap.push o }
def wdrew (w : World) : World := { w with drawn := w.drawn + 1 }
theorem upd_upd (w : World) (b : Nat) (o o' : Obj) : wupd (wupd w b o) b o' = wupd w b o' := by simp [wupd]
theorem upd_get (w : World) {b : Nat} (o : Obj) {o₁ : Obj} (h : w.heap[b]? = some o₁) : (wupd w b o).heap[b]? = some o := by
  have : b < w.heap.size := by
    rcases Nat.lt_or_ge b w.heap.size with h' | h'
    · exact h'
    · simp [Array.getElem?_eq_none h'] at h
  simp [wupd, this]
theorem upd_ne (w : World) {b b' : Nat} (o : Obj) (h : b' ≠ b) : (wupd w b o).heap[b']? = w.heap[b']? := by
  simp [wupd, Array.getElem?_setIfInBounds, Ne.symm h]
theorem upd_size (w : World) (b : Nat) (o : Obj) : (wupd w b o).heap.size = w.heap.size := by simp [wupd]
theorem upd_same (w : World) {b : Nat} {o : Obj} (h : w.heap[b]? = some o) : wupd w b o = w := by
  unfold wupd
  have : w.heap.setIfInBounds b o = w.heap := by
    apply Array.ext_getElem?
    intro i
    rw [Array.getElem?_setIfInBounds]
    split
    · rename_i e; subst e; rw [h]; simp
      rcases Nat.lt_or_ge b w.heap.size with h' | h'
      · exact h'
      · simp [Array.getElem?_eq_none h'] at h
    · rfl
  rw [this]

theorem run_store1cell {b o : Nat} {c : Array Value} {T : TypeId} {v : Value} (hb : w.heap[b]? = some (.cells c T (0, 0))) (ho : o < c.size) (hv : oneCell v = true) :
    (store ⟨b, o, none⟩ v).run P w = .ok () (wupd w b (.cells (c.setIfInBounds o v) T (0, 0))) := by
  have hc := cell_blk hb (Array.getElem?_eq_getElem ho)
  have hf : w.frozen? ⟨b, o, none⟩ = false := by simp [World.frozen?, hb]
  have hs : w.setCell ⟨b, o, none⟩ v = wupd w b (.cells (c.setIfInBounds o v) T (0, 0)) := by
    unfold World.setCell wupd
    congr 1
    apply Array.ext_getElem?
    intro i
    rw [Array.getElem?_modify, Array.getElem?_setIfInBounds]
    split
    · rename_i e; subst e; rw [hb]; simp
      have : b < w.heap.size := by
        rcases Nat.lt_or_ge b w.heap.size with h' | h'
        · exact h'
        · simp [Array.getElem?_eq_none h'] at hb
      simpa using this
    · rfl
  cases v <;> simp [oneCell] at hv <;> simp [store, Sem.run, hc, hf, hs]

theorem run_storeCells {b o : Nat} {T : TypeId} : ∀ (l : List Value) (i : Nat) (c : Array Value) (w : World), w.heap[b]? = some (.cells c T (0, 0)) → o + i + l.length ≤ c.size → l.all oneCell = true →
    (storeCells ⟨b, o, none⟩ l i).run P w = .ok () (wupd w b (.cells (blit c (o + i) l) T (0, 0)))
  | [], i, c, w, hb, _, _ => by simp [storeCells, go_sem, blit, upd_same w hb]
  | v :: l, i, c, w, hb, hle, hall => by
    simp only [List.all_cons, Bool.and_eq_true, List.length_cons] at hall hle
    rw [storeCells, run_bindOk (a := ()) (w' := wupd w b (.cells (c.setIfInBounds (o + i) v) T (0, 0))) (by rw [addr_add]; exact run_store1cell hb (by omega) hall.1)]
    rw [run_storeCells l (i + 1) _ _ (upd_get w _ hb) (by simp; omega) hall.2, upd_upd]
    rfl

theorem run_store1 {t b o : Nat} {c : Array Value} {T : TypeId} {v : Value} (ht : tSize P t 1 = true) (hb : w.heap[b]? = some (.cells c T (0, 0))) (ho : o < c.size) (hv : oneCell v = true) :
    (storeVar t ⟨b, o, none⟩ v).run P w = .ok () (wupd w b (.cells (c.setIfInBounds o v) T (0, 0))) := by
  have hc : v.cells = #[v] := by cases v <;> simp [oneCell] at hv <;> rfl
  rw [storeVar, run_bindOk (run_sizeOf ht)]
  simp only [hc]
  have := run_storeCells (P := P) (o := o) [v] 0 c w hb (by simp; omega) (by simp [hv])
  simpa [blit] using this
theorem run_storeA {t b o m : Nat} {c vs : Array Value} {T : TypeId} (ht : tSize P t m = true) (hb : w.heap[b]? = some (.cells c T (0, 0))) (hm : vs.size = m) (ho : o + m ≤ c.size) (hv : vs.toList.all oneCell = true) :
    (storeVar t ⟨b, o, none⟩ (.agg vs)).run P w = .ok () (wupd w b (.cells (blit c o vs.toList) T (0, 0))) := by
  rw [storeVar, run_bindOk (run_sizeOf ht)]
  simp only [Value.cells, hm]
  have := run_storeCells (P := P) (o := o) vs.toList 0 c w hb (by simp; omega) hv
  simpa using this
end

section
variable {P : Program} {S : World → Prop} {n : Nat} {rs : RS} {t : TypeId}

theorem y_move {x : Operand} {v : Value} (hx : ev rs x = some v) : Yv P S n rs (.move x) t v := fun a ha w _ d pos af g => by
  simp [execOp, ev_sound ha hx, run_pure]
theorem y_asgn {x : Operand} {v : Value} (hx : ev rs x = some v) : Yv P S n rs (.assign x) t v := fun a ha w _ d pos af g => by
  simp [execOp, ev_sound ha hx, run_pure]
theorem y_nil {x : Operand} {p : Addr} (hx : ev rs x = some (.pointer (some p))) : Yv P S n rs (.nilCheck x) t (.pointer (some p)) := fun a ha w _ d pos af g => by
  simp [execOp, ev_sound ha hx, run_pure]
theorem y_nilF {x : Operand} {f : FuncId} {fi ca : Array Value} (hx : ev rs x = some (.func (.func f) fi ca)) : Yv P S n rs (.nilCheck x) t (.func (.func f) fi ca) := fun a ha w _ d pos af g => by
  simp [execOp, ev_sound ha hx, run_pure]

/-- what 'pure (value (s))' comes to -/
theorem run_value {s : Sem Value} {v : Value} {w w' : World} (h : s.run P w = .ok v w') : (do pure (Next.value (← s)) : Sem Next).run P w = .ok (.value v) w' := by
  rw [run_bindOk h]; rfl

theorem y_fld {x : Operand} {T i b o off : Nat} (hx : ev rs x = some (.pointer (some ⟨b, o, none⟩))) (hf : tFld P T i off = true) :
    Yv P S n rs (.fieldAddr T x i) t (.pointer (some ⟨b, o + off, none⟩)) := fun a ha w _ d pos af g => by
  simp only [execOp, ev_sound ha hx]
  refine run_value ?_
  unfold tFld at hf
  cases hu : P.underlying T with
  | none => simp [hu] at hf
  | some D =>
    cases D <;> simp [hu] at hf
    rename_i fs
    cases hi : fs[i]? with
    | none => simp [hi] at hf
    | some f =>
      simp only [hi, Option.any_some, Bool.and_eq_true] at hf
      obtain ⟨h1, h2⟩ := hf
      cases hI : P.info? f.type with
      | none => simp [hI] at h2
      | some I =>
        simp [hI] at h1 h2
        rw [Instr.fieldAt, run_bindOk (run_und hu)]
        simp only [hi]
        rw [Instr.sureAddr, run_bindOk (run_pure _)]
        rw [fieldPlace]
        have hs : (sizeOf f.type).run P w = .ok I.size w := run_sizeOf (by simp [tSize, hI])
        have : (do (if (← sizeOf f.type) = 0 then partAt ⟨b, o, none⟩ f.offset f.byteOffset else pure (Addr.add ⟨b, o, none⟩ f.offset)) : Sem Addr).run P w = .ok ⟨b, o + off, none⟩ w := by
          rw [run_bindOk hs, if_neg h2, addr_add, h1]; rfl
        rw [run_bindOk this]; rfl

theorem y_ld {x : Operand} {T b o : Nat} {c : Array Value} {E : TypeId} {fr : Nat × Nat} {v : Value} (hx : ev rs x = some (.pointer (some ⟨b, o, none⟩))) (ht : tScal P T = true)
    (hb : ∀ w, S w → w.heap[b]? = some (.cells c E fr)) (hv : c[o]? = some v) : Yv P S n rs (.load T x) t v := fun a ha w hS d pos af g => by
  simp only [execOp, ev_sound ha hx]
  exact run_value (by rw [Instr.loadAt, Instr.sureAddr, run_bindOk (run_pure _)]; exact run_load1 ht (hb w hS) hv)
theorem y_ldA {x : Operand} {T b o m : Nat} {c : Array Value} {E : TypeId} {fr : Nat × Nat} (hx : ev rs x = some (.pointer (some ⟨b, o, none⟩))) (ht : tAgg P T m = true)
    (hb : ∀ w, S w → w.heap[b]? = some (.cells c E fr)) (hm : o + m ≤ c.size) {vs : Array Value} (hvs : c.extract o (o + m) = vs) : Yv P S n rs (.load T x) t (.agg vs) := fun a ha w hS d pos af g => by
  simp only [execOp, ev_sound ha hx]
  exact run_value (by rw [Instr.loadAt, Instr.sureAddr, run_bindOk (run_pure _), ← hvs]; exact run_loadA ht (hb w hS) hm)

theorem run_asIntOf {k : IntKind} {i : Int} {w : World} : (asIntOf (.int k i)).run P w = .ok (k, i) w := rfl

theorem y_ix {x y : Operand} {T E sz b o len cap : Nat} {k : IntKind} {i : Int} (hx : ev rs x = some (.slice (some ⟨b, o, none⟩) len cap)) (hy : ev rs y = some (.int k i)) (ht : tSlice P T E sz = true)
    (hi : 0 ≤ i ∧ i < len) : Yv P S n rs (.indexAddr T x y) t (.pointer (some ⟨b, o + i.toNat * sz, none⟩)) := fun a ha w _ d pos af g => by
  simp only [execOp, ev_sound ha hx, ev_sound ha hy]
  refine run_value ?_
  unfold tSlice at ht
  cases hu : P.underlying T with
  | none => simp [hu] at ht
  | some D =>
    cases D <;> simp [hu] at ht
    rename_i e
    obtain ⟨rfl, h2⟩ := ht
    have hs : (sizeOf e).run P w = .ok sz w := run_sizeOf (by simpa [tSize] using h2)
    rw [Instr.indexAt, run_bindOk run_asIntOf]
    simp only []
    rw [run_bindOk (run_und hu)]
    simp only []
    rw [run_bindOk (run_pure _)]
    rw [run_bindOk (run_und hu)]
    simp only [hi, and_self, if_true]
    rw [run_bindOk hs, addr_add]; rfl
theorem y_ix0 {x y : Operand} {T E sz b len cap i : Nat} {k : IntKind} (hx : ev rs x = some (.slice (some ⟨b, 0, none⟩) len cap)) (hy : ev rs y = some (.int k (i : Int))) (ht : tSlice P T E sz = true)
    (hi : i < len) : Yv P S n rs (.indexAddr T x y) t (.pointer (some ⟨b, i * sz, none⟩)) := by
  have := y_ix (P := P) (S := S) (n := n) (t := t) hx hy ht ⟨by omega, by omega⟩
  simpa using this
theorem y_ix1 {x y : Operand} {T E b len cap i : Nat} {k : IntKind} (hx : ev rs x = some (.slice (some ⟨b, 0, none⟩) len cap)) (hy : ev rs y = some (.int k (i : Int))) (ht : tSlice P T E 1 = true)
    (hi : i < len) : Yv P S n rs (.indexAddr T x y) t (.pointer (some ⟨b, i, none⟩)) := by
  have := y_ix0 (P := P) (S := S) (n := n) (t := t) hx hy ht hi
  simpa using this
theorem y_ix1o {x y : Operand} {T E b o len cap i : Nat} {k : IntKind} (hx : ev rs x = some (.slice (some ⟨b, o, none⟩) len cap)) (hy : ev rs y = some (.int k (i : Int))) (ht : tSlice P T E 1 = true)
    (hi : i < len) : Yv P S n rs (.indexAddr T x y) t (.pointer (some ⟨b, o + i, none⟩)) := by
  have := y_ix (P := P) (S := S) (n := n) (t := t) hx hy ht ⟨by omega, by omega⟩
  simpa using this
/-- an element's place in an array behind a pointer -/
theorem y_ixA {x y : Operand} {T len E sz b o : Nat} {k : IntKind} {i : Int} (hx : ev rs x = some (.pointer (some ⟨b, o, none⟩))) (hy : ev rs y = some (.int k i)) (ht : tArr P T len E sz = true)
    (hi : 0 ≤ i ∧ i < len) : Yv P S n rs (.indexAddr T x y) t (.pointer (some ⟨b, o + i.toNat * sz, none⟩)) := fun a ha w _ d pos af g => by
  simp only [execOp, ev_sound ha hx, ev_sound ha hy]
  refine run_value ?_
  unfold tArr at ht
  cases hu : P.underlying T with
  | none => simp [hu] at ht
  | some D =>
    cases D <;> simp [hu] at ht
    rename_i l e
    obtain ⟨⟨rfl, rfl⟩, h2⟩ := ht
    have hs : (sizeOf e).run P w = .ok sz w := run_sizeOf (by simpa [tSize] using h2)
    rw [Instr.indexAt, run_bindOk run_asIntOf]
    simp only []
    rw [run_bindOk (run_und hu)]
    simp only [Instr.sureAddr]
    rw [run_bindOk (run_pure _)]
    rw [run_bindOk (run_pure _)]
    simp only []
    rw [run_bindOk (run_und hu)]
    simp only [hi, and_self, if_true]
    rw [run_bindOk hs, addr_add]; rfl

theorem y_ext {x : Operand} {vs : Array Value} {i : Nat} {v : Value} (hx : ev rs x = some (.tuple vs)) (hv : vs[i]? = some v) : Yv P S n rs (.extract x i) t v := fun a ha w _ d pos af g => by
  simp only [execOp, ev_sound ha hx]
  exact run_value (by simp [Instr.extract, hv, run_pure])
theorem y_not {x : Operand} {b : Bool} {T : TypeId} (hx : ev rs x = some (.bool b)) : Yv P S n rs (.unOp .not T x) t (.bool (!b)) := fun a ha w _ d pos af g => by
  simp only [execOp, ev_sound ha hx]
  exact run_value (by simp [Op.unary, run_pure])
theorem y_neg {x : Operand} {k : IntKind} {i : Int} {T : TypeId} (hx : ev rs x = some (.int k i)) : Yv P S n rs (.unOp .neg T x) t (.int k (k.wrap (0 - i))) := fun a ha w _ d pos af g => by
  simp only [execOp, ev_sound ha hx]
  exact run_value (by simp [Op.unary, Op.intArith, run_pure])
theorem y_pick {x y z : Operand} {b : Bool} {v : Value} (hx : ev rs x = some (.bool b)) (hy : (if b then ev rs y else ev rs z) = some v) : Yv P S n rs (.pick x y z) t v := fun a ha w _ d pos af g => by
  simp only [execOp, ev_sound ha hx]
  have : (asBool (.bool b)).run P w = .ok b w := rfl
  rw [run_bindOk this]
  cases b
  · have hy : ev rs z = some v := hy
    rw [ev_sound ha hy]; rfl
  · have hy : ev rs y = some v := hy
    rw [ev_sound ha hy]; rfl
theorem y_mkfn {fn : Fn} {fi ca : Array Operand} {vf vc : List Value} (hf : evs rs fi.toList = some vf) (hc : evs rs ca.toList = some vc) : Yv P S n rs (.makeFunc fn fi ca) t (.func fn vf.toArray vc.toArray) := fun a ha w _ d pos af g => by
  have h1 : fi.map a.eval = vf.toArray := Array.ext' (by simpa using evs_sound ha hf)
  have h2 : ca.map a.eval = vc.toArray := Array.ext' (by simpa using evs_sound ha hc)
  simp only [execOp, h1, h2]
  exact run_value (by simp [Instr.makeFunc, run_pure])

/-- a sum and its like of two whole numbers -/
theorem run_eqGuard {op : BinOp} {T : TypeId} {x y : Operand} {k k' : IntKind} {i j : Int} {w : World} : (eqGuard op T x y (.int k i) (.int k' j)).run P w = .ok () w := by
  unfold eqGuard; split <;> simp [run_pure]
theorem run_eqGuardS {op : BinOp} {T : TypeId} {x y : Operand} {i j : ByteArray} {w : World} : (eqGuard op T x y (.string i) (.string j)).run P w = .ok () w := by
  unfold eqGuard; split <;> simp [run_pure]
theorem y_bin {op : BinOp} {T T' : TypeId} {x y : Operand} {k : IntKind} {i j : Int} {v : Value} (hx : ev rs x = some (.int k i)) (hy : ev rs y = some (.int k j))
    (hr : ∀ w, (binOp op T (.int k i) (.int k j)).run P w = .ok v w) : Yv P S n rs (.binOp op T x y T') t v := fun a ha w _ d pos af g => by
  simp only [execOp, ev_sound ha hx, ev_sound ha hy]
  exact run_value (by rw [run_bindOk run_eqGuard]; exact hr w)
theorem y_add {T T' : TypeId} {x y : Operand} {k : IntKind} {i j r : Int} (hx : ev rs x = some (.int k i)) (hy : ev rs y = some (.int k j)) (hr : k.wrap (i + j) = r) : Yv P S n rs (.binOp .add T x y T') t (.int k r) :=
  y_bin hx hy fun w => by simp [binOp, Op.intArith, run_pure, hr]
theorem y_sub {T T' : TypeId} {x y : Operand} {k : IntKind} {i j r : Int} (hx : ev rs x = some (.int k i)) (hy : ev rs y = some (.int k j)) (hr : k.wrap (i - j) = r) : Yv P S n rs (.binOp .sub T x y T') t (.int k r) :=
  y_bin hx hy fun w => by simp [binOp, Op.intArith, run_pure, hr]
theorem y_mul {T T' : TypeId} {x y : Operand} {k : IntKind} {i j r : Int} (hx : ev rs x = some (.int k i)) (hy : ev rs y = some (.int k j)) (hr : k.wrap (i * j) = r) : Yv P S n rs (.binOp .mul T x y T') t (.int k r) :=
  y_bin hx hy fun w => by simp [binOp, Op.intArith, run_pure, hr]
theorem y_quo {T T' : TypeId} {x y : Operand} {k : IntKind} {i j r : Int} (hx : ev rs x = some (.int k i)) (hy : ev rs y = some (.int k j)) (h0 : j ≠ 0) (hr : k.wrap (i.tdiv j) = r) : Yv P S n rs (.binOp .quo T x y T') t (.int k r) :=
  y_bin hx hy fun w => by simp [binOp, Op.intDiv, run_pure, hr, h0]
theorem y_rem {T T' : TypeId} {x y : Operand} {k : IntKind} {i j r : Int} (hx : ev rs x = some (.int k i)) (hy : ev rs y = some (.int k j)) (h0 : j ≠ 0) (hr : i.tmod j = r) : Yv P S n rs (.binOp .rem T x y T') t (.int k r) :=
  y_bin hx hy fun w => by simp [binOp, Op.intDiv, run_pure, hr, h0]
theorem y_eq {T T' : TypeId} {x y : Operand} {k : IntKind} {i j : Int} (hx : ev rs x = some (.int k i)) (hy : ev rs y = some (.int k j)) {b : Bool} (hb : decide (i = j) = b) : Yv P S n rs (.binOp .eql T x y T') t (.bool b) :=
  hb ▸ y_bin hx hy fun w => by simp [binOp, Op.intCmp, run_pure]; rw [Bool.eq_iff_iff]; simp
theorem y_ne {T T' : TypeId} {x y : Operand} {k : IntKind} {i j : Int} (hx : ev rs x = some (.int k i)) (hy : ev rs y = some (.int k j)) {b : Bool} (hb : decide (i ≠ j) = b) : Yv P S n rs (.binOp .neq T x y T') t (.bool b) :=
  hb ▸ y_bin hx hy fun w => by simp [binOp, Op.intCmp, run_pure]; rw [Bool.eq_iff_iff]; simp
theorem y_lt {T T' : TypeId} {x y : Operand} {k : IntKind} {i j : Int} (hx : ev rs x = some (.int k i)) (hy : ev rs y = some (.int k j)) {b : Bool} (hb : decide (i < j) = b) : Yv P S n rs (.binOp .lss T x y T') t (.bool b) :=
  hb ▸ y_bin hx hy fun w => by simp [binOp, Op.intCmp, run_pure]
theorem y_le {T T' : TypeId} {x y : Operand} {k : IntKind} {i j : Int} (hx : ev rs x = some (.int k i)) (hy : ev rs y = some (.int k j)) {b : Bool} (hb : decide (i ≤ j) = b) : Yv P S n rs (.binOp .leq T x y T') t (.bool b) :=
  hb ▸ y_bin hx hy fun w => by simp [binOp, Op.intCmp, run_pure]
theorem y_gt {T T' : TypeId} {x y : Operand} {k : IntKind} {i j : Int} (hx : ev rs x = some (.int k i)) (hy : ev rs y = some (.int k j)) {b : Bool} (hb : decide (j < i) = b) : Yv P S n rs (.binOp .gtr T x y T') t (.bool b) :=
  hb ▸ y_bin hx hy fun w => by simp [binOp, Op.intCmp, run_pure]
theorem y_ge {T T' : TypeId} {x y : Operand} {k : IntKind} {i j : Int} (hx : ev rs x = some (.int k i)) (hy : ev rs y = some (.int k j)) {b : Bool} (hb : decide (j ≤ i) = b) : Yv P S n rs (.binOp .geq T x y T') t (.bool b) :=
  hb ▸ y_bin hx hy fun w => by simp [binOp, Op.intCmp, run_pure]
theorem y_bits {op : BinOp} {T T' : TypeId} {x y : Operand} {k : IntKind} {i j r : Int} (hx : ev rs x = some (.int k i)) (hy : ev rs y = some (.int k j))
    (hr : ∀ w, (Op.intBits op k i j).run P w = .ok (.int k r) w) (ho : (match op with | .and | .or | .xor | .andNot => true | _ => false) = true) : Yv P S n rs (.binOp op T x y T') t (.int k r) :=
  y_bin hx hy fun w => by cases op <;> simp at ho <;> simp [binOp, hr]
theorem y_conv {x : Operand} {A B : TypeId} {k k' : IntKind} {i r : Int} (hx : ev rs x = some (.int k i)) (ha : tInt P A k = true) (hb : tInt P B k' = true) (hr : k'.wrap i = r) : Yv P S n rs (.convert A B x) t (.int k' r) := fun a ha' w _ d pos af g => by
  simp only [execOp, ev_sound ha' hx]
  refine run_value ?_
  unfold tInt at ha hb
  cases hu : P.underlying A with
  | none => simp [hu] at ha
  | some D =>
    cases hu' : P.underlying B with
    | none => simp [hu'] at hb
    | some D' =>
      cases D' <;> simp [hu'] at hb
      subst hb
      rw [convert, run_bindOk (run_und hu), run_bindOk (run_und hu')]
      simp [Conv.intToInt, hr, run_pure]

-- texts
theorem y_seq {T T' : TypeId} {x y : Operand} {i j : List UInt8} (hx : ev rs x = some (str i)) (hy : ev rs y = some (str j)) {b : Bool} (hb : decide (i = j) = b) : Yv P S n rs (.binOp .eql T x y T') t (.bool b) := fun a ha w _ d pos af g => by
  subst hb
  simp only [execOp, ev_sound ha hx, ev_sound ha hy, str]
  refine run_value ?_
  rw [run_bindOk run_eqGuardS]
  simp only [binOp, Op.stringOp, str_toList, run_pure]
  congr 2
  rw [Bool.eq_iff_iff]; simp
theorem y_sne {T T' : TypeId} {x y : Operand} {i j : List UInt8} (hx : ev rs x = some (str i)) (hy : ev rs y = some (str j)) {b : Bool} (hb : decide (i ≠ j) = b) : Yv P S n rs (.binOp .neq T x y T') t (.bool b) := fun a ha w _ d pos af g => by
  subst hb
  simp only [execOp, ev_sound ha hx, ev_sound ha hy, str]
  refine run_value ?_
  rw [run_bindOk run_eqGuardS]
  simp only [binOp, Op.stringOp, str_toList, run_pure]
  congr 2
  rw [Bool.eq_iff_iff]; simp
theorem y_sgt {T T' : TypeId} {x y : Operand} {i j : List UInt8} (hx : ev rs x = some (str i)) (hy : ev rs y = some (str j)) {b : Bool} (hb : (!(Op.bytesLess i j || (i == j))) = b) : Yv P S n rs (.binOp .gtr T x y T') t (.bool b) := fun a ha w _ d pos af g => by
  subst hb
  simp only [execOp, ev_sound ha hx, ev_sound ha hy, str]
  refine run_value ?_
  rw [run_bindOk run_eqGuardS]
  simp [binOp, Op.stringOp, str_toList, run_pure]
theorem y_slt {T T' : TypeId} {x y : Operand} {i j : List UInt8} (hx : ev rs x = some (str i)) (hy : ev rs y = some (str j)) {b : Bool} (hb : Op.bytesLess i j = b) : Yv P S n rs (.binOp .lss T x y T') t (.bool b) := fun a ha w _ d pos af g => by
  subst hb
  simp only [execOp, ev_sound ha hx, ev_sound ha hy, str]
  refine run_value ?_
  rw [run_bindOk run_eqGuardS]
  simp [binOp, Op.stringOp, str_toList, run_pure]
theorem y_cat {T T' : TypeId} {x y : Operand} {i j : List UInt8} (hx : ev rs x = some (str i)) (hy : ev rs y = some (str j)) (hl : i.length + j.length ≤ 9223372036854775807) : Yv P S n rs (.binOp .add T x y T') t (str (i ++ j)) := fun a ha w _ d pos af g => by
  simp only [execOp, ev_sound ha hx, ev_sound ha hy, str]
  refine run_value ?_
  rw [run_bindOk run_eqGuardS]
  have : ¬ (((i.length + j.length : Nat) : Int) > IntKind.i64.max) := by simp [IntKind.max, IntKind.bits, IntKind.signed]; omega
  simp only [binOp, Op.stringOp, str_size]
  rw [if_neg this, str_append]; rfl
/-- a builtin -/
theorem run_bi {b : Builtin} {T : Array TypeId} {l : List Operand} {vs : List Value} {v : Value} {a : Act} {w w' : World} (ha : Has a n rs) (hx : evs rs l = some vs)
    (h : ∀ cs, (builtin b T t cs vs.toArray).run P w = .ok (.value v) w') (d : Option Tmp) (pos : String) (af : Array Edge) (g : Option (Nat × Bool)) :
    (execOp a.eval ⟨d, .call ⟨.builtin b, l.toArray, T⟩, t, pos, af, g⟩).run P w = .ok (.value v) w' := by
  have h1 : l.toArray.map a.eval = vs.toArray := Array.ext' (by simpa using evs_sound ha hx)
  simp only [execOp, resolve, h1]
  rw [run_bindOk (run_pure _)]
  exact h _
theorem y_bi {b : Builtin} {T : Array TypeId} {l : List Operand} {vs : List Value} {v : Value} (hx : evs rs l = some vs)
    (h : ∀ w, S w → ∀ cs, (builtin b T t cs vs.toArray).run P w = .ok (.value v) w) : Yv P S n rs (.call ⟨.builtin b, l.toArray, T⟩) t v :=
  fun _ ha w hS d pos af g => run_bi ha hx (h w hS) d pos af g

theorem y_lenS {x : Operand} {T : TypeId} {i : List UInt8} (hx : ev rs x = some (str i)) (ht : tStr P T = true) : Yv P S n rs (.call ⟨.builtin .len, #[x], #[T]⟩) t (.int .i64 i.length) :=
  y_bi (l := [x]) (vs := [str i]) (by simp [evs, hx]) fun w _ cs => by
    unfold tStr at ht
    cases hu : P.underlying T with
    | none => simp [hu] at ht
    | some D =>
      cases D <;> simp [hu] at ht
      refine run_value ?_
      simp only [Builtin.len_, List.getElem?_toArray, List.getElem?_cons_zero, str]
      rw [run_bindOk (run_und hu)]
      simp [goInt, run_pure, str_size]
theorem y_lenL {x : Operand} {T E sz : Nat} {p : Option Addr} {k cap : Nat} (hx : ev rs x = some (.slice p k cap)) (ht : tSlice P T E sz = true) : Yv P S n rs (.call ⟨.builtin .len, #[x], #[T]⟩) t (.int .i64 k) :=
  y_bi (l := [x]) (vs := [.slice p k cap]) (by simp [evs, hx]) fun w _ cs => by
    unfold tSlice at ht
    cases hu : P.underlying T with
    | none => simp [hu] at ht
    | some D =>
      cases D <;> simp [hu] at ht
      refine run_value ?_
      simp only [Builtin.len_, List.getElem?_toArray, List.getElem?_cons_zero]
      rw [run_bindOk (run_und hu)]
      simp [goInt, run_pure]

theorem run_eqGuardP {op : BinOp} {T : TypeId} {x y : Operand} {p q : Option Addr} {w : World} : (eqGuard op T x y (.pointer p) (.pointer q)).run P w = .ok () w := by
  unfold eqGuard; split <;> simp [run_pure]
def tPtr (P : Program) (T : Nat) : Bool := match P.underlying T with | some (.pointer _) => true | _ => false
theorem run_equalP {T : TypeId} {p : Option Addr} {w : World} (ht : tPtr P T = true) : (Op.equal T (.pointer p) (.pointer none)).run P w = .ok p.isNone w := by
  unfold tPtr at ht
  cases hu : P.underlying T with
  | none => simp [hu] at ht
  | some D =>
    cases D <;> simp [hu] at ht
    rw [Op.equal, Op.maxDepth, Op.equalIn, run_bindOk (run_und hu)]
    cases p <;> rfl
theorem y_peq {T T' : TypeId} {x y : Operand} {p : Option Addr} (hx : ev rs x = some (.pointer p)) (hy : ev rs y = some (.pointer none)) (ht : tPtr P T = true) : Yv P S n rs (.binOp .eql T x y T') t (.bool p.isNone) := fun a ha w _ d pos af g => by
  simp only [execOp, ev_sound ha hx, ev_sound ha hy]
  refine run_value ?_
  rw [run_bindOk run_eqGuardP]
  simp only [binOp]
  rw [run_bindOk (run_equalP ht)]; rfl
theorem y_pne {T T' : TypeId} {x y : Operand} {p : Option Addr} (hx : ev rs x = some (.pointer p)) (hy : ev rs y = some (.pointer none)) (ht : tPtr P T = true) : Yv P S n rs (.binOp .neq T x y T') t (.bool (!p.isNone)) := fun a ha w _ d pos af g => by
  simp only [execOp, ev_sound ha hx, ev_sound ha hy]
  refine run_value ?_
  rw [run_bindOk run_eqGuardP]
  simp only [binOp]
  rw [run_bindOk (run_equalP ht)]; rfl
end
section
theorem wrap_i64 {x : Int} (h : -9223372036854775808 ≤ x ∧ x ≤ 9223372036854775807) : IntKind.i64.wrap x = x := by
  simp only [IntKind.wrap, IntKind.bits, IntKind.signed]; simp; omega
theorem wrap_u64 {x : Int} (h : 0 ≤ x ∧ x ≤ 18446744073709551615) : IntKind.u64.wrap x = x := by
  simp only [IntKind.wrap, IntKind.bits, IntKind.signed]; simp; omega
theorem wrap_u32 {x : Int} (h : 0 ≤ x ∧ x ≤ 4294967295) : IntKind.u32.wrap x = x := by
  simp only [IntKind.wrap, IntKind.bits, IntKind.signed]; simp; omega
theorem wrap_u8 {x : Int} (h : 0 ≤ x ∧ x ≤ 255) : IntKind.u8.wrap x = x := by
  simp only [IntKind.wrap, IntKind.bits, IntKind.signed]; simp; omega
theorem wrap_i32 {x : Int} (h : -2147483648 ≤ x ∧ x ≤ 2147483647) : IntKind.i32.wrap x = x := by
  simp only [IntKind.wrap, IntKind.bits, IntKind.signed]; simp; omega
end
end Go.Sx
