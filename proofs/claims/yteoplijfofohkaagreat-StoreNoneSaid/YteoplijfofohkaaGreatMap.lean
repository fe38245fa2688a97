/- Maps as lists of pairs in the order in which their keys came. -/
import Derived.Test.YteoplijfofohkaaGreatReg
namespace Go.Sx
open Go
variable [Env]

section
variable {κ ν : Type} [DecidableEq κ]
def mget : List (κ × ν) → κ → Option ν
  | [], _ => none
  | (a, v) :: r, k => if a = k then some v else mget r k
def mput : List (κ × ν) → κ → ν → List (κ × ν)
  | [], k, v => [(k, v)]
  | (a, u) :: r, k, v => if a = k then (k, v) :: r else (a, u) :: mput r k v
def mdel : List (κ × ν) → κ → List (κ × ν)
  | [], _ => []
  | (a, u) :: r, k => if a = k then r else (a, u) :: mdel r k
end

/-- How keys of a type are written, and held against one another. -/
structure KeyEnc (P : Program) (K : TypeId) (κ : Type) [DecidableEq κ] (enc : κ → Value) : Prop where
  d : ∃ d, P.underlying K = some d ∧ (match d with | .int _ | .string => true | _ => false) = true ∧ ∀ a b, Instr.sameNow d (enc a) (enc b) = some (decide (a = b))
  bits : ∀ a, Instr.sameBits 10000 (enc a) (enc a) = true
  key : ∀ a, (match enc a with | .int _ _ | .string _ => true | _ => false) = true

omit [Env] in
theorem keyStr {P : Program} {K : TypeId} (h : tStr P K = true) : KeyEnc P K (List UInt8) str := by
  unfold tStr at h
  cases hu : P.underlying K with
  | none => simp [hu] at h
  | some d =>
    cases d <;> simp [hu] at h
    refine ⟨⟨_, hu, rfl, fun a b => ?_⟩, fun a => ?_, fun _ => rfl⟩
    · simp only [Instr.sameNow, str]
      congr 1
      rw [str_beq]
      rw [Bool.eq_iff_iff]; simp
    · simp [Instr.sameBits, str, str_beq]
omit [Env] in
theorem keyInt {P : Program} {K : TypeId} {k : IntKind} (h : tInt P K k = true) : KeyEnc P K Int (fun i => .int k i) := by
  unfold tInt at h
  cases hu : P.underlying K with
  | none => simp [hu] at h
  | some d =>
    cases d <;> simp [hu] at h
    subst h
    refine ⟨⟨_, hu, rfl, fun a b => ?_⟩, fun a => ?_, fun _ => rfl⟩
    · simp only [Instr.sameNow, if_true]
      congr 1
    · simp [Instr.sameBits]

def tMap (P : Program) (T K E : TypeId) : Bool := match P.underlying T with | some (.map k e) => k == K && e == E | _ => false

/-- The block's entries are the pairs, in their order; each came at a time of its own. -/
def Ents {κ ν : Type} (enc : κ → Value) (en : ν → Value) (es : List MapEntry) (clock : Nat) (m : List (κ × ν)) : Prop :=
  es.map (fun e => (e.key, e.val)) = m.map (fun p => (enc p.1, en p.2)) ∧ (es.map (·.born)).Nodup ∧ ∀ e ∈ es, e.born < clock
def mapAt {κ ν : Type} (enc : κ → Value) (en : ν → Value) (b : Nat) (m : List (κ × ν)) : Asrt :=
  fun h => ∃ x : Array MapEntry × Nat, Ents enc en x.1.toList x.2 m ∧ pt b (.map x.1 x.2) h

section
variable {P : Program} {K : TypeId} {κ ν : Type} [DecidableEq κ] {enc : κ → Value} {en : ν → Value} {w : World}
omit [Env] in
theorem run_checkKey (hk : KeyEnc P K κ enc) (a : κ) (e : Bool) : (Instr.checkKey e 10000 K (enc a)).run P w = .ok () w := by
  obtain ⟨d, hu, hd, _⟩ := hk.d
  have := hk.key a
  rw [Instr.checkKey, run_bindOk (run_und hu)]
  cases d <;> simp at hd <;> cases h : enc a <;> simp [h] at this <;> rfl
def mix {κ ν : Type} [DecidableEq κ] : List (κ × ν) → κ → Nat → Option (Nat × ν)
  | [], _, _ => none
  | (a, v) :: r, k, i => if a = k then some (i, v) else mix r k (i + 1)
omit [Env] in
theorem mix_get (k : κ) : ∀ (m : List (κ × ν)) (i : Nat), (mix m k i).map (·.2) = mget m k
  | [], i => rfl
  | (a, v) :: r, i => by
    unfold mix mget
    split
    · rfl
    · exact mix_get k r (i + 1)
omit [Env] in
theorem findNow_eq {d : TypeDesc} (hd : ∀ a b, Instr.sameNow d (enc a) (enc b) = some (decide (a = b))) (k : κ) : ∀ (es : List MapEntry) (m : List (κ × ν)) (i : Nat),
    es.map (fun e => (e.key, e.val)) = m.map (fun p => (enc p.1, en p.2)) → Instr.findNow d (enc k) es i = some ((mix m k i).map fun p => (p.1, en p.2))
  | [], m, i, h => by
    cases m with
    | nil => rfl
    | cons p m => simp at h
  | e :: es, m, i, h => by
    cases m with
    | nil => simp at h
    | cons p m =>
      simp only [List.map_cons, List.cons.injEq, Prod.mk.injEq] at h
      obtain ⟨⟨h1, h2⟩, h3⟩ := h
      unfold Instr.findNow mix
      rw [h1, hd]
      by_cases hp : p.1 = k
      · simp [hp, h2]
      · have : ¬ k = p.1 := fun e => hp e.symm
        simp only [this, hp, decide_false, if_false]
        exact findNow_eq hd k es m (i + 1) h3
omit [Env] in
theorem run_findKey (hk : KeyEnc P K κ enc) (k : κ) {es : List MapEntry} {m : List (κ × ν)} (h : es.map (fun e => (e.key, e.val)) = m.map (fun p => (enc p.1, en p.2))) :
    (Instr.findKey K (enc k) es).run P w = .ok ((mix m k 0).map fun p => (p.1, en p.2)) w := by
  obtain ⟨d, hu, _, hd⟩ := hk.d
  rw [Instr.findKey, run_bindOk (run_und hu)]
  rw [findNow_eq hd k es m 0 h]; rfl
omit [Env] in
theorem run_getMap {b : Nat} {es : Array MapEntry} {c : Nat} (hb : w.heap[b]? = some (.map es c)) : (getObj b).run P w = .ok (.map es c) w := by
  simp [getObj, Sem.run, hb]
omit [Env] in
theorem run_setMap {b : Nat} {es : Array MapEntry} {c : Nat} {o : Obj} (hb : w.heap[b]? = some (.map es c)) : (setObj b o).run P w = .ok () (wupd w b o) := by
  simp only [setObj, Sem.run, hb]; rfl

/-- what a lookup comes to -/
def lkv (en : ν → Value) (z : Value) (r : Option ν) : Value := (r.map en).getD z
omit [Env] in
theorem run_lookup {T E b : Nat} {z : Value} (hk : KeyEnc P K κ enc) (ht : tMap P T K E = true) (hz : tZero P E z) {m : List (κ × ν)} {es : Array MapEntry} {c : Nat}
    (hb : w.heap[b]? = some (.map es c)) (he : Ents enc en es.toList c m) (k : κ) (ok : Bool) :
    (Instr.lookup T (.map (some b)) (enc k) ok).run P w = .ok (if ok then .tuple #[lkv en z (mget m k), .bool (mget m k).isSome] else lkv en z (mget m k)) w := by
  unfold tMap at ht
  cases hu : P.underlying T with
  | none => simp [hu] at ht
  | some D =>
    cases D <;> simp [hu] at ht
    obtain ⟨rfl, rfl⟩ := ht
    rw [Instr.lookup, run_bindOk (run_und hu)]
    simp only []
    rw [run_bindOk (run_getMap hb)]
    simp only []
    rw [run_bindOk (run_pure _), run_bindOk (run_checkKey hk k _), run_bindOk (run_findKey hk k he.1), ← mix_get k m 0]
    cases mix m k 0 with
    | none =>
      simp only [Option.map_none]
      rw [run_bindOk (run_zero hz), run_bindOk (run_pure _)]
      cases ok <;> rfl
    | some p =>
      simp only [Option.map_some]
      rw [run_bindOk (run_pure _)]
      cases ok <;> rfl
omit [Env] in
theorem y_lookup {S : World → Prop} {n : Nat} {rs : RS} {t : TypeId} {x y : Operand} {T E b : Nat} {z : Value} {ok : Bool} {k : κ} {m : List (κ × ν)} (hx : ev rs x = some (.map (some b))) (hy : ev rs y = some (enc k))
    (hk : KeyEnc P K κ enc) (ht : tMap P T K E = true) (hz : tZero P E z) (hb : ∀ w, S w → ∃ es c, w.heap[b]? = some (.map es c) ∧ Ents enc en es.toList c m) :
    Yv P S n rs (.lookup T x y ok) t (if ok then .tuple #[lkv en z (mget m k), .bool (mget m k).isSome] else lkv en z (mget m k)) := fun a ha w hS d pos af g => by
  obtain ⟨es, c, h1, h2⟩ := hb w hS
  simp only [execOp, ev_sound ha hx, ev_sound ha hy]
  exact run_value (run_lookup hk ht hz h1 h2 k ok)
omit [Env] in
theorem y_look {S : World → Prop} {n : Nat} {rs : RS} {t : TypeId} {x y : Operand} {T E b : Nat} {z : Value} {ok : Bool} {k : κ} {m : List (κ × ν)} {r : Option ν} (hx : ev rs x = some (.map (some b))) (hy : ev rs y = some (enc k))
    (hk : KeyEnc P K κ enc) (ht : tMap P T K E = true) (hz : tZero P E z) (hb : ∀ w, S w → ∃ es c, w.heap[b]? = some (.map es c) ∧ Ents enc en es.toList c m) (hr : mget m k = r) :
    Yv P S n rs (.lookup T x y ok) t (if ok then .tuple #[lkv en z r, .bool r.isSome] else lkv en z r) := hr ▸ y_lookup hx hy hk ht hz hb
omit [Env] in
theorem mix_lt (k : κ) : ∀ (m : List (κ × ν)) (i j : Nat) (v : ν), mix m k i = some (j, v) → i ≤ j ∧ j < i + m.length
  | [], i, j, v, h => by simp [mix] at h
  | (a, u) :: r, i, j, v, h => by
    unfold mix at h
    split at h
    · cases h; simp
    · have := mix_lt k r (i + 1) j v h; simp; omega

omit [Env] in
theorem ents_put_none (k : κ) (v : ν) : ∀ (es : List MapEntry) (m : List (κ × ν)) (i : Nat), mix m k i = none → es.map (fun e => (e.key, e.val)) = m.map (fun p => (enc p.1, en p.2)) → ∀ c : Nat,
    (es ++ [(⟨enc k, en v, c⟩ : MapEntry)]).map (fun e : MapEntry => (e.key, e.val)) = (mput m k v).map (fun p => (enc p.1, en p.2)) := by
  intro es m i h he c
  have : mput m k v = m ++ [(k, v)] := by
    clear he c
    induction m generalizing i with
    | nil => rfl
    | cons p m ih =>
      unfold mix at h
      unfold mput
      split at h
      · cases h
      · rename_i hne; rw [if_neg hne]; simp [ih _ h]
  simp [this, he]
omit [Env] in
theorem ents_put_some (k : κ) (v u : ν) (ky : Value) (hky : ky = enc k) : ∀ (es : List MapEntry) (m : List (κ × ν)) (i j : Nat), mix m k i = some (j, u) → es.map (fun e => (e.key, e.val)) = m.map (fun p => (enc p.1, en p.2)) →
    (es.modify (j - i) fun e => { e with key := ky, val := en v }).map (fun e : MapEntry => (e.key, e.val)) = (mput m k v).map (fun p => (enc p.1, en p.2))
  | [], m, i, j, h, he => by
    cases m with
    | nil => simp [mix] at h
    | cons p m => simp at he
  | e :: es, m, i, j, h, he => by
    cases m with
    | nil => simp at he
    | cons p m =>
      simp only [List.map_cons, List.cons.injEq, Prod.mk.injEq] at he
      obtain ⟨⟨h1, h2⟩, h3⟩ := he
      unfold mix at h
      unfold mput
      split at h
      · rename_i hp
        cases h
        simp [hp, hky, h3]
      · rename_i hp
        have hj := mix_lt k m (i + 1) j u h
        rw [if_neg hp, show j - i = (j - (i + 1)) + 1 by omega]
        simp only [List.modify_succ_cons, List.map_cons, h1, h2]
        rw [ents_put_some k v u ky hky es m (i + 1) j h h3]
omit [Env] in
theorem born_modify {f : MapEntry → MapEntry} (hf : ∀ e, (f e).born = e.born) : ∀ (es : List MapEntry) (i : Nat), (es.modify i f).map (·.born) = es.map (·.born)
  | [], i => by simp
  | e :: es, 0 => by simp [hf]
  | e :: es, i + 1 => by simp [born_modify hf es i]

omit [Env] in
/-- m[k] = v -/
theorem run_mapUpdate {T E b : Nat} (hk : KeyEnc P K κ enc) (ht : tMap P T K E = true) {m : List (κ × ν)} {es : Array MapEntry} {c : Nat}
    (hb : w.heap[b]? = some (.map es c)) (he : Ents enc en es.toList c m) (k : κ) (v : ν) :
    ∃ es' c', (Instr.mapUpdate T (.map (some b)) (enc k) (en v)).run P w = .ok () (wupd w b (.map es' c')) ∧ Ents enc en es'.toList c' (mput m k v) := by
  unfold tMap at ht
  cases hu : P.underlying T with
  | none => simp [hu] at ht
  | some D =>
    cases D <;> simp [hu] at ht
    obtain ⟨rfl, rfl⟩ := ht
    rw [Instr.mapUpdate, run_bindOk (run_und hu)]
    simp only []
    rw [run_bindOk (run_getMap hb)]
    simp only []
    rw [run_bindOk (run_checkKey hk k _), run_bindOk (run_findKey hk k he.1)]
    cases hm : mix m k 0 with
    | none =>
      simp only [Option.map_none]
      refine ⟨_, _, run_setMap hb, ?_, ?_, ?_⟩
      · simpa using ents_put_none (en := en) k v es.toList m 0 hm he.1 c
      · simp only [Array.toList_push, List.map_append, List.map_cons, List.map_nil]
        rw [List.nodup_append]
        refine ⟨he.2.1, by simp, fun a ha b hb' => ?_⟩
        obtain ⟨e, hee, rfl⟩ := List.mem_map.1 ha
        have := he.2.2 e hee
        simp at hb'
        omega
      · intro e hee
        simp at hee
        rcases hee with hee | rfl
        · have := he.2.2 e (by simpa using hee); omega
        · simp
    | some p =>
      obtain ⟨j, u⟩ := p
      simp only [Option.map_some]
      have hold : (((es[j]?).map (·.key)).getD (enc k)) = enc k := by
        have hlt := mix_lt k m 0 j u hm
        have hkey : ∀ (m : List (κ × ν)) (i j : Nat) (u : ν), mix m k i = some (j, u) → m[j - i]? = some (k, u) := by
          intro m
          induction m with
          | nil => intro i j u h; simp [mix] at h
          | cons p m ih =>
            intro i j u h
            unfold mix at h
            split at h
            · rename_i hp; cases h; simp [← hp]
            · have := mix_lt k m (i + 1) j u h
              rw [show j - i = (j - (i + 1)) + 1 by omega]
              simpa using ih (i + 1) j u h
        have h1 := hkey m 0 j u hm
        have h2 : (es.toList.map (fun e => (e.key, e.val)))[j]? = some (enc k, en u) := by rw [he.1]; simp at h1; simp [h1]
        simp at h2
        obtain ⟨e, he1, he2, _⟩ := h2
        simp [he1, he2]
      rw [hold]
      have : (Instr.keyThatStays (enc k) (enc k)).run P w = .ok (enc k) w := by simp [Instr.keyThatStays, hk.bits k, run_pure]
      rw [run_bindOk this]
      refine ⟨_, _, run_setMap hb, ?_, ?_, ?_⟩
      · simpa using ents_put_some (en := en) k v u (enc k) rfl es.toList m 0 j hm he.1
      · rw [Array.toList_modify, born_modify (f := fun e => { e with key := enc k, val := en v }) (fun _ => rfl)]; exact he.2.1
      · intro e hee
        rw [Array.toList_modify] at hee
        have h1 : e.born ∈ (es.toList.modify j fun e => { e with key := enc k, val := en v }).map (·.born) := List.mem_map_of_mem hee
        rw [born_modify (f := fun e => { e with key := enc k, val := en v }) (fun _ => rfl)] at h1
        obtain ⟨e', he', h2⟩ := List.mem_map.1 h1
        rw [← h2]; exact he.2.2 e' he'

omit [Env] in
/-- delete(m, k) -/
theorem ents_del (k : κ) : ∀ (es : List MapEntry) (m : List (κ × ν)) (i j : Nat) (u : ν), mix m k i = some (j, u) → es.map (fun e => (e.key, e.val)) = m.map (fun p => (enc p.1, en p.2)) →
    (es.eraseIdx (j - i)).map (fun e : MapEntry => (e.key, e.val)) = (mdel m k).map (fun p => (enc p.1, en p.2))
  | [], m, i, j, u, h, he => by
    cases m with
    | nil => simp [mix] at h
    | cons p m => simp at he
  | e :: es, m, i, j, u, h, he => by
    cases m with
    | nil => simp at he
    | cons p m =>
      simp only [List.map_cons, List.cons.injEq, Prod.mk.injEq] at he
      obtain ⟨⟨h1, h2⟩, h3⟩ := he
      unfold mix at h
      unfold mdel
      split at h
      · rename_i hp
        cases h
        simp [hp, h3]
      · rename_i hp
        have hj := mix_lt k m (i + 1) j u h
        rw [if_neg hp, show j - i = (j - (i + 1)) + 1 by omega]
        simp only [List.eraseIdx_cons_succ, List.map_cons, h1, h2]
        rw [ents_del k es m (i + 1) j u h h3]
omit [Env] in
theorem mdel_none (k : κ) : ∀ (m : List (κ × ν)) (i : Nat), mix m k i = none → mdel m k = m
  | [], i, _ => rfl
  | (a, u) :: r, i, h => by
    unfold mix at h
    unfold mdel
    split at h
    · cases h
    · rename_i hp; rw [if_neg hp, mdel_none k r (i + 1) h]
omit [Env] in
theorem run_delete {T E b : Nat} {tys : Array TypeId} {t : TypeId} (hk : KeyEnc P K κ enc) (ht : tMap P T K E = true) {m : List (κ × ν)} {es : Array MapEntry} {c : Nat} (h0 : tys[0]? = some T)
    (hb : w.heap[b]? = some (.map es c)) (he : Ents enc en es.toList c m) (k : κ) :
    ∃ es' c', (Builtin.delete_ tys t #[.map (some b), enc k]).run P w = .ok (.tuple #[]) (wupd w b (.map es' c')) ∧ Ents enc en es'.toList c' (mdel m k) := by
  unfold tMap at ht
  cases hu : P.underlying T with
  | none => simp [hu] at ht
  | some D =>
    cases D <;> simp [hu] at ht
    obtain ⟨rfl, rfl⟩ := ht
    simp only [Builtin.delete_, h0, List.getElem?_toArray, List.getElem?_cons_zero, List.getElem?_cons_succ]
    rw [run_bindOk (run_und hu)]
    simp only []
    rw [run_bindOk (run_getMap hb)]
    simp only []
    rw [run_bindOk (run_checkKey hk k _), run_bindOk (run_findKey hk k he.1)]
    cases hm : mix m k 0 with
    | none =>
      simp only [Option.map_none]
      exact ⟨_, _, run_bindOk (run_setMap hb), by rw [mdel_none k m 0 hm]; exact he⟩
    | some p =>
      obtain ⟨j, u⟩ := p
      simp only [Option.map_some]
      have hsub : (es.eraseIdxIfInBounds j).toList = es.toList.eraseIdx j := by simp
      refine ⟨_, _, run_bindOk (run_setMap hb), ?_, ?_, ?_⟩
      · rw [hsub]; simpa using ents_del (en := en) k es.toList m 0 j u hm he.1
      · rw [hsub]; exact (List.Sublist.map _ (List.eraseIdx_sublist _ _)).nodup he.2.1
      · intro e hee; rw [hsub] at hee; exact he.2.2 e ((List.eraseIdx_sublist _ _).subset hee)
end

section
variable {P : Program} {n : Nat} {rs : RS} {L : List Asrt} {t : TypeId}
variable {K : TypeId} {κ ν : Type} {enc : κ → Value} {en : ν → Value} {m : List (κ × ν)}
theorem Sat.map {w : World} (h : Sat w L) (i : Nat) {b : Nat} (hi : L[i]? = some (mapAt enc en b m)) : ∃ es c, w.heap[b]? = some (.map es c) ∧ Ents enc en es.toList c m := by
  obtain ⟨x, hx⟩ := (h.front i hi).exists
  obtain ⟨he, hx⟩ := hx.pure
  exact ⟨x.1, x.2, hx.get 0 rfl, he⟩
theorem Sat.atM (i : Nat) {b : Nat} (hi : L[i]? = some (mapAt enc en b m)) : ∀ w, Sat w L → ∃ es c, w.heap[b]? = some (.map es c) ∧ Ents enc en es.toList c m := fun _ h => h.map i hi
omit [Env] in
theorem mapAt_intro {b : Nat} {es : Array MapEntry} {c : Nat} (he : Ents enc en es.toList c m) : ∀ g, pt b (.map es c) g → mapAt enc en b m g := fun g hg => ⟨(es, c), he, hg⟩
omit [Env] in
theorem mapAt_new (enc : κ → Value) (en : ν → Value) (b : Nat) : ∀ g, pt b (.map #[] 0) g → mapAt enc en b [] g := mapAt_intro ⟨rfl, by simp, by simp⟩
theorem Sat.mapTurn {w : World} (h : Sat w L) (i : Nat) {b : Nat} {m' : List (κ × ν)} {es' : Array MapEntry} {c' : Nat} (hi : L[i]? = some (mapAt enc en b m)) (he : Ents enc en es'.toList c' m') : Sat (wupd w b (.map es' c')) (L.set i (mapAt enc en b m')) := by
  have hlt : i < L.length := by
    rcases Nat.lt_or_ge i L.length with h' | h'
    · exact h'
    · simp [List.getElem?_eq_none h'] at hi
  obtain ⟨x, hx⟩ := (h.front i hi).exists
  obtain ⟨_, hx⟩ := hx.pure
  exact (hx.upd.impl (mapAt_intro he)).perm (perm_set i _ hlt)
omit [Env] in
theorem y_lenM {S : World → Prop} {x : Operand} {T E b : Nat} (hx : ev rs x = some (.map (some b))) (ht : tMap P T K E = true) (hb : ∀ w, S w → ∃ es c, w.heap[b]? = some (.map es c) ∧ Ents enc en es.toList c m) :
    Yv P S n rs (.call ⟨.builtin .len, #[x], #[T]⟩) t (.int .i64 m.length) :=
  y_bi (l := [x]) (vs := [.map (some b)]) (by simp [evs, hx]) fun w hS cs => by
    obtain ⟨es, c, h1, h2⟩ := hb w hS
    have hl : es.size = m.length := by have := congrArg List.length h2.1; simpa using this
    unfold tMap at ht
    cases hu : P.underlying T with
    | none => simp [hu] at ht
    | some D =>
      cases D <;> simp [hu] at ht
      refine run_value ?_
      simp only [Builtin.len_, List.getElem?_toArray, List.getElem?_cons_zero]
      rw [run_bindOk (run_und hu)]
      simp only []
      rw [run_bindOk (run_getMap h1)]
      simp [goInt, run_pure, hl]
end
section
variable {P : Program} {ops : Array Oper} {Q : Exit → Act → World → Prop} {n : Nat} {rs : RS} {L : List Asrt} {l : List Oper} {t : TypeId} {d : Nat} {pos : String} {af : Array Edge}
variable {K : TypeId} {κ ν : Type} [DecidableEq κ] {enc : κ → Value} {en : ν → Value} {m : List (κ × ν)}
/-- m[k] = v -/
theorem WLs.mapput {x y z : Operand} {T E b : Nat} {k : κ} {v : ν} (i : Nat) (hx : ev rs x = some (.map (some b))) (hy : ev rs y = some (enc k)) (hz : ev rs z = some (en v))
    (hk : KeyEnc P K κ enc) (ht : tMap P T K E = true) (hi : L[i]? = some (mapAt enc en b m)) (h : WLs P ops Q n l rs (L.set i (mapAt enc en b (mput m k v)))) :
    WLs P ops Q n (⟨none, .mapUpdate T x y z, t, pos, af, none⟩ :: l) rs L := fun w hs => by
  obtain ⟨es, c, h1, h2⟩ := hs.map i hi
  obtain ⟨es', c', h3, h4⟩ := run_mapUpdate hk ht h1 h2 k v
  refine WL.act0 (w' := wupd w b (.map es' c')) (fun a ha d pos af g => ?_) (h _ (hs.mapTurn i hi h4))
  simp only [execOp, ev_sound ha hx, ev_sound ha hy, ev_sound ha hz]
  rw [run_bindOk h3]; rfl
theorem WLs.mapdel {x y : Operand} {T E b : Nat} {k : κ} (i : Nat) (hx : ev rs x = some (.map (some b))) (hy : ev rs y = some (enc k))
    (hk : KeyEnc P K κ enc) (ht : tMap P T K E = true) (hi : L[i]? = some (mapAt enc en b m)) (hd : Nat.blt d n = true) {T' : TypeId} (h : WLs P ops Q n l ((d, .tuple #[]) :: rs) (L.set i (mapAt enc en b (mdel m k)))) :
    WLs P ops Q n (⟨some d, .call ⟨.builtin .delete, #[x, y], #[T, T']⟩, t, pos, af, none⟩ :: l) rs L := fun w hs => by
  obtain ⟨es, c, h1, h2⟩ := hs.map i hi
  obtain ⟨es', c', h3, h4⟩ := run_delete (t := t) (tys := #[T, T']) hk ht (by simp) h1 h2 k
  refine WL.act (w' := wupd w b (.map es' c')) (fun a ha d pos af g => ?_) (blt_lt hd) (h _ (hs.mapTurn i hi h4))
  exact run_bi (l := [x, y]) (vs := [.map (some b), enc k]) ha (by simp [evs, hx, hy]) (fun cs => run_value h3) d pos af g
theorem WLs.mapdel0 {x y : Operand} {T E b : Nat} {k : κ} (i : Nat) (hx : ev rs x = some (.map (some b))) (hy : ev rs y = some (enc k))
    (hk : KeyEnc P K κ enc) (ht : tMap P T K E = true) (hi : L[i]? = some (mapAt enc en b m)) {T' : TypeId} (h : WLs P ops Q n l rs (L.set i (mapAt enc en b (mdel m k)))) :
    WLs P ops Q n (⟨none, .call ⟨.builtin .delete, #[x, y], #[T, T']⟩, t, pos, af, none⟩ :: l) rs L := fun w hs => by
  obtain ⟨es, c, h1, h2⟩ := hs.map i hi
  obtain ⟨es', c', h3, h4⟩ := run_delete (t := t) (tys := #[T, T']) hk ht (by simp) h1 h2 k
  refine WL.act0v (v := .tuple #[]) (w' := wupd w b (.map es' c')) (fun a ha d pos af g => ?_) (h _ (hs.mapTurn i hi h4))
  exact run_bi (l := [x, y]) (vs := [.map (some b), enc k]) ha (by simp [evs, hx, hy]) (fun cs => run_value h3) d pos af g
end
end Go.Sx
