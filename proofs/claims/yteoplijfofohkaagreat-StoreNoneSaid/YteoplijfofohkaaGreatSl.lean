/- Slices: a run of cells in a block of their own, with what lies ahead and behind; append. -/
import Derived.Test.YteoplijfofohkaaGreatMap
import Derived.Deep.AppendSrc
namespace Go.Sx
open Go
variable [Env]

/-- v is a slice of n elements, that are the cells cs; nobody else has its array. -/
def sliceAt (E sz : Nat) (v : Value) (n : Nat) (cs : List Value) : Asrt := fun h =>
  ∃ x : Option (Nat × List Value × List Value × Nat), match x with
    | none => (v = .slice none 0 0 ∧ n = 0 ∧ cs = []) ∧ emp h
    | some (b, pre, spare, cap) => (v = .slice (some ⟨b, pre.length, none⟩) n cap ∧ cs.length = n * sz ∧ cs.length + spare.length = cap * sz) ∧ pt b (.cells (pre ++ cs ++ spare).toArray E (0, 0)) h

omit [Env] in
theorem blit_list : ∀ (news A B S : List Value), S.length = news.length → blit (A ++ S ++ B).toArray A.length news = (A ++ news ++ B).toArray
  | [], A, B, S, h => by have : S = [] := by simpa using h
                         subst this; simp [blit]
  | v :: news, A, B, S, h => by
    cases S with
    | nil => simp at h
    | cons s S =>
      rw [blit]
      have : (A ++ (s :: S) ++ B).toArray.setIfInBounds A.length v = ((A ++ [v]) ++ S ++ B).toArray := by
        simp
      rw [this]
      have := blit_list news (A ++ [v]) B S (by simpa using h)
      simp only [List.length_append, List.length_cons, List.length_nil] at this
      rw [this]; simp

def tBytes (P : Program) (E n : Nat) : Bool := (P.info? E).any (fun i => i.bytes == n && i.zero.isSome)
omit [Env] in
theorem growBy_le (N : Nat) : ∀ (k c : Nat), c < N → Builtin.growBy N k c ≤ N + (N + 768) / 4
  | 0, c, h => by simp [Builtin.growBy]; omega
  | k + 1, c, h => by
    unfold Builtin.growBy
    split
    · omega
    · by_cases h2 : c + (c + 768) / 4 < N
      · exact growBy_le N k _ h2
      · cases k with
        | zero => simp [Builtin.growBy]; omega
        | succ k => unfold Builtin.growBy; rw [if_pos (by omega)]; omega
omit [Env] in
theorem next_le {N c : Nat} (h : c < N) : Builtin.nextslicecap N c ≤ 2 * N + 768 := by
  unfold Builtin.nextslicecap
  split
  · omega
  · split
    · omega
    · have := growBy_le N 4 c h; omega
omit [Env] in
theorem app_arr (A : List Value) (B : Array Value) : A.toArray ++ B = (A ++ B.toList).toArray := by apply Array.ext'; simp
omit [Env] in
theorem oneCell_eq (v : Value) : oneCell v = v.oneCell' := by cases v <;> rfl

section
variable {P : Program} {w : World}
omit [Env] in
theorem setCell_wupd {b o : Nat} {c : Array Value} {T : TypeId} {v : Value} (hb : w.heap[b]? = some (.cells c T (0, 0))) : w.setCell ⟨b, o, none⟩ v = wupd w b (.cells (c.setIfInBounds o v) T (0, 0)) := by
  unfold World.setCell wupd
  congr 1
  apply Array.ext_getElem?
  intro i
  rw [Array.getElem?_modify, Array.getElem?_setIfInBounds]
  split
  · rename_i e; subst e; rw [hb]; simp
    have : b < w.heap.size := by
      rcases Nat.lt_or_ge b w.heap.size with h' | h'
      · exact h'
      · simp [Array.getElem?_eq_none h'] at hb
    simpa using this
  · rfl
omit [Env] in
theorem setCells_wupd {b : Nat} {T : TypeId} : ∀ (l : List Value) (o : Nat) (c : Array Value) (w : World), w.heap[b]? = some (.cells c T (0, 0)) → w.setCells b o l = wupd w b (.cells (blit c o l) T (0, 0))
  | [], o, c, w, hb => by simp [World.setCells, blit, upd_same w hb]
  | v :: l, o, c, w, hb => by
    rw [World.setCells, setCell_wupd hb, setCells_wupd l (o + 1) _ _ (upd_get w _ hb), upd_upd]; rfl
omit [Env] in
theorem run_firstCells {sz n b o : Nat} {c : Array Value} {T : TypeId} {fr : Nat × Nat} {cap k : Nat} (hb : w.heap[b]? = some (.cells c T fr)) (h : o + n * sz ≤ c.size) :
    (Builtin.firstCells sz n (.slice (some ⟨b, o, none⟩) k cap)).run P w = .ok (c.extract o (o + n * sz)) w := by
  simp only [Builtin.firstCells]
  rw [loadCells, run_loadCellsFrom hb (n * sz) 0 #[] (by omega)]; simp

/-- where what is appended comes from -/
theorem Src.pt {L : List Asrt} {sz tx e' b o m cap : Nat} {c : Array Value} {T : TypeId} {fr : Nat × Nat} {news : List Value} (hs : Sat w L) (i : Nat) (hi : L[i]? = some (Sx.pt b (.cells c T fr))) (hk : P.underlying tx = some (.slice e'))
    (h : o + m * sz ≤ c.size) (hn : c.extract o (o + m * sz) = news.toArray) (h1 : news.all oneCell = true) : Src P sz tx (.slice (some ⟨b, o, none⟩) m cap) m news w :=
  ⟨.inl ⟨e', hk⟩, fun _ => rfl, by rw [← hn]; exact run_firstCells (hs.get i hi) h, by rw [← hn]; exact run_firstCells (w := w.drew) (hs.get i hi) h, by
    have := congrArg Array.size hn
    simp at this; omega, fun u hu => by rw [← oneCell_eq]; exact List.all_eq_true.1 h1 u hu⟩
theorem Src.slice {L : List Asrt} {E sz tx e' m : Nat} {v : Value} {news : List Value} (hs : Sat w L) (i : Nat) (hi : L[i]? = some (sliceAt E sz v m news)) (hk : P.underlying tx = some (.slice e'))
    (h1 : news.all oneCell = true) : Src P sz tx v m news w := by
  obtain ⟨x, hx⟩ := (hs.front i hi).exists
  cases x with
  | none =>
    obtain ⟨⟨rfl, rfl, rfl⟩, _⟩ := hx.pure
    exact Src.ofNil w hk 0
  | some x =>
    obtain ⟨b, pre, spare, cap⟩ := x
    obtain ⟨⟨rfl, h3, h4⟩, hx2⟩ := hx.pure
    refine Src.pt hx2 0 rfl hk (by simp; omega) ?_ h1
    apply Array.ext'
    simp [List.extract_eq_take_drop, h3]

theorem run_append {E sz bytes n m : Nat} {t tx T : TypeId} {sv xv : Value} {cs news : List Value} {L : List Asrt} (ht : tSlice P T E sz = true)
    (hby : tBytes P E bytes = true) (hz : ∃ z, tZero P E z ∧ z.cells.size = sz) (hroom : (2 * (n + m) + 768) * bytes ≤ 281474976710656) (h63 : n + m ≤ 9223372036854775807) (hs : Sat w (sliceAt E sz sv n cs :: L)) (hx : Src P sz tx xv m news w) :
    ∃ v' w', (Builtin.append_ #[T, tx] t #[sv, xv]).run P w = .ok v' w' ∧ Sat w' (sliceAt E sz v' (n + m) (cs ++ news) :: L) := by
  unfold tSlice at ht
  cases hu : P.underlying T with
  | none => simp [hu] at ht
  | some D =>
    cases D <;> simp [hu] at ht
    rename_i e
    obtain ⟨rfl, h2⟩ := ht
    unfold tBytes at hby
    cases hi : P.info? e with
    | none => simp [hi] at h2
    | some i =>
      simp [hi] at h2 hby
      obtain ⟨z, ⟨i', hi', hz1⟩, hz2⟩ := hz
      obtain rfl : i = i' := by rw [hi] at hi'; exact Option.some.inj hi'
      subst h2
      have hbytes : ∀ {N c : Nat}, c < N → N = n + m → Builtin.nextslicecap N c * i.bytes ≤ 281474976710656 := fun {N c} hlt hN => by
        have h1 := next_le hlt
        rw [hby.1]
        exact Nat.le_trans (Nat.mul_le_mul_right bytes h1) (by rw [hN]; exact hroom)
      obtain ⟨x, hs⟩ := hs.exists
      -- a new row
      have grown : ∀ (old : Nat) (old_lt : old < n + m), Sat w L → Sat (w.drew.alloc (.cells ((cs ++ news).toArray ++ Builtin.zeroCells z.cells (grownCap w (n + m) old e - (n + m))) e))
          (pt w.heap.size (.cells ((cs ++ news).toArray ++ Builtin.zeroCells z.cells (grownCap w (n + m) old e - (n + m))) e (0, 0)) :: L) := fun old _ h => h.drew.alloc _
      have hcap : ∀ old, n + m ≤ grownCap w (n + m) old e := fun old => by simp [grownCap, Question.cut]
      have hzl : ∀ k, (Builtin.zeroCells z.cells k).toList.length = k * i.size := fun k => by simp [Builtin.zeroCells, hz2]
      cases x with
      | none =>
        obtain ⟨⟨rfl, rfl, rfl⟩, hs'⟩ := hs.pure
        replace hs := hs'
        by_cases hm : m = 0
        · subst hm
          have hnews : news = [] := by have := hx.newsLen; simpa using this
          subst hnews
          refine ⟨.slice none 0 0, w, ?_, ?_⟩
          · rcases hx.kind with ⟨e', hk⟩ | hk <;> simp [Builtin.append_, run_underlying hu, run_underlying hk, sizeOf, typeInfo, hi, hx.len, hx.cells]
          · exact hs.impl fun g hg => ⟨none, ⟨rfl, rfl, rfl⟩, hg⟩
        · have hr := run_append_grow_src (P := P) w T tx t e i z hu hi hz1 none 0 0 [] (by simp [Builtin.firstCells, go_sem]) xv m news hx (by omega) (by omega) (hbytes (by omega) rfl)
          refine ⟨_, _, hr, ?_⟩
          refine (grown 0 (by omega) hs.tail).impl fun g hg => ⟨some (w.heap.size, [], (Builtin.zeroCells z.cells (grownCap w (0 + m) 0 e - (0 + m))).toList, grownCap w (0 + m) 0 e), ⟨rfl, by simp [hx.newsLen], ?_⟩, ?_⟩
          · rw [hzl]; have := hcap 0; simp only [List.nil_append, hx.newsLen, Nat.zero_add] at *; rw [← Nat.add_mul]; congr 1; omega
          · rw [app_arr] at hg; simpa using hg
      | some x =>
        obtain ⟨b, pre, spare, cap⟩ := x
        obtain ⟨⟨rfl, h3, h4⟩, hs'⟩ := hs.pure
        replace hs := hs'
        by_cases hfit : n + m ≤ cap
        · have hb := hs.get 0 rfl
          have hml : news.length ≤ spare.length := by
            have := Nat.mul_le_mul_right i.size hfit
            rw [Nat.add_mul] at this
            have := hx.newsLen
            omega
          have hcell : ∀ j, j < news.length → (w.cell? ⟨b, pre.length + n * i.size + j, none⟩).isSome = true := fun j hj => by
            simp only [World.cell?, hb, List.getElem?_toArray]
            simp; omega
          have hr := run_append_room_src (P := P) w T tx t e i hu hi b pre.length n cap xv m news hx hfit hcell (fun j hj => by simp [World.frozen?, hb])
          refine ⟨_, _, hr, ?_⟩
          rw [setCells_wupd news _ _ w hb]
          have he : blit (pre ++ cs ++ spare).toArray (pre.length + n * i.size) news = (pre ++ (cs ++ news) ++ spare.drop news.length).toArray := by
            have h5 : pre ++ cs ++ spare = (pre ++ cs) ++ spare.take news.length ++ spare.drop news.length := by simp
            have h6 : pre.length + n * i.size = (pre ++ cs).length := by simp [h3]
            rw [h5, h6, blit_list news (pre ++ cs) (spare.drop news.length) (spare.take news.length) (by simp; omega)]
            simp
          rw [he]
          refine hs.upd.impl fun g hg => ⟨some (b, pre, spare.drop news.length, cap), ⟨rfl, ?_, ?_⟩, hg⟩
          · simp [h3, hx.newsLen, Nat.add_mul]
          · simp; omega
        · have hb := hs.get 0 rfl
          have hold : (Builtin.firstCells i.size n (.slice (some ⟨b, pre.length, none⟩) n cap)).run P w.drew = .ok cs.toArray w.drew := by
            have := run_firstCells (P := P) (w := w.drew) (sz := i.size) (n := n) (o := pre.length) (cap := cap) (k := n) hb (by simp; omega)
            rw [this]
            congr 1
            apply Array.ext'
            simp [List.extract_eq_take_drop, h3]
          have hr := run_append_grow_src (P := P) w T tx t e i z hu hi hz1 _ n cap cs hold xv m news hx (by omega) (by omega) (hbytes (by omega) rfl)
          refine ⟨_, _, hr, ?_⟩
          refine (grown cap (by omega) hs.tail).impl fun g hg => ⟨some (w.heap.size, [], (Builtin.zeroCells z.cells (grownCap w (n + m) cap e - (n + m))).toList, grownCap w (n + m) cap e), ⟨rfl, by simp [hx.newsLen, h3, Nat.add_mul], ?_⟩, ?_⟩
          · rw [hzl]; have := hcap cap; simp only [List.length_append, hx.newsLen, h3] at *; rw [← Nat.add_mul, ← Nat.add_mul]; congr 1; omega
          · rw [app_arr] at hg; simpa using hg
end
end Go.Sx
