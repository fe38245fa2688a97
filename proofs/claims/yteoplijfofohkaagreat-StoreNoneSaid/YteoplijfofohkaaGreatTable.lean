/- The contracts of package table, and of what it calls. -/
import Derived.Test.YteoplijfofohkaaGreatPolicy
import Derived.Test.YteoplijfofohkaaGreatKeysS
import Derived.Test.YteoplijfofohkaaGreatOp4
namespace Go.Proofs.YteoplijfofohkaaGreat
open Go Go.Sx Go.Hw
theorem ag105 : tAgg Tryz.prog 105 4 = true := by kernel_rfl
theorem fl105_0 : tFld Tryz.prog 105 0 0 = true := by kernel_rfl
theorem fl105_1 : tFld Tryz.prog 105 1 1 = true := by kernel_rfl
theorem fl142_0 : tFld Tryz.prog 142 0 0 = true := by kernel_rfl
theorem fl142_1 : tFld Tryz.prog 142 1 1 = true := by kernel_rfl
theorem mp140 : tMap Tryz.prog 140 9 105 = true := by kernel_rfl
theorem pt90 : tPtr Tryz.prog 90 = true := by kernel_rfl
theorem sc140 : tScal Tryz.prog 140 = true := by kernel_rfl
theorem sz105 : tSize Tryz.prog 105 4 = true := by kernel_rfl
theorem zr105 : tZero Tryz.prog 105 (.agg #[(str []), (str []), (.int .u64 0), (.int .u64 0)]) := tZero_of (by kernel_rfl)
theorem zr142 : tZero Tryz.prog 142 (.agg #[(.map none), (.int .i64 0)]) := tZero_of (by kernel_rfl)
theorem pl142 : tPlaces Tryz.prog 142 #[(0, 1), (1, 1)] := tPlaces_of (by kernel_rfl)
variable [Env]
structure _root_.Go.Hw.Entry where
  key : Str
  value : Str
  version : Nat
  ends : Nat
def entC (e : Entry) : Array Value := #[str e.key, str e.value, u64v e.version, u64v e.ends]
def entv (e : Entry) : Value := .agg (entC e)
def _root_.Go.Hw.Entry.zero : Entry := ⟨[], [], 0, 0⟩
def _root_.Go.Hw.Entry.size (e : Entry) : Nat := e.key.length + e.value.length
abbrev _root_.Go.Hw.Tab := List (Str × Entry)
def tabBytes (m : Tab) : Nat := (m.map fun x => x.2.size).sum
def keysOf (m : Tab) : List Str := (m.map (·.1)).mergeSort fun x y => decide (x ≤ y)
/-- how a table is -/
structure TInv (m : Tab) : Prop where
  nd : (m.map (·.1)).Nodup
  key : ∀ x ∈ m, x.2.key = x.1
  kl : ∀ x ∈ m, x.1.length ≤ 64
  vl : ∀ x ∈ m, x.2.value.length ≤ 4096
  few : m.length ≤ 1001
omit [Env] in
theorem mdel_sub {m : Tab} {k : Str} : List.Sublist (mdel m k) m := by
  induction m with
  | nil => exact .slnil
  | cons x m ih =>
    obtain ⟨a, e⟩ := x
    unfold mdel
    split
    · exact List.sublist_cons_self _ _
    · exact ih.cons_cons _
omit [Env] in
theorem mdel_none {m : Tab} {k : Str} (h : mget m k = none) : mdel m k = m := by
  induction m with
  | nil => rfl
  | cons x m ih =>
    obtain ⟨a, e⟩ := x
    unfold mget at h
    unfold mdel
    split at h
    · cases h
    · rename_i hne; rw [if_neg hne, ih h]
omit [Env] in
theorem mget_mem {m : Tab} {k : Str} {e : Entry} (h : mget m k = some e) : (k, e) ∈ m := by
  induction m with
  | nil => cases h
  | cons x m ih =>
    obtain ⟨a, f⟩ := x
    unfold mget at h
    split at h
    · rename_i he; cases h; subst he; exact .head _
    · exact .tail _ (ih h)
omit [Env] in
theorem tabBytes_del {m : Tab} {k : Str} {e : Entry} (h : mget m k = some e) : tabBytes (mdel m k) + e.size = tabBytes m := by
  induction m with
  | nil => cases h
  | cons x m ih =>
    obtain ⟨a, f⟩ := x
    unfold mget at h
    unfold mdel
    split at h
    · rename_i he; cases h; rw [if_pos he]; simp [tabBytes]; omega
    · rename_i he; rw [if_neg he]; have := ih h; simp only [tabBytes, List.map_cons, List.sum_cons] at *; omega
omit [Env] in
theorem mput_new {m : Tab} {k : Str} {e : Entry} (h : mget m k = none) : mput m k e = m ++ [(k, e)] := by
  induction m with
  | nil => rfl
  | cons x m ih =>
    obtain ⟨a, f⟩ := x
    unfold mget at h
    unfold mput
    split at h
    · cases h
    · rename_i he; rw [if_neg he, ih h]; rfl
omit [Env] in
theorem TInv.sub {m m' : Tab} (h : TInv m) (hs : m'.Sublist m) : TInv m' :=
  ⟨(hs.map _).nodup h.nd, fun x hx => h.key x (hs.subset hx), fun x hx => h.kl x (hs.subset hx), fun x hx => h.vl x (hs.subset hx), Nat.le_trans hs.length_le h.few⟩
omit [Env] in
theorem tabBytes_le {m : Tab} (h : TInv m) : tabBytes m ≤ m.length * 4160 := by
  have hk := h.kl; have hv := h.vl; have hkey := h.key
  clear h
  induction m with
  | nil => simp [tabBytes]
  | cons x m ih =>
    have h1 := hk x (.head _); have h2 := hv x (.head _); have h3 := hkey x (.head _)
    have := ih (fun x hx => hk x (.tail _ hx)) (fun x hx => hv x (.tail _ hx)) (fun x hx => hkey x (.tail _ hx))
    simp only [tabBytes, List.map_cons, List.sum_cons, List.length_cons, Entry.size, h3] at *
    omega
/-- the memory of a table -/
abbrev tabL (b p : Nat) (m : Tab) (L : List Asrt) : List Asrt :=
  mapAt str entv b m :: pt p (.cells #[.map (some b), natv (tabBytes m)] 142 (0, 0)) :: L
def tabAt (p : Nat) (m : Tab) : Asrt := fun h => ∃ b, sepL (tabL b p m []) h
theorem tabAt_open {w : World} {p : Nat} {m : Tab} {L : List Asrt} (hs : Sat w (tabAt p m :: L)) : ∃ b, Sat w (tabL b p m L) := by
  obtain ⟨b, hs⟩ := hs.exists
  exact ⟨b, hs.split⟩
theorem tabAt_shut {w : World} {b p : Nat} {m : Tab} {L : List Asrt} (hs : Sat w (tabL b p m L)) : Sat w (tabAt p m :: L) :=
  (Sat.join (K := tabL b p m []) hs).impl fun _ hg => ⟨b, hg⟩

theorem table_New {w : World} {L : List Asrt} (hs : Sat w L) : Does Tryz.prog 31 [] w fun v w' => ∃ b p, v = rp p ∧ Sat w' (tabL b p [] L) := by
  refine Does.enters hs (n := 4) Tryz.func31 rfl rfl rfl rfl ?_
  refine WCs.seq ?_
  refine WCs.region ?_
  refine WLs.val (y_asgn rfl) rfl <| ?_
  refine WLs.nil ?_
  refine WEs.then_n ?_
  refine WCs.seq ?_
  refine WCs.region ?_
  refine WLs.mkmap rfl (fun b => ?_)
  refine WLs.val (y_build (is := [0]) (xs := [.tmp 1]) #[(0, .tmp 1)] rfl rfl pl142 zr142 rfl) rfl <| ?_
  refine WLs.box rfl rfl (fun p => ?_)
  refine WLs.val (y_asgn rfl) rfl <| ?_
  refine WLs.nil ?_
  refine WEs.then_n ?_
  refine WCs.ret ?_
  refine WEs.ret1 (.inr rfl) rfl rfl ?_
  exact fun w hs => ⟨b, p, rfl, (hs.implAt 1 rfl (mapAt_new str entv b)).swap⟩

theorem table_size {w : World} {L : List Asrt} {e : Entry} (hs : Sat w L) (h1 : e.key.length ≤ 64) (h2 : e.value.length ≤ 4096) : Does Tryz.prog 66 [entv e] w fun v w' => v = natv e.size ∧ Sat w' L := by
  refine Does.enters hs (n := 10) Tryz.func66 rfl rfl rfl rfl ?_
  refine WCs.seq ?_
  refine WCs.region ?_
  refine WLs.box rfl rfl (fun b1 => ?_)
  refine WLs.val (y_asgn rfl) rfl <| ?_
  refine WLs.nil ?_
  refine WEs.then_n ?_
  refine WCs.seq ?_
  refine WCs.region ?_
  refine WLs.val (y_fld rfl fl105_0) rfl <| WLs.val (y_ld rfl sc9 (Sat.at 0 rfl) (by rfl)) rfl <| ?_
  refine WLs.val (y_lenS rfl st9) rfl <| WLs.val (y_fld rfl fl105_1) rfl <| WLs.val (y_ld rfl sc9 (Sat.at 0 rfl) (by rfl)) rfl <| ?_
  refine WLs.val (y_lenS rfl st9) rfl <| WLs.val (y_add rfl rfl ((wrap_i64 (by omega)).trans (Int.natCast_add _ _).symm)) rfl <| ?_
  refine WLs.val (y_asgn rfl) rfl <| ?_
  refine WLs.nil ?_
  refine WEs.then_n ?_
  refine WCs.ret ?_
  refine WEs.ret1 (.inr rfl) rfl rfl ?_
  exact fun w hs => ⟨rfl, hs.tail⟩

theorem table_Get_no {w : World} {L : List Asrt} {b p : Nat} {m : Tab} {k : Str} (hs : Sat w (tabL b p m L)) (h : mget m k = none) : Does Tryz.prog 54 [rp p, str k] w fun v w' => v = .tuple #[entv Entry.zero, .bool false] ∧ Sat w' (tabL b p m L) := by
  refine Does.enters hs (n := 22) Tryz.func54 rfl rfl rfl rfl ?_
  refine WCs.seq ?_
  refine WCs.region ?_
  refine WLs.alloc zr105 rfl (fun r => ?_)
  refine WLs.val (y_asgn rfl) rfl <| ?_
  refine WLs.nil ?_
  refine WEs.then_n ?_
  refine WCs.seq ?_
  refine WCs.seq ?_
  refine WCs.region ?_
  refine WLs.val (y_move rfl) rfl <| WLs.val (y_peq rfl rfl pt90) rfl <| ?_
  refine WLs.nil ?_
  refine WEs.then_n ?_
  refine WCs.cond_f rfl rfl ?_
  refine WCs.skip ?_
  refine WEs.then_n ?_
  refine WCs.seq ?_
  refine WCs.region ?_
  refine WLs.val (y_move rfl) rfl <| WLs.val (y_nil rfl) rfl <| WLs.val (y_fld rfl fl142_0) rfl <| WLs.val (y_ld rfl sc140 (Sat.at 2 rfl) (by rfl)) rfl <| ?_
  refine WLs.val (y_move rfl) rfl <| WLs.val (y_look (enc := str) (en := entv) rfl rfl (keyStr st9) mp140 zr105 (Sat.atM 1 rfl) h) rfl <| ?_
  refine WLs.val (y_move rfl) rfl <| WLs.val (y_ext rfl rfl) rfl <| WLs.val (y_ext rfl rfl) rfl <| ?_
  refine WLs.alloc zr105 rfl (fun q => ?_)
  refine WLs.storeA 0 rfl rfl sz105 rfl rfl (Nat.le_of_ble_eq_true rfl) rfl rfl ?_
  refine WLs.val (y_asgn rfl) rfl <| ?_
  refine WLs.nil ?_
  refine WEs.then_n ?_
  refine WCs.seq ?_
  refine WCs.region ?_
  refine WLs.val (y_ldA rfl ag105 (Sat.at 0 rfl) (Nat.le_of_ble_eq_true rfl) (by rfl)) rfl <| ?_
  refine WLs.val (y_move rfl) rfl <| ?_
  refine WLs.storeA 1 rfl rfl sz105 rfl rfl (Nat.le_of_ble_eq_true rfl) rfl rfl ?_
  refine WLs.val (y_asgn rfl) rfl <| ?_
  refine WLs.nil ?_
  refine WEs.then_n ?_
  refine WCs.ret ?_
  refine WEs.retCT (.inr rfl) rfl rfl rfl ag105 1 rfl (Nat.le_of_ble_eq_true rfl) rfl ?_
  exact fun w hs => ⟨rfl, hs.tail.tail⟩

theorem table_Get_yes {w : World} {L : List Asrt} {b p : Nat} {m : Tab} {k : Str} {e : Entry} (hs : Sat w (tabL b p m L)) (h : mget m k = some e) : Does Tryz.prog 54 [rp p, str k] w fun v w' => v = .tuple #[entv e, .bool true] ∧ Sat w' (tabL b p m L) := by
  refine Does.enters hs (n := 22) Tryz.func54 rfl rfl rfl rfl ?_
  refine WCs.seq ?_
  refine WCs.region ?_
  refine WLs.alloc zr105 rfl (fun r => ?_)
  refine WLs.val (y_asgn rfl) rfl <| ?_
  refine WLs.nil ?_
  refine WEs.then_n ?_
  refine WCs.seq ?_
  refine WCs.seq ?_
  refine WCs.region ?_
  refine WLs.val (y_move rfl) rfl <| WLs.val (y_peq rfl rfl pt90) rfl <| ?_
  refine WLs.nil ?_
  refine WEs.then_n ?_
  refine WCs.cond_f rfl rfl ?_
  refine WCs.skip ?_
  refine WEs.then_n ?_
  refine WCs.seq ?_
  refine WCs.region ?_
  refine WLs.val (y_move rfl) rfl <| WLs.val (y_nil rfl) rfl <| WLs.val (y_fld rfl fl142_0) rfl <| WLs.val (y_ld rfl sc140 (Sat.at 2 rfl) (by rfl)) rfl <| ?_
  refine WLs.val (y_move rfl) rfl <| WLs.val (y_look (enc := str) (en := entv) rfl rfl (keyStr st9) mp140 zr105 (Sat.atM 1 rfl) h) rfl <| ?_
  refine WLs.val (y_move rfl) rfl <| WLs.val (y_ext rfl rfl) rfl <| WLs.val (y_ext rfl rfl) rfl <| ?_
  refine WLs.alloc zr105 rfl (fun q => ?_)
  refine WLs.storeA 0 rfl rfl sz105 rfl rfl (Nat.le_of_ble_eq_true rfl) rfl rfl ?_
  refine WLs.val (y_asgn rfl) rfl <| ?_
  refine WLs.nil ?_
  refine WEs.then_n ?_
  refine WCs.seq ?_
  refine WCs.region ?_
  refine WLs.val (y_ldA rfl ag105 (Sat.at 0 rfl) (Nat.le_of_ble_eq_true rfl) (by rfl)) rfl <| ?_
  refine WLs.val (y_move rfl) rfl <| ?_
  refine WLs.storeA 1 rfl rfl sz105 rfl rfl (Nat.le_of_ble_eq_true rfl) rfl rfl ?_
  refine WLs.val (y_asgn rfl) rfl <| ?_
  refine WLs.nil ?_
  refine WEs.then_n ?_
  refine WCs.ret ?_
  refine WEs.retCT (.inr rfl) rfl rfl rfl ag105 1 rfl (Nat.le_of_ble_eq_true rfl) rfl ?_
  exact fun w hs => ⟨rfl, hs.tail.tail⟩

theorem table_Drop_no {w : World} {L : List Asrt} {b p : Nat} {m : Tab} {k : Str} (hs : Sat w (tabL b p m L)) (h : mget m k = none) : Does Tryz.prog 35 [rp p, str k] w fun v w' => v = .bool false ∧ Sat w' (tabL b p m L) := by
  refine Does.enters hs (n := 29) Tryz.func35 rfl rfl rfl rfl ?_
  refine WCs.seq ?_
  refine WCs.region ?_
  refine WLs.val (y_asgn rfl) rfl <| ?_
  refine WLs.nil ?_
  refine WEs.then_n ?_
  refine WCs.seq ?_
  refine WCs.region ?_
  refine WLs.val (y_move rfl) rfl <| WLs.val (y_move rfl) rfl <| ?_
  refine WLs.callE Tryz.func54 rfl rfl rfl rfl (fun w hs => table_Get_no hs h) ?_
  refine WLs.val (y_move rfl) rfl <| WLs.val (y_ext rfl rfl) rfl <| WLs.val (y_ext rfl rfl) rfl <| ?_
  refine WLs.alloc zr105 rfl (fun q => ?_)
  refine WLs.storeA 0 rfl rfl sz105 rfl rfl (Nat.le_of_ble_eq_true rfl) rfl rfl ?_
  refine WLs.val (y_asgn rfl) rfl <| ?_
  refine WLs.nil ?_
  refine WEs.then_n ?_
  refine WCs.seq ?_
  refine WCs.seq ?_
  refine WCs.region ?_
  refine WLs.val (y_move rfl) rfl <| ?_
  refine WLs.nil ?_
  refine WEs.then_n ?_
  refine WCs.cond_f rfl rfl ?_
  refine WCs.skip ?_
  refine WEs.then_n ?_
  refine WCs.seq ?_
  refine WCs.region ?_
  refine WLs.val (y_move rfl) rfl <| WLs.val (y_asgn rfl) rfl <| ?_
  refine WLs.nil ?_
  refine WEs.then_n ?_
  refine WCs.ret ?_
  refine WEs.ret1 (.inr rfl) rfl rfl ?_
  exact fun w hs => ⟨rfl, hs.tail⟩

theorem table_Drop_yes {w : World} {L : List Asrt} {b p : Nat} {m : Tab} {k : Str} {e : Entry} (hs : Sat w (tabL b p m L)) (hi : TInv m) (h : mget m k = some e) : Does Tryz.prog 35 [rp p, str k] w fun v w' => v = .bool true ∧ Sat w' (tabL b p (mdel m k) L) := by
  have hme := mget_mem h
  have hby := tabBytes_del h
  have hle := tabBytes_le hi
  have hfew := hi.few
  refine Does.enters hs (n := 29) Tryz.func35 rfl rfl rfl rfl ?_
  refine WCs.seq ?_
  refine WCs.region ?_
  refine WLs.val (y_asgn rfl) rfl <| ?_
  refine WLs.nil ?_
  refine WEs.then_n ?_
  refine WCs.seq ?_
  refine WCs.region ?_
  refine WLs.val (y_move rfl) rfl <| WLs.val (y_move rfl) rfl <| ?_
  refine WLs.callE Tryz.func54 rfl rfl rfl rfl (fun w hs => table_Get_yes hs h) ?_
  refine WLs.val (y_move rfl) rfl <| WLs.val (y_ext rfl rfl) rfl <| WLs.val (y_ext rfl rfl) rfl <| ?_
  refine WLs.alloc zr105 rfl (fun q => ?_)
  refine WLs.storeA 0 rfl rfl sz105 rfl rfl (Nat.le_of_ble_eq_true rfl) rfl rfl ?_
  refine WLs.val (y_asgn rfl) rfl <| ?_
  refine WLs.nil ?_
  refine WEs.then_n ?_
  refine WCs.seq ?_
  refine WCs.seq ?_
  refine WCs.region ?_
  refine WLs.val (y_move rfl) rfl <| ?_
  refine WLs.nil ?_
  refine WEs.then_n ?_
  refine WCs.cond_t rfl rfl ?_
  refine WCs.seq ?_
  refine WCs.region ?_
  refine WLs.val (y_move rfl) rfl <| WLs.val (y_nil rfl) rfl <| WLs.val (y_fld rfl fl142_0) rfl <| WLs.val (y_ld rfl sc140 (Sat.at 2 rfl) (by rfl)) rfl <| ?_
  refine WLs.val (y_move rfl) rfl <| ?_
  refine WLs.mapdel0 (enc := str) (en := entv) 1 rfl rfl (keyStr st9) mp140 rfl ?_
  refine WLs.nil ?_
  refine WEs.then_n ?_
  refine WCs.draw (.one 0 3 (.one 1 3 (.one 2 3 (.one 3 0 (.one 4 0 (.one 5 1 (.one 6 3 (.one 7 3 (.one 8 3 (.one 9 2 .nil)))))))))) [9] Tryz.mixed (by kernel_rfl) (by kernel_rfl) rfl (Pf.then Pf.body) (fun _ h => h) ?_
  refine WSs.pure rfl (y_move rfl) rfl ?_
  refine WSs.pure rfl (y_nil rfl) rfl ?_
  refine WSs.pure rfl (y_fld rfl fl142_1) rfl ?_
  refine WSs.val rfl (y_ld rfl sc3 (Sat.at 2 rfl) (by rfl)) rfl ?_
  refine WSs.val rfl (y_ldA rfl ag105 (Sat.at 0 rfl) (Nat.le_of_ble_eq_true rfl) (by rfl)) rfl ?_
  refine WSs.callE rfl Tryz.func66 rfl rfl rfl rfl (fun w hs => table_size hs (by rw [hi.key _ hme]; exact hi.kl _ hme) (hi.vl _ hme)) (fun _ h => h) ?_
  refine WSs.pure rfl (y_sub rfl rfl (wrap_i64 (by omega))) rfl ?_
  refine WSs.pure rfl (y_nil rfl) rfl ?_
  refine WSs.pure rfl (y_fld rfl fl142_1) rfl ?_
  refine WSs.store 2 rfl rfl rfl sz3 rfl (Nat.le_of_ble_eq_true rfl) rfl (show (#[.map (some b), natv (tabBytes m)] : Array Value).setIfInBounds 1 _ = #[.map (some b), natv (tabBytes (mdel m k))] by simp [natv]; omega) ?_
  refine WSs.nil ?_
  refine WEs.then_n ?_
  refine WCs.seq ?_
  refine WCs.region ?_
  refine WLs.val (y_move rfl) rfl <| WLs.val (y_asgn rfl) rfl <| ?_
  refine WLs.nil ?_
  refine WEs.then_n ?_
  refine WCs.ret ?_
  refine WEs.ret1 (.inr rfl) rfl rfl ?_
  exact fun w hs => ⟨rfl, hs.tail⟩

/-- what Put makes of a table -/
def tabPut (m : Tab) (e : Entry) : Tab := mput (mdel m e.key) e.key e
omit [Env] in
theorem mget_mdel {m : Tab} {k : Str} (h : (m.map (·.1)).Nodup) : mget (mdel m k) k = none := mget_mdel_same h
omit [Env] in
theorem tabPut_eq {m : Tab} {e : Entry} (hi : TInv m) : tabPut m e = mdel m e.key ++ [(e.key, e)] := mput_new (mget_mdel hi.nd)
omit [Env] in
theorem TInv.put {m : Tab} {e : Entry} (hi : TInv m) (h1 : e.key.length ≤ 64) (h2 : e.value.length ≤ 4096) (h3 : (mdel m e.key).length ≤ 1000) : TInv (tabPut m e) := by
  rw [tabPut_eq hi]
  have hs := hi.sub (mdel_sub (m := m) (k := e.key))
  have hn := (mget_none_notin _ _).1 (mget_mdel (k := e.key) hi.nd)
  refine ⟨?_, ?_, ?_, ?_, by simp; omega⟩
  · rw [List.map_append, List.nodup_append]
    refine ⟨hs.nd, by simp, fun x hx y hy => ?_⟩
    simp only [List.map_cons, List.map_nil, List.mem_singleton] at hy
    subst hy
    exact fun e' => hn (e' ▸ hx)
  all_goals
    intro x hx
    rcases List.mem_append.1 hx with hx | hx
    · first | exact hs.key x hx | exact hs.kl x hx | exact hs.vl x hx
    · rw [List.mem_singleton] at hx; subst hx; first | rfl | exact h1 | exact h2
theorem table_Drop {w : World} {L : List Asrt} {b p : Nat} {m : Tab} {k : Str} (hs : Sat w (tabL b p m L)) (hi : TInv m) : Does Tryz.prog 35 [rp p, str k] w fun v w' => v = .bool (mget m k).isSome ∧ Sat w' (tabL b p (mdel m k) L) := by
  cases h : mget m k with
  | none => rw [mdel_none h]; exact table_Drop_no hs h
  | some e => exact table_Drop_yes hs hi h

theorem table_Put {w : World} {L : List Asrt} {b p : Nat} {m : Tab} {e : Entry} (hs : Sat w (tabL b p m L)) (hi : TInv m) (h1 : e.key.length ≤ 64) (h2 : e.value.length ≤ 4096) : Does Tryz.prog 124 [rp p, entv e] w fun v w' => v = .tuple #[] ∧ Sat w' (tabL b p (tabPut m e) L) := by
  have hby : tabBytes (tabPut m e) = tabBytes (mdel m e.key) + e.size := by rw [tabPut_eq hi]; simp [tabBytes]
  have hle := tabBytes_le (hi.sub (mdel_sub (m := m) (k := e.key)))
  have hfew := (hi.sub (mdel_sub (m := m) (k := e.key))).few
  have hes : e.size ≤ 4160 := by unfold Entry.size; omega
  refine Does.enters hs (n := 26) Tryz.func124 rfl rfl rfl rfl ?_
  refine WCs.seq ?_
  refine WCs.region ?_
  refine WLs.box rfl rfl (fun q => ?_)
  refine WLs.nil ?_
  refine WEs.then_n ?_
  refine WCs.seq ?_
  refine WCs.region ?_
  refine WLs.val (y_move rfl) rfl <| WLs.val (y_pne rfl rfl pt90) rfl <| ?_
  refine WLs.nil ?_
  refine WEs.then_n ?_
  refine WCs.cond_t rfl rfl ?_
  refine WCs.seq ?_
  refine WCs.region ?_
  refine WLs.val (y_move rfl) rfl <| WLs.val (y_fld rfl fl105_0) rfl <| WLs.val (y_ld rfl sc9 (Sat.at 0 rfl) (by rfl)) rfl <| ?_
  refine WLs.call Tryz.func35 rfl rfl rfl rfl (fun w hs => table_Drop (k := e.key) (hs.third) hi) ?_
  rintro v9 w9 ⟨rfl, hs9⟩
  refine WLs.go hs9.unthird ?_
  refine WLs.nil ?_
  refine WEs.then_n ?_
  refine WCs.seq ?_
  refine WCs.draw (.one 0 3 (.one 1 3 (.one 2 3 (.one 3 0 (.one 4 3 (.one 5 0 (.one 6 0 (.one 7 2 .nil)))))))) [7] Tryz.mixed (by kernel_rfl) (by kernel_rfl) rfl (Pf.then Pf.body) (fun _ h => h) ?_
  refine WSs.pure rfl (y_move rfl) rfl ?_
  refine WSs.pure rfl (y_nil rfl) rfl ?_
  refine WSs.pure rfl (y_fld rfl fl142_0) rfl ?_
  refine WSs.val rfl (y_ld rfl sc140 (Sat.at 2 rfl) (by rfl)) rfl ?_
  refine WSs.pure rfl (y_fld rfl fl105_0) rfl ?_
  refine WSs.val rfl (y_ld rfl sc9 (Sat.at 0 rfl) (by rfl)) rfl ?_
  refine WSs.val rfl (y_ldA rfl ag105 (Sat.at 0 rfl) (Nat.le_of_ble_eq_true rfl) (by rfl)) rfl ?_
  refine WSs.mapput (enc := str) (en := entv) 1 rfl rfl rfl rfl (keyStr st9) mp140 rfl ?_
  refine WSs.nil ?_
  refine WEs.then_n ?_
  refine WCs.draw (.one 0 3 (.one 1 3 (.one 2 3 (.one 3 0 (.one 4 0 (.one 5 1 (.one 6 3 (.one 7 3 (.one 8 3 (.one 9 2 .nil)))))))))) [9] Tryz.mixed (by kernel_rfl) (by kernel_rfl) rfl Pf.body (fun _ h => h) ?_
  refine WSs.pure rfl (y_move rfl) rfl ?_
  refine WSs.pure rfl (y_nil rfl) rfl ?_
  refine WSs.pure rfl (y_fld rfl fl142_1) rfl ?_
  refine WSs.val rfl (y_ld rfl sc3 (Sat.at 2 rfl) (by rfl)) rfl ?_
  refine WSs.val rfl (y_ldA rfl ag105 (Sat.at 0 rfl) (Nat.le_of_ble_eq_true rfl) (by rfl)) rfl ?_
  refine WSs.callE rfl Tryz.func66 rfl rfl rfl rfl (fun w hs => table_size hs h1 h2) (fun _ h => h) ?_
  refine WSs.pure rfl (y_add rfl rfl (wrap_i64 (by omega))) rfl ?_
  refine WSs.pure rfl (y_nil rfl) rfl ?_
  refine WSs.pure rfl (y_fld rfl fl142_1) rfl ?_
  refine WSs.store 2 rfl rfl rfl sz3 rfl (Nat.le_of_ble_eq_true rfl) rfl (show (#[.map (some b), natv (tabBytes (mdel m e.key))] : Array Value).setIfInBounds 1 _ = #[.map (some b), natv (tabBytes (tabPut m e))] by simp [natv]; omega) ?_
  refine WSs.nil ?_
  refine WEs.ret0 (.inl rfl) rfl ?_
  exact fun w hs => ⟨rfl, hs.tail⟩

theorem table_Bytes {w : World} {L : List Asrt} {b p : Nat} {m : Tab} (hs : Sat w (tabL b p m L)) : Does Tryz.prog 103 [rp p] w fun v w' => v = natv (tabBytes m) ∧ Sat w' (tabL b p m L) := by
  refine Does.enters hs (n := 9) Tryz.func103 rfl rfl rfl rfl ?_
  refine WCs.seq ?_
  refine WCs.region ?_
  refine WLs.val (y_asgn rfl) rfl <| ?_
  refine WLs.nil ?_
  refine WEs.then_n ?_
  refine WCs.seq ?_
  refine WCs.seq ?_
  refine WCs.region ?_
  refine WLs.val (y_move rfl) rfl <| WLs.val (y_peq rfl rfl pt90) rfl <| ?_
  refine WLs.nil ?_
  refine WEs.then_n ?_
  refine WCs.cond_f rfl rfl ?_
  refine WCs.skip ?_
  refine WEs.then_n ?_
  refine WCs.seq ?_
  refine WCs.region ?_
  refine WLs.val (y_move rfl) rfl <| WLs.val (y_nil rfl) rfl <| WLs.val (y_fld rfl fl142_1) rfl <| WLs.val (y_ld rfl sc3 (Sat.at 1 rfl) (by rfl)) rfl <| ?_
  refine WLs.val (y_asgn rfl) rfl <| ?_
  refine WLs.nil ?_
  refine WEs.then_n ?_
  refine WCs.ret ?_
  refine WEs.ret1 (.inr rfl) rfl rfl ?_
  exact fun w hs => ⟨rfl, hs⟩

theorem slices_Sorted {w : World} {L : List Asrt} {ν : Type} {en : ν → Value} {b q : Nat} {m : List (Str × ν)} (hs : Sat w (pt q (.cells #[.map (some b)] 140 (0, 0)) :: mapAt str en b m :: L)) (hn : (m.map (·.1)).Nodup) (hl : m.length ≤ 5000) (hk : ∀ k ∈ m.map (·.1), k.length ≤ 5000) :
    Does Tryz.prog 94 [.func (.func 147) #[] #[.pointer (some ⟨q, 0, none⟩)]] w fun v w' => Sat w' (sliceAt 9 1 v m.length (((m.map (·.1)).mergeSort fun x y => decide (x ≤ y)).map str) :: pt q (.cells #[.map (some b)] 140 (0, 0)) :: mapAt str en b m :: L) := by
  refine Does.enters hs (n := 9) Tryz.func94 rfl rfl rfl rfl ?_
  refine WCs.seq ?_
  refine WCs.region ?_
  refine WLs.val (y_asgn rfl) rfl <| ?_
  refine WLs.nil ?_
  refine WEs.then_n ?_
  refine WCs.seq ?_
  refine WCs.region ?_
  refine WLs.val (y_move rfl) rfl <| ?_
  refine WLs.call Tryz.func145 rfl rfl rfl rfl (fun w hs => slices_Collect hs hn hl hk) ?_
  rintro v5 w5 ⟨ks, hp, hs5⟩
  refine WLs.go hs5 ?_
  refine WLs.val (y_asgn rfl) rfl <| ?_
  refine WLs.nil ?_
  refine WEs.then_n ?_
  refine WCs.seq ?_
  refine WCs.region ?_
  refine WLs.val (y_move rfl) rfl <| ?_
  refine WLs.callE Tryz.func146 rfl rfl rfl rfl (fun w hs => slices_Sort hs (by rw [hp.length_eq, List.length_map]; exact hl)) ?_
  refine WLs.nil ?_
  refine WEs.then_n ?_
  refine WCs.seq ?_
  refine WCs.region ?_
  refine WLs.val (y_move rfl) rfl <| WLs.val (y_asgn rfl) rfl <| ?_
  refine WLs.nil ?_
  refine WEs.then_n ?_
  refine WCs.ret ?_
  refine WEs.ret1 (.inr rfl) rfl rfl ?_
  have e : (ks.mergeSort fun x y => decide (x ≤ y)) = (m.map (·.1)).mergeSort fun x y => decide (x ≤ y) := mergeSort_of_perm hp
  have el : ks.length = m.length := by rw [hp.length_eq, List.length_map]
  rw [e, el]
  exact fun w hs => hs

theorem table_Keys {w : World} {L : List Asrt} {b p : Nat} {m : Tab} (hs : Sat w (tabL b p m L)) (hi : TInv m) : Does Tryz.prog 53 [rp p] w fun v w' => Sat w' (sliceAt 9 1 v m.length ((keysOf m).map str) :: tabL b p m L) := by
  refine Does.enters hs (n := 11) Tryz.func53 rfl rfl rfl rfl ?_
  refine WCs.seq ?_
  refine WCs.region ?_
  refine WLs.val (y_asgn rfl) rfl <| ?_
  refine WLs.nil ?_
  refine WEs.then_n ?_
  refine WCs.seq ?_
  refine WCs.seq ?_
  refine WCs.region ?_
  refine WLs.val (y_move rfl) rfl <| WLs.val (y_peq rfl rfl pt90) rfl <| ?_
  refine WLs.nil ?_
  refine WEs.then_n ?_
  refine WCs.cond_f rfl rfl ?_
  refine WCs.skip ?_
  refine WEs.then_n ?_
  refine WCs.seq ?_
  refine WCs.region ?_
  refine WLs.val (y_move rfl) rfl <| WLs.val (y_nil rfl) rfl <| WLs.val (y_fld rfl fl142_0) rfl <| WLs.val (y_ld rfl sc140 (Sat.at 1 rfl) (by rfl)) rfl <| ?_
  refine WLs.callX Tryz.func95 rfl rfl rfl rfl (fun w hs => maps_Keys (b := b) hs) (fun q => ?_)
  refine WLs.call Tryz.func94 rfl rfl rfl rfl (fun w hs => slices_Sorted hs hi.nd (by have := hi.few; omega) (fun k hk => by obtain ⟨x, hx, rfl⟩ := List.mem_map.1 hk; have := hi.kl x hx; omega)) ?_
  rintro v10 w10 hs10
  refine WLs.go hs10 ?_
  refine WLs.val (y_asgn rfl) rfl <| ?_
  refine WLs.nil ?_
  refine WEs.then_n ?_
  refine WCs.ret ?_
  refine WEs.ret1 (.inr rfl) rfl rfl ?_
  exact fun w hs => hs.swap.tail

omit [Env] in
theorem cellGet {A B : List Value} {ks : List Str} {i : Nat} (h : i < ks.length) : (A ++ ks.map str ++ B).toArray[A.length + i * 1]? = some (str (ks.getD i [])) := by
  simp [List.getElem?_append, h]
/-- what a function value that is asked of keys promises -/
def Asks (L : List Asrt) (f : FuncId) (ca : List Value) (ks : List Str) (pr : Str → Bool) : Prop :=
  ∀ k ∈ ks, ∀ A w, Sat w (A :: L) → Does Tryz.prog f ([str k] ++ ca) w fun v w' => v = .bool (pr k) ∧ Sat w' (A :: L)

theorem IndexFunc {w : World} {L : List Asrt} {g cap : Nat} {A B : List Value} {ks : List Str} {f : FuncId} {ca : List Value} {pr : Str → Bool} {fn : Func} {c : Code} (hf : Tryz.prog.funcs[f]? = some fn) (hb : fn.body = some c) (hne : (fn.name == "runtime.NumGoroutine") = false)
    (hs : Sat w (pt g (.cells (A ++ ks.map str ++ B).toArray 9 (0, 0)) :: L)) (hl : ks.length ≤ 5000) (hc : Asks L f ca ks pr) :
    Does Tryz.prog 117 [.slice (some ⟨g, A.length, none⟩) ks.length cap, .func (.func f) #[] ca.toArray] w fun v w' => (v = .int .i64 (-1) ∧ (∀ k ∈ ks, pr k = false) ∨ ∃ i, v = natv i ∧ i < ks.length ∧ (∀ j, j < i → pr (ks.getD j []) = false) ∧ pr (ks.getD i []) = true) ∧ Sat w' (pt g (.cells (A ++ ks.map str ++ B).toArray 9 (0, 0)) :: L) := by
  refine Does.enters hs (n := 19) Tryz.func117 rfl rfl rfl rfl ?_
  refine WCs.seq ?_
  refine WCs.region ?_
  refine WLs.val (y_asgn rfl) rfl <| ?_
  refine WLs.nil ?_
  refine WEs.then_n ?_
  refine WCs.seq ?_
  refine WCs.seq ?_
  refine WCs.region ?_
  refine WLs.val (y_move rfl) rfl <| WLs.val (y_lenL rfl sl97) rfl <| WLs.val (y_move rfl) rfl <| ?_
  refine WLs.nil ?_
  refine WEs.then_n ?_
  refine WCs.block ?_
  refine WCs.loop (σ := { i : Nat // i ≤ ks.length ∧ ∀ j, j < i → pr (ks.getD j []) = false }) (fun i => [(0, .slice (some ⟨g, A.length, none⟩) ks.length cap), (1, .func (.func f) #[] ca.toArray), (7, .int .i64 ks.length), (8, natv i.1)]) (fun _ => pt g (.cells (A ++ ks.map str ++ B).toArray 9 (0, 0)) :: L) (fun i => ks.length - i.1) ⟨0, Nat.zero_le _, by simp⟩ (fun w hs => hs) (by repeat (first | exact Cov.nil _ | refine Cov.cons rfl ?_)) ?_
  rintro ⟨i, hi, hj⟩
  refine WCs.seq ?_
  refine WCs.region ?_
  refine WLs.val (y_lt rfl rfl rfl) rfl <| ?_
  refine WLs.nil ?_
  refine WEs.then_n ?_
  refine WCs.seq ?_
  refine WCs.cond rfl (fun hcc => ?_) (fun hcc => ?_)
  · have hlt : i < ks.length := Int.ofNat_lt.1 (of_decide_eq_true hcc)
    refine WCs.skip ?_
    refine WEs.then_n ?_
    refine WCs.seq ?_
    refine WCs.block ?_
    refine WCs.seq ?_
    refine WCs.region ?_
    refine WLs.val (y_move rfl) rfl <| WLs.val (y_asgn rfl) rfl <| ?_
    refine WLs.nil ?_
    refine WEs.then_n ?_
    refine WCs.seq ?_
    refine WCs.region ?_
    refine WLs.val (y_move rfl) rfl <| WLs.val (y_move rfl) rfl <| WLs.val (y_move rfl) rfl <| WLs.val (y_ix rfl rfl sl97 (by dsimp only; omega)) rfl <| ?_
    refine WLs.val (y_ld rfl sc9 (Sat.at 0 rfl) (cellGet hlt)) rfl <| ?_
    refine WLs.callVE rfl hf hb hne rfl rfl (fun w hs => hc (ks.getD i []) (by simp [hlt]) _ w hs) ?_
    refine WLs.nil ?_
    refine WEs.then_n ?_
    refine WCs.cond rfl (fun hp => ?_) (fun hp => ?_)
    · refine WCs.seq ?_
      refine WCs.region ?_
      refine WLs.val (y_move rfl) rfl <| WLs.val (y_asgn rfl) rfl <| ?_
      refine WLs.nil ?_
      refine WEs.then_n ?_
      refine WCs.ret ?_
      refine WEs.in_ret ?_
      refine WEs.then_ret ?_
      refine WEs.then_ret ?_
      refine WEs.in_ret ?_
      refine WEs.then_ret ?_
      refine WEs.ret1 (.inr rfl) rfl rfl ?_
      exact fun w hs => ⟨.inr ⟨i, rfl, hlt, hj, hp⟩, hs⟩
    · refine WCs.skip ?_
      refine WEs.in_n ?_
      refine WEs.then_n ?_
      refine WCs.region ?_
      refine WLs.val (y_add rfl rfl (natv_succ (by dsimp only; omega))) rfl <| ?_
      refine WLs.val (y_move rfl) rfl <| ?_
      refine WLs.nil ?_
      refine WEs.round ⟨i + 1, hlt, fun j hj' => ?_⟩ (by repeat (first | exact Cov.nil _ | refine Cov.cons rfl ?_)) (fun w hs => hs) (by show ks.length - (i + 1) < ks.length - i; omega)
      by_cases e : j = i
      · rw [e]; exact hp
      · exact hj j (by omega)
  · have hge : ¬ i < ks.length := fun h => of_decide_eq_false hcc (Int.ofNat_lt.2 h)
    refine WCs.exit ?_
    refine WEs.then_exit ?_
    refine WEs.then_exit ?_
    refine WEs.in_same ?_
    refine WEs.then_n ?_
    refine WCs.seq ?_
    refine WCs.region ?_
    refine WLs.val (y_asgn rfl) rfl <| ?_
    refine WLs.nil ?_
    refine WEs.then_n ?_
    refine WCs.ret ?_
    refine WEs.ret1 (.inr rfl) rfl rfl ?_
    refine fun w hs => ⟨.inl ⟨rfl, fun k hk => ?_⟩, hs⟩
    obtain ⟨j, hj', rfl⟩ := List.mem_iff_getElem.1 hk
    have := hj j (by omega)
    simpa [hj'] using this

theorem IndexFunc_nil {w : World} {L : List Asrt} {a : Option Addr} {cap : Nat} {x : Value} (hs : Sat w L) :
    Does Tryz.prog 117 [.slice a 0 cap, x] w fun v w' => v = .int .i64 (-1) ∧ Sat w' L := by
  refine Does.enters hs (n := 19) Tryz.func117 rfl rfl rfl rfl ?_
  refine WCs.seq ?_
  refine WCs.region ?_
  refine WLs.val (y_asgn rfl) rfl <| ?_
  refine WLs.nil ?_
  refine WEs.then_n ?_
  refine WCs.seq ?_
  refine WCs.seq ?_
  refine WCs.region ?_
  refine WLs.val (y_move rfl) rfl <| WLs.val (y_lenL rfl sl97) rfl <| WLs.val (y_move rfl) rfl <| ?_
  refine WLs.nil ?_
  refine WEs.then_n ?_
  refine WCs.block ?_
  refine WCs.unroll 0 ?_
  refine WCs.seq ?_
  refine WCs.region ?_
  refine WLs.val (y_lt rfl rfl rfl) rfl <| ?_
  refine WLs.nil ?_
  refine WEs.then_n ?_
  refine WCs.seq ?_
  refine WCs.cond_f rfl rfl ?_
  refine WCs.exit ?_
  refine WEs.then_exit ?_
  refine WEs.then_exit ?_
  refine WEs.in_same ?_
  refine WEs.then_n ?_
  refine WCs.seq ?_
  refine WCs.region ?_
  refine WLs.val (y_asgn rfl) rfl <| ?_
  refine WLs.nil ?_
  refine WEs.then_n ?_
  refine WCs.ret ?_
  refine WEs.ret1 (.inr rfl) rfl rfl ?_
  exact fun w hs => ⟨rfl, hs⟩
end Go.Proofs.YteoplijfofohkaaGreat
