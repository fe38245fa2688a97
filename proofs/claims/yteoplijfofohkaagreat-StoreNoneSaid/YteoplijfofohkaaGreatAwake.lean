/- The run that all statements of the cache begin with. -/
import Derived.Test.YteoplijfofohkaaGreatNil
import Derived.Test.YteoplijfofohkaaGreatEnts
namespace Go.Proofs.YteoplijfofohkaaGreat
open Go Go.Sx Go.Hw
theorem fl61_1 : tFld Tryz.prog 61 1 1 = true := by kernel_rfl
theorem fl61_2 : tFld Tryz.prog 61 2 2 = true := by kernel_rfl
theorem zr54 : tZero Tryz.prog 54 (.agg #[(.int .u64 0), (.int .u64 0), (.int .u64 0), (.int .u64 0), (.int .i64 0), (str []), (str []), (.int .u64 0), (.int .u64 0)]) := tZero_of (by kernel_rfl)
theorem pl54 : tPlaces Tryz.prog 54 #[(0, 1), (1, 1), (2, 1), (3, 1), (4, 5)] := tPlaces_of (by kernel_rfl)
variable [Env]
theorem store_New1t {w : World} {L : List Asrt} {c : Conf} {m : Nat} (hs : Sat w L) (hc : c.ok = true) (hp : c.policy = 1) (hm : c.entries = m) (h1 : 1 ≤ m) (h2 : m ≤ 1000) :
    Does Tryz.prog 8 [confv c] w fun v w' => ∃ x : Nat × Nat × Nat × Nat × Nat, v = .tuple #[rp x.2.2.2.2, .int .i64 0] ∧ Sat w' (stoL x.1 x.2.1 x.2.2.1 x.2.2.2.1 x.2.2.2.2 (Sto.new c m) L) :=
  (store_New1 hs hc hp hm h1 h2).mono fun v w ⟨a, b, c, d, e, h⟩ => ⟨(a, b, c, d, e), h⟩
omit [Env] in
theorem ended_none {m : Tab} {now : Nat} (h : ∀ x ∈ m, x.2.ends = 0) : endedOf m now = [] := by
  unfold endedOf
  rw [List.filter_eq_nil_iff]
  intro k hk
  obtain ⟨e, he⟩ := mget_of_mem (mem_keysOf.1 hk)
  have : e.ends = 0 := h _ (mget_mem he)
  simp [stays, he, Entry.ended, this]
def kS : Str := [107]
def vS : Str := [118]
def sto0 : Sto := Sto.new ⟨1, 2, 100, 0⟩ 2
def arc0 : Arc := ⟨2, 0, List.replicate 4 []⟩
def rec1 : Rec := ⟨1, 0, 1, 1, ⟨2, kS, vS, 0, 0⟩⟩
def rec2 : Rec := ⟨2, 0, 1, 2, ⟨1, kS, [], 0, 0⟩⟩
def sto1 : Sto := { (sto0.at rec1).putFit arc0 rec1.op with ses := mput [] 1 ⟨1, ⟨0, [], 1⟩⟩ }
def arc1 : Arc := (arc0.insert kS).1
def sto2 : Sto := { (sto1.at rec2).hit arc1 kS with ses := mput sto1.ses 1 ⟨2, ⟨0, vS, 1⟩⟩ }
omit [Env] in
theorem arc0_inv : arc0.Inv := Arc.Inv.new (by decide) (by decide)
omit [Env] in
theorem arc1_inv : arc1.Inv := arc0_inv.insert
omit [Env] in
theorem tinv0 : TInv [] := ⟨by simp, by simp, by simp, by simp, by simp⟩
omit [Env] in
theorem tab1 : sto1.tab = [(kS, ⟨kS, vS, 1, 0⟩)] := rfl
omit [Env] in
theorem tinv1 : TInv sto1.tab := by
  rw [tab1]
  refine ⟨by simp, ?_, ?_, ?_, by simp⟩ <;> (intro x hx; rw [List.mem_singleton] at hx; subst hx; decide)
theorem do1 {bt pt' pp bs ps : Nat} : DoesDo bt pt' pp bs ps rec1.op (sto0.at rec1) ⟨0, [], 1⟩ ((sto0.at rec1).putFit arc0 rec1.op) := fun L w hs =>
  store_do_put (S := sto0.at rec1) (a := arc0) (byt := 100) hs arc0_inv tinv0 (by decide) (by decide) rfl (by decide) rfl (by decide) (by decide) (by decide) rfl rfl
theorem do2 {bt pt' pp bs ps : Nat} : DoesDo bt pt' pp bs ps rec2.op (sto1.at rec2) ⟨0, vS, 1⟩ ((sto1.at rec2).hit arc1 kS) := fun L w hs =>
  store_do_get (S := sto1.at rec2) (a := arc1) (x := ⟨kS, vS, 1, 0⟩) hs arc1_inv rfl (by rw [show (sto1.at rec2).tab = sto1.tab from rfl, tab1]; rfl) (by decide) (by decide)

set_option maxHeartbeats 4000000 in
theorem law_awake {w : World} {L : List Asrt} (hs : Sat w L) : Does Tryz.prog 10 [] w fun v w' => v = .bool true ∧ Sat w' L := by
  refine Does.enters hs (n := 57) Tryz.func10 rfl rfl rfl rfl ?_
  refine WCs.seq ?_
  refine WCs.region ?_
  refine WLs.val (y_asgn rfl) rfl <| ?_
  refine WLs.nil ?_
  refine WEs.then_n ?_
  refine WCs.seq ?_
  refine WCs.region ?_
  refine WLs.val (y_build (is := [0, 1, 2]) (xs := [.const (.int .i64 1), .const (.int .i64 2), .const (.int .i64 100)]) #[(0, .const (.int .i64 1)), (1, .const (.int .i64 2)), (2, .const (.int .i64 100))] rfl rfl pl24 zr24 rfl) rfl <| ?_
  refine WLs.callX Tryz.func8 rfl rfl rfl rfl (fun w hs => store_New1t (c := ⟨1, 2, 100, 0⟩) (m := 2) hs (by decide) rfl rfl (by decide) (by decide)) (fun ⟨bt, pt1, pp, bs, ps⟩ => ?_)
  dsimp only
  refine WLs.val (y_move rfl) rfl <| WLs.val (y_ext rfl rfl) rfl <| WLs.val (y_ext rfl rfl) rfl <| WLs.val (y_asgn rfl) rfl <| WLs.val (y_asgn rfl) rfl <| ?_
  refine WLs.nil ?_
  refine WEs.then_n ?_
  refine WCs.seq ?_
  refine WCs.region ?_
  refine WLs.val (y_move rfl) rfl <| WLs.val (y_build (is := [0, 1, 2]) (xs := [.const (.int .i64 2), .const (.string ⟨#[107]⟩), .const (.string ⟨#[118]⟩)]) #[(0, .const (.int .i64 2)), (1, .const (.string ⟨#[107]⟩)), (2, .const (.string ⟨#[118]⟩))] rfl rfl pl52 zr52 rfl) rfl <| ?_
  refine WLs.val (y_build (is := [0, 2, 3, 4]) (xs := [.const (.int .u64 1), .const (.int .u64 1), .const (.int .u64 1), .tmp 14]) #[(0, .const (.int .u64 1)), (2, .const (.int .u64 1)), (3, .const (.int .u64 1)), (4, .tmp 14)] rfl rfl pl54 zr54 rfl) rfl <| ?_
  refine WLs.callE Tryz.func13 rfl rfl rfl rfl (fun w hs => store_Apply_new (S := sto0) (x := rec1) hs tinv0 (by decide) rfl (by decide) (ended_none (by simp [sto0, Sto.new])) (by decide) do1 rfl (by decide)) ?_
  refine WLs.val (y_move rfl) rfl <| WLs.val (y_ext rfl rfl) rfl <| WLs.val (y_ext rfl rfl) rfl <| ?_
  refine WLs.alloc zr61 rfl (fun ra => ?_)
  refine WLs.storeA 0 rfl rfl sz61 rfl rfl (Nat.le_of_ble_eq_true rfl) rfl rfl ?_
  refine WLs.val (y_asgn rfl) rfl <| ?_
  refine WLs.nil ?_
  refine WEs.then_n ?_
  refine WCs.seq ?_
  refine WCs.region ?_
  refine WLs.val (y_move rfl) rfl <| WLs.val (y_build (is := [0, 1]) (xs := [.const (.int .i64 1), .const (.string ⟨#[107]⟩)]) #[(0, .const (.int .i64 1)), (1, .const (.string ⟨#[107]⟩))] rfl rfl pl52 zr52 rfl) rfl <| ?_
  refine WLs.val (y_build (is := [0, 2, 3, 4]) (xs := [.const (.int .u64 2), .const (.int .u64 1), .const (.int .u64 2), .tmp 21]) #[(0, .const (.int .u64 2)), (2, .const (.int .u64 1)), (3, .const (.int .u64 2)), (4, .tmp 21)] rfl rfl pl54 zr54 rfl) rfl <| ?_
  refine WLs.callE Tryz.func13 rfl rfl rfl rfl (fun w hs => (store_Apply_next (S := sto1) (x := rec2) (l := ⟨1, ⟨0, [], 1⟩⟩) (bt := bt) (ps := ps) (L := _ :: L) (hs.selN 6 [1, 2, 3, 4, 5, 0] (by decide)) tinv1 (by decide) rfl (by decide) (ended_none (by rw [tab1]; simp)) (by decide) do2 rfl (by decide)).mono fun v w h => ⟨h.1, h.2.selN 6 [5, 0, 1, 2, 3, 4] (by decide)⟩) ?_
  refine WLs.val (y_move rfl) rfl <| WLs.val (y_ext rfl rfl) rfl <| WLs.val (y_ext rfl rfl) rfl <| ?_
  refine WLs.alloc zr61 rfl (fun rb => ?_)
  refine WLs.storeA 0 rfl rfl sz61 rfl rfl (Nat.le_of_ble_eq_true rfl) rfl rfl ?_
  refine WLs.val (y_asgn rfl) rfl <| ?_
  refine WLs.nil ?_
  refine WEs.then_n ?_
  refine WCs.seq ?_
  refine WCs.region ?_
  refine WLs.val (y_move rfl) rfl <| WLs.val (y_eq rfl rfl rfl) rfl <| ?_
  refine WLs.val (y_move rfl) rfl <| WLs.guarded rfl rfl <| WLs.val (y_move rfl) rfl <| WLs.guarded rfl rfl <| WLs.val (y_eq rfl rfl rfl) rfl <| ?_
  refine WLs.val (y_pick rfl rfl) rfl <| WLs.val (y_move rfl) rfl <| WLs.guarded rfl rfl <| WLs.val (y_move rfl) rfl <| WLs.guarded rfl rfl <| WLs.val (y_eq rfl rfl rfl) rfl <| ?_
  refine WLs.val (y_pick rfl rfl) rfl <| WLs.val (y_move rfl) rfl <| WLs.guarded rfl rfl <| WLs.val (y_fld rfl fl61_2) rfl <| WLs.guarded rfl rfl <| WLs.val (y_ld rfl sc22 (Sat.at 1 rfl) (by rfl)) rfl <| ?_
  refine WLs.guarded rfl rfl <| WLs.val (y_eq rfl rfl rfl) rfl <| ?_
  refine WLs.val (y_pick rfl rfl) rfl <| WLs.val (y_move rfl) rfl <| WLs.guarded rfl rfl <| WLs.val (y_fld rfl fl61_1) rfl <| WLs.guarded rfl rfl <| WLs.val (y_ld rfl sc9 (Sat.at 0 rfl) (by rfl)) rfl <| ?_
  refine WLs.guarded rfl rfl <| WLs.val (y_seq rfl rfl rfl) rfl <| ?_
  refine WLs.val (y_pick rfl rfl) rfl <| WLs.val (y_move rfl) rfl <| WLs.guarded rfl rfl <| WLs.val (y_move rfl) rfl <| WLs.guarded rfl rfl <| ?_
  refine WLs.callE Tryz.func12 rfl rfl rfl rfl (fun w hs => (store_Seq (S := sto2) (bt := bt) (ps := ps) (L := _ :: _ :: L) (hs.selN 7 [2, 3, 4, 5, 6, 0, 1] (by decide)))) ?_
  refine WLs.guarded rfl rfl <| WLs.val (y_eq rfl rfl rfl) rfl <| ?_
  refine WLs.val (y_pick rfl rfl) rfl <| WLs.val (y_move rfl) rfl <| WLs.guarded rfl rfl <| WLs.val (y_move rfl) rfl <| WLs.guarded rfl rfl <| ?_
  refine WLs.call Tryz.func22 rfl rfl rfl rfl (fun w hs => store_Entries (S := sto2) (bt := bt) (ps := ps) (L := _ :: _ :: L) hs tinv1 (by decide)) ?_
  rintro v53 w53 hs53
  obtain ⟨sa, sc, rfl⟩ := hs53.lenS 0 rfl
  refine WLs.go hs53 ?_
  refine WLs.guarded rfl rfl <| WLs.val (y_lenL rfl sl31) rfl <| WLs.guarded rfl rfl <| WLs.val (y_eq rfl rfl rfl) rfl <| ?_
  refine WLs.val (y_pick rfl rfl) rfl <| WLs.val (y_asgn rfl) rfl <| ?_
  refine WLs.nil ?_
  refine WEs.then_n ?_
  refine WCs.ret ?_
  refine WEs.ret1 (.inr rfl) rfl rfl ?_
  exact fun w hs => ⟨rfl, hs.selN 8 [] (by decide)⟩
end Go.Proofs.YteoplijfofohkaaGreat
