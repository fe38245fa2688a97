/- The contracts of packages sketch and tiny: memory, New. -/
import Derived.Test.YteoplijfofohkaaGreatArc
namespace Go.Proofs.YteoplijfofohkaaGreat
open Go Go.Sx Go.Hw
theorem ar235 : tArr Tryz.prog 235 4 128 1 = true := by kernel_rfl
theorem by4 : tBytes Tryz.prog 4 1 = true := by kernel_rfl
theorem by5 : tBytes Tryz.prog 5 1 = true := by kernel_rfl
theorem fl237_2 : tFld Tryz.prog 237 2 2 = true := by kernel_rfl
theorem sl128 : tSlice Tryz.prog 128 5 1 = true := by kernel_rfl
theorem sl39 : tSlice Tryz.prog 39 4 1 = true := by kernel_rfl
theorem sz128 : tSize Tryz.prog 128 1 = true := by kernel_rfl
theorem zr197 : tZero Tryz.prog 197 (.agg #[(.int .i64 0), (.pointer none), (.pointer none)]) := tZero_of (by kernel_rfl)
theorem zr237 : tZero Tryz.prog 237 (.agg #[(.int .i64 0), (.int .u64 0), (.slice none 0 0), (.slice none 0 0), (.slice none 0 0), (.slice none 0 0), (.slice none 0 0), (.int .i64 0)]) := tZero_of (by kernel_rfl)
theorem zr4 : tZero Tryz.prog 4 (.bool false) := tZero_of (by kernel_rfl)
theorem zr5 : tZero Tryz.prog 5 (.int .u8 0) := tZero_of (by kernel_rfl)
theorem pl197 : tPlaces Tryz.prog 197 #[(0, 1), (1, 1), (2, 1)] := tPlaces_of (by kernel_rfl)
theorem pl237 : tPlaces Tryz.prog 237 #[(0, 1), (1, 1), (2, 4), (6, 1), (7, 1)] := tPlaces_of (by kernel_rfl)
variable [Env]
structure _root_.Go.Hw.Sketch where
  wide : Nat
  seed : Nat
  rows : Nat → List Nat
  door : List Bool
  added : Nat
def u64v (n : Nat) : Value := .int .u64 n
def byteCells (l : List Nat) : List Value := l.map fun (n : Nat) => .int .u8 n
def boolCells (l : List Bool) : List Value := l.map .bool
def sketchParts (p : Nat) (s : Sketch) (b : Nat → Nat) (d : Nat) : List Asrt :=
  [pt p (.cells #[natv s.wide, u64v s.seed, .slice (some ⟨b 0, 0, none⟩) s.wide s.wide, .slice (some ⟨b 1, 0, none⟩) s.wide s.wide, .slice (some ⟨b 2, 0, none⟩) s.wide s.wide, .slice (some ⟨b 3, 0, none⟩) s.wide s.wide, .slice (some ⟨d, 0, none⟩) s.wide s.wide, natv s.added] 237 (0, 0)),
   pt (b 0) (.cells (byteCells (s.rows 0)).toArray 5 (0, 0)), pt (b 1) (.cells (byteCells (s.rows 1)).toArray 5 (0, 0)), pt (b 2) (.cells (byteCells (s.rows 2)).toArray 5 (0, 0)), pt (b 3) (.cells (byteCells (s.rows 3)).toArray 5 (0, 0)),
   pt d (.cells (boolCells s.door).toArray 4 (0, 0))]
def sketchAt (p : Nat) (s : Sketch) : Asrt := fun h => ∃ x : (Nat → Nat) × Nat, sepL (sketchParts p s x.1 x.2) h
def _root_.Go.Hw.Sketch.new (wide seed : Nat) : Sketch := ⟨wide, seed, fun _ => List.replicate wide 0, List.replicate wide false, 0⟩
omit [Env] in
theorem zero_bytes (k : Nat) : (Array.range (k * 1)).map ((Value.int .u8 0).cells[· % (Value.int .u8 0).cells.size]!) = (byteCells (List.replicate k 0)).toArray := by
  rw [show k * 1 = k * (Value.int .u8 0).cells.size from rfl, zero_row _ (by simp [Value.cells])]
  congr 1
  induction k with
  | zero => rfl
  | succ k ih => rw [List.replicate_succ, List.flatten_cons, ih]; rfl
omit [Env] in
theorem zero_bools (k : Nat) : (Array.range (k * 1)).map ((Value.bool false).cells[· % (Value.bool false).cells.size]!) = (boolCells (List.replicate k false)).toArray := by
  rw [show k * 1 = k * (Value.bool false).cells.size from rfl, zero_row _ (by simp [Value.cells])]
  congr 1
  induction k with
  | zero => rfl
  | succ k ih => rw [List.replicate_succ, List.flatten_cons, ih]; rfl

theorem sketch_New {w : World} {L : List Asrt} {wide seed : Nat} (hs : Sat w L) (h1 : 1 ≤ wide) (h2 : wide ≤ 4096) :
    Does Tryz.prog 112 [natv wide, u64v seed] w fun v w' => ∃ p, v = .tuple #[rp p, .int .i64 0] ∧ Sat w' (sketchAt p (Sketch.new wide seed) :: L) := by
  refine Does.enters hs (n := 32) Tryz.func112 rfl rfl rfl rfl ?_
  refine WCs.seq ?_
  refine WCs.region ?_
  refine WLs.val (y_asgn rfl) rfl <| WLs.val (y_asgn rfl) rfl <| ?_
  refine WLs.nil ?_
  refine WEs.then_n ?_
  refine WCs.seq ?_
  refine WCs.seq ?_
  refine WCs.region ?_
  refine WLs.val (y_move rfl) rfl <| WLs.val (y_lt rfl rfl (decide_eq_false (by omega))) rfl <| ?_
  refine WLs.val (y_move rfl) rfl <| WLs.guarded rfl rfl <| WLs.val (y_move rfl) rfl <| WLs.guarded rfl rfl <| WLs.val (y_gt rfl rfl (decide_eq_false (by omega))) rfl <| ?_
  refine WLs.val (y_pick rfl rfl) rfl <| ?_
  refine WLs.nil ?_
  refine WEs.then_n ?_
  refine WCs.cond_f rfl rfl ?_
  refine WCs.skip ?_
  refine WEs.then_n ?_
  refine WCs.seq ?_
  refine WCs.region ?_
  refine WLs.val (y_move rfl) rfl <| WLs.val (y_move rfl) rfl <| WLs.val (y_move rfl) rfl <| ?_
  refine WLs.mkslice rfl rfl sl39 zr4 rfl by4 (by omega) (by omega) rfl (zero_bools wide) (fun d => ?_)
  refine WLs.val (y_build (is := [0, 1, 3]) (xs := [.tmp 14, .tmp 15, .tmp 17]) #[(0, .tmp 14), (1, .tmp 15), (3, .tmp 17)] rfl rfl pl237 zr237 rfl) rfl <| ?_
  refine WLs.box rfl rfl (fun p => ?_)
  refine WLs.val (y_asgn rfl) rfl <| ?_
  refine WLs.nil ?_
  refine WEs.then_n ?_
  refine WCs.seq ?_
  refine WCs.seq ?_
  refine WCs.region ?_
  refine WLs.val (y_move rfl) rfl <| ?_
  refine WLs.nil ?_
  refine WEs.then_n ?_
  refine WCs.block ?_
  refine WCs.unroll 4 ?_
  refine WCs.seq ?_
  refine WCs.region ?_
  refine WLs.val (y_lt rfl rfl rfl) rfl <| ?_
  refine WLs.nil ?_
  refine WEs.then_n ?_
  refine WCs.seq ?_
  refine WCs.cond_t rfl rfl ?_
  refine WCs.skip ?_
  refine WEs.then_n ?_
  refine WCs.seq ?_
  refine WCs.block ?_
  refine WCs.seq ?_
  refine WCs.region ?_
  refine WLs.val (y_move rfl) rfl <| WLs.val (y_asgn rfl) rfl <| ?_
  refine WLs.nil ?_
  refine WEs.then_n ?_
  refine WCs.draw (K := []) (.one 0 3 (.one 1 3 (.one 2 3 (.one 4 3 (.one 5 3 (.one 3 1 (.one 6 3 (.one 7 2 .nil)))))))) [7] Tryz.mixed (by kernel_rfl) (by kernel_rfl) rfl (Pf.block (Pf.then (Pf.then (Pf.block (Pf.then Pf.body))))) (fun _ h => h.empt) ?_
  refine WSs.pure rfl (y_move rfl) rfl ?_
  refine WSs.pure rfl (y_move rfl) rfl ?_
  refine WSs.pure rfl (y_move rfl) rfl ?_
  refine WSs.pure rfl (y_nil rfl) rfl ?_
  refine WSs.pure rfl (y_fld rfl fl237_2) rfl ?_
  refine WSs.mkslice rfl rfl rfl sl128 zr5 rfl by5 (by omega) (by omega) rfl (fun _ h => h.empt) (zero_bytes wide) (fun b26 => ?_)
  refine WSs.pure rfl (y_ixA rfl rfl ar235 (by omega)) rfl ?_
  first | refine WSs.store 0 rfl rfl rfl sz128 rfl (show 2 < 8 by decide) rfl rfl ?_ | refine WSs.store 1 rfl rfl rfl sz128 rfl (show 2 < 8 by decide) rfl rfl ?_ | refine WSs.store 2 rfl rfl rfl sz128 rfl (show 2 < 8 by decide) rfl rfl ?_ | refine WSs.store 3 rfl rfl rfl sz128 rfl (show 2 < 8 by decide) rfl rfl ?_ | refine WSs.store 4 rfl rfl rfl sz128 rfl (show 2 < 8 by decide) rfl rfl ?_ | refine WSs.store 5 rfl rfl rfl sz128 rfl (show 2 < 8 by decide) rfl rfl ?_ | refine WSs.store 6 rfl rfl rfl sz128 rfl (show 2 < 8 by decide) rfl rfl ?_
  refine WSs.nil ?_
  refine WEs.in_n ?_
  refine WEs.then_n ?_
  refine WCs.region ?_
  refine WLs.val (y_add rfl rfl (by first | exact wrap_i64 (by omega) | rfl)) rfl <| ?_
  refine WLs.val (y_move rfl) rfl <| ?_
  refine WLs.nil ?_
  refine WEs.again ?_
  refine WCs.seq ?_
  refine WCs.region ?_
  refine WLs.val (y_lt rfl rfl rfl) rfl <| ?_
  refine WLs.nil ?_
  refine WEs.then_n ?_
  refine WCs.seq ?_
  refine WCs.cond_t rfl rfl ?_
  refine WCs.skip ?_
  refine WEs.then_n ?_
  refine WCs.seq ?_
  refine WCs.block ?_
  refine WCs.seq ?_
  refine WCs.region ?_
  refine WLs.val (y_move rfl) rfl <| WLs.val (y_asgn rfl) rfl <| ?_
  refine WLs.nil ?_
  refine WEs.then_n ?_
  refine WCs.draw (K := []) (.one 0 3 (.one 1 3 (.one 2 3 (.one 4 3 (.one 5 3 (.one 3 1 (.one 6 3 (.one 7 2 .nil)))))))) [7] Tryz.mixed (by kernel_rfl) (by kernel_rfl) rfl (Pf.block (Pf.then (Pf.then (Pf.block (Pf.then Pf.body))))) (fun _ h => h.empt) ?_
  refine WSs.pure rfl (y_move rfl) rfl ?_
  refine WSs.pure rfl (y_move rfl) rfl ?_
  refine WSs.pure rfl (y_move rfl) rfl ?_
  refine WSs.pure rfl (y_nil rfl) rfl ?_
  refine WSs.pure rfl (y_fld rfl fl237_2) rfl ?_
  refine WSs.mkslice rfl rfl rfl sl128 zr5 rfl by5 (by omega) (by omega) rfl (fun _ h => h.empt) (zero_bytes wide) (fun b26 => ?_)
  refine WSs.pure rfl (y_ixA rfl rfl ar235 (by omega)) rfl ?_
  first | refine WSs.store 0 rfl rfl rfl sz128 rfl (show 3 < 8 by decide) rfl rfl ?_ | refine WSs.store 1 rfl rfl rfl sz128 rfl (show 3 < 8 by decide) rfl rfl ?_ | refine WSs.store 2 rfl rfl rfl sz128 rfl (show 3 < 8 by decide) rfl rfl ?_ | refine WSs.store 3 rfl rfl rfl sz128 rfl (show 3 < 8 by decide) rfl rfl ?_ | refine WSs.store 4 rfl rfl rfl sz128 rfl (show 3 < 8 by decide) rfl rfl ?_ | refine WSs.store 5 rfl rfl rfl sz128 rfl (show 3 < 8 by decide) rfl rfl ?_ | refine WSs.store 6 rfl rfl rfl sz128 rfl (show 3 < 8 by decide) rfl rfl ?_
  refine WSs.nil ?_
  refine WEs.in_n ?_
  refine WEs.then_n ?_
  refine WCs.region ?_
  refine WLs.val (y_add rfl rfl (by first | exact wrap_i64 (by omega) | rfl)) rfl <| ?_
  refine WLs.val (y_move rfl) rfl <| ?_
  refine WLs.nil ?_
  refine WEs.again ?_
  refine WCs.seq ?_
  refine WCs.region ?_
  refine WLs.val (y_lt rfl rfl rfl) rfl <| ?_
  refine WLs.nil ?_
  refine WEs.then_n ?_
  refine WCs.seq ?_
  refine WCs.cond_t rfl rfl ?_
  refine WCs.skip ?_
  refine WEs.then_n ?_
  refine WCs.seq ?_
  refine WCs.block ?_
  refine WCs.seq ?_
  refine WCs.region ?_
  refine WLs.val (y_move rfl) rfl <| WLs.val (y_asgn rfl) rfl <| ?_
  refine WLs.nil ?_
  refine WEs.then_n ?_
  refine WCs.draw (K := []) (.one 0 3 (.one 1 3 (.one 2 3 (.one 4 3 (.one 5 3 (.one 3 1 (.one 6 3 (.one 7 2 .nil)))))))) [7] Tryz.mixed (by kernel_rfl) (by kernel_rfl) rfl (Pf.block (Pf.then (Pf.then (Pf.block (Pf.then Pf.body))))) (fun _ h => h.empt) ?_
  refine WSs.pure rfl (y_move rfl) rfl ?_
  refine WSs.pure rfl (y_move rfl) rfl ?_
  refine WSs.pure rfl (y_move rfl) rfl ?_
  refine WSs.pure rfl (y_nil rfl) rfl ?_
  refine WSs.pure rfl (y_fld rfl fl237_2) rfl ?_
  refine WSs.mkslice rfl rfl rfl sl128 zr5 rfl by5 (by omega) (by omega) rfl (fun _ h => h.empt) (zero_bytes wide) (fun b26 => ?_)
  refine WSs.pure rfl (y_ixA rfl rfl ar235 (by omega)) rfl ?_
  first | refine WSs.store 0 rfl rfl rfl sz128 rfl (show 4 < 8 by decide) rfl rfl ?_ | refine WSs.store 1 rfl rfl rfl sz128 rfl (show 4 < 8 by decide) rfl rfl ?_ | refine WSs.store 2 rfl rfl rfl sz128 rfl (show 4 < 8 by decide) rfl rfl ?_ | refine WSs.store 3 rfl rfl rfl sz128 rfl (show 4 < 8 by decide) rfl rfl ?_ | refine WSs.store 4 rfl rfl rfl sz128 rfl (show 4 < 8 by decide) rfl rfl ?_ | refine WSs.store 5 rfl rfl rfl sz128 rfl (show 4 < 8 by decide) rfl rfl ?_ | refine WSs.store 6 rfl rfl rfl sz128 rfl (show 4 < 8 by decide) rfl rfl ?_
  refine WSs.nil ?_
  refine WEs.in_n ?_
  refine WEs.then_n ?_
  refine WCs.region ?_
  refine WLs.val (y_add rfl rfl (by first | exact wrap_i64 (by omega) | rfl)) rfl <| ?_
  refine WLs.val (y_move rfl) rfl <| ?_
  refine WLs.nil ?_
  refine WEs.again ?_
  refine WCs.seq ?_
  refine WCs.region ?_
  refine WLs.val (y_lt rfl rfl rfl) rfl <| ?_
  refine WLs.nil ?_
  refine WEs.then_n ?_
  refine WCs.seq ?_
  refine WCs.cond_t rfl rfl ?_
  refine WCs.skip ?_
  refine WEs.then_n ?_
  refine WCs.seq ?_
  refine WCs.block ?_
  refine WCs.seq ?_
  refine WCs.region ?_
  refine WLs.val (y_move rfl) rfl <| WLs.val (y_asgn rfl) rfl <| ?_
  refine WLs.nil ?_
  refine WEs.then_n ?_
  refine WCs.draw (K := []) (.one 0 3 (.one 1 3 (.one 2 3 (.one 4 3 (.one 5 3 (.one 3 1 (.one 6 3 (.one 7 2 .nil)))))))) [7] Tryz.mixed (by kernel_rfl) (by kernel_rfl) rfl (Pf.block (Pf.then (Pf.then (Pf.block (Pf.then Pf.body))))) (fun _ h => h.empt) ?_
  refine WSs.pure rfl (y_move rfl) rfl ?_
  refine WSs.pure rfl (y_move rfl) rfl ?_
  refine WSs.pure rfl (y_move rfl) rfl ?_
  refine WSs.pure rfl (y_nil rfl) rfl ?_
  refine WSs.pure rfl (y_fld rfl fl237_2) rfl ?_
  refine WSs.mkslice rfl rfl rfl sl128 zr5 rfl by5 (by omega) (by omega) rfl (fun _ h => h.empt) (zero_bytes wide) (fun b26 => ?_)
  refine WSs.pure rfl (y_ixA rfl rfl ar235 (by omega)) rfl ?_
  first | refine WSs.store 0 rfl rfl rfl sz128 rfl (show 5 < 8 by decide) rfl rfl ?_ | refine WSs.store 1 rfl rfl rfl sz128 rfl (show 5 < 8 by decide) rfl rfl ?_ | refine WSs.store 2 rfl rfl rfl sz128 rfl (show 5 < 8 by decide) rfl rfl ?_ | refine WSs.store 3 rfl rfl rfl sz128 rfl (show 5 < 8 by decide) rfl rfl ?_ | refine WSs.store 4 rfl rfl rfl sz128 rfl (show 5 < 8 by decide) rfl rfl ?_ | refine WSs.store 5 rfl rfl rfl sz128 rfl (show 5 < 8 by decide) rfl rfl ?_ | refine WSs.store 6 rfl rfl rfl sz128 rfl (show 5 < 8 by decide) rfl rfl ?_
  refine WSs.nil ?_
  refine WEs.in_n ?_
  refine WEs.then_n ?_
  refine WCs.region ?_
  refine WLs.val (y_add rfl rfl (by first | exact wrap_i64 (by omega) | rfl)) rfl <| ?_
  refine WLs.val (y_move rfl) rfl <| ?_
  refine WLs.nil ?_
  refine WEs.again ?_
  refine WCs.seq ?_
  refine WCs.region ?_
  refine WLs.val (y_lt rfl rfl rfl) rfl <| ?_
  refine WLs.nil ?_
  refine WEs.then_n ?_
  refine WCs.seq ?_
  refine WCs.cond_f rfl rfl ?_
  refine WCs.exit ?_
  refine WEs.then_exit ?_
  refine WEs.then_exit ?_
  refine WEs.in_same ?_
  refine WEs.then_n ?_
  refine WCs.seq ?_
  refine WCs.region ?_
  refine WLs.val (y_move rfl) rfl <| WLs.val (y_asgn rfl) rfl <| WLs.val (y_asgn rfl) rfl <| ?_
  refine WLs.nil ?_
  refine WEs.then_n ?_
  refine WCs.ret ?_
  refine WEs.ret2 (.inr rfl) rfl rfl rfl ?_
  rename_i c0 c1 c2
  exact fun w hs => ⟨p, rfl, (Sat.join (K := sketchParts p (Sketch.new wide seed) (fun | 0 => c0 | 1 => c1 | 2 => c2 | _ => b26) d) (L := L) (hs.selN 6 [4, 3, 2, 1, 0, 5] (by decide))).impl fun _ hg => ⟨(_, d), hg⟩⟩

theorem tiny_wide {w : World} {L : List Asrt} {m : Nat} (hs : Sat w L) (h2 : m ≤ 1000) : Does Tryz.prog 113 [natv m] w fun v w' => v = natv (min (8 * m) 4096) ∧ Sat w' L := by
  refine Does.enters hs (n := 6) Tryz.func113 rfl rfl rfl rfl ?_
  refine WCs.seq ?_
  refine WCs.region ?_
  refine WLs.val (y_asgn rfl) rfl <| ?_
  refine WLs.nil ?_
  refine WEs.then_n ?_
  refine WCs.seq ?_
  refine WCs.region ?_
  refine WLs.val (y_move rfl) rfl <| WLs.val (y_mul rfl rfl (wrap_i64 (by omega))) rfl <| ?_
  refine WLs.val (y_min rfl rfl) rfl <| WLs.val (y_asgn rfl) rfl <| ?_
  refine WLs.nil ?_
  refine WEs.then_n ?_
  refine WCs.ret ?_
  refine WEs.ret1 (.inr rfl) rfl rfl ?_
  exact fun w hs => ⟨by simp [natv]; omega, hs⟩

structure _root_.Go.Hw.Tiny where
  most : Nat
  sk : Sketch
  K : List (List Str)
/-- the memory of the second policy: its lists, its counts, its struct -/
abbrev tinyL (r s p : Nat) (a : Tiny) (L : List Asrt) : List Asrt :=
  ringAt r (a.most + 1) a.K :: sketchAt s a.sk :: pt p (.cells #[natv a.most, rp s, rp r] 197 (0, 0)) :: L
def tinyAt (p : Nat) (a : Tiny) : Asrt := fun h => ∃ x : Nat × Nat, sepL (tinyL x.1 x.2 p a []) h
theorem tinyAt_open {w : World} {p : Nat} {a : Tiny} {L : List Asrt} (hs : Sat w (tinyAt p a :: L)) : ∃ r s, Sat w (tinyL r s p a L) := by
  obtain ⟨⟨r, s⟩, hs⟩ := hs.exists
  exact ⟨r, s, hs.split⟩
theorem tinyAt_shut {w : World} {r s p : Nat} {a : Tiny} {L : List Asrt} (hs : Sat w (tinyL r s p a L)) : Sat w (tinyAt p a :: L) :=
  (Sat.join (K := tinyL r s p a []) hs).impl fun _ hg => ⟨(r, s), hg⟩
def _root_.Go.Hw.Tiny.new (most seed : Nat) : Tiny := ⟨most, Sketch.new (min (8 * most) 4096) seed, List.replicate 3 []⟩

theorem tiny_New {w : World} {L : List Asrt} {m seed : Nat} (hs : Sat w L) (h1 : 1 ≤ m) (h2 : m ≤ 1000) : Does Tryz.prog 61 [natv m, u64v seed] w fun v w' => ∃ p, v = .tuple #[rp p, .int .i64 0] ∧ Sat w' (tinyAt p (Tiny.new m seed) :: L) := by
  refine Does.enters hs (n := 35) Tryz.func61 rfl rfl rfl rfl ?_
  refine WCs.seq ?_
  refine WCs.region ?_
  refine WLs.val (y_asgn rfl) rfl <| WLs.val (y_asgn rfl) rfl <| ?_
  refine WLs.nil ?_
  refine WEs.then_n ?_
  refine WCs.seq ?_
  refine WCs.seq ?_
  refine WCs.region ?_
  refine WLs.val (y_move rfl) rfl <| WLs.val (y_lt rfl rfl (decide_eq_false (by omega))) rfl <| ?_
  refine WLs.val (y_move rfl) rfl <| WLs.guarded rfl rfl <| WLs.val (y_move rfl) rfl <| WLs.guarded rfl rfl <| WLs.val (y_gt rfl rfl (decide_eq_false (by omega))) rfl <| ?_
  refine WLs.val (y_pick rfl rfl) rfl <| ?_
  refine WLs.nil ?_
  refine WEs.then_n ?_
  refine WCs.cond_f rfl rfl ?_
  refine WCs.skip ?_
  refine WEs.then_n ?_
  refine WCs.seq ?_
  refine WCs.region ?_
  refine WLs.val (y_move rfl) rfl <| ?_
  refine WLs.callE Tryz.func113 rfl rfl rfl rfl (fun w hs => tiny_wide hs h2) ?_
  refine WLs.val (y_move rfl) rfl <| ?_
  refine WLs.callX Tryz.func112 rfl rfl rfl rfl (fun w hs => sketch_New hs (by omega) (by omega)) (fun s => ?_)
  refine WLs.val (y_move rfl) rfl <| WLs.val (y_ext rfl rfl) rfl <| WLs.val (y_ext rfl rfl) rfl <| WLs.val (y_asgn rfl) rfl <| WLs.val (y_asgn rfl) rfl <| ?_
  refine WLs.nil ?_
  refine WEs.then_n ?_
  refine WCs.seq ?_
  refine WCs.region ?_
  refine WLs.val (y_move rfl) rfl <| WLs.val (y_add rfl rfl (natv_succ (by omega))) rfl <| ?_
  refine WLs.callX Tryz.func111 rfl rfl rfl rfl (fun w hs => ringA_New (lists := 3) (places := m + 1) hs (by omega) (by omega) (by omega)) (fun r => ?_)
  refine WLs.val (y_move rfl) rfl <| WLs.val (y_ext rfl rfl) rfl <| WLs.val (y_ext rfl rfl) rfl <| WLs.val (y_asgn rfl) rfl <| WLs.val (y_asgn rfl) rfl <| ?_
  refine WLs.nil ?_
  refine WEs.then_n ?_
  refine WCs.seq ?_
  refine WCs.region ?_
  refine WLs.val (y_move rfl) rfl <| WLs.val (y_move rfl) rfl <| WLs.val (y_move rfl) rfl <| WLs.val (y_build (is := [0, 1, 2]) (xs := [.tmp 29, .tmp 30, .tmp 31]) #[(0, .tmp 29), (1, .tmp 30), (2, .tmp 31)] rfl rfl pl197 zr197 rfl) rfl <| ?_
  refine WLs.box rfl rfl (fun p => ?_)
  refine WLs.val (y_move rfl) rfl <| WLs.val (y_asgn rfl) rfl <| WLs.val (y_asgn rfl) rfl <| ?_
  refine WLs.nil ?_
  refine WEs.then_n ?_
  refine WCs.ret ?_
  refine WEs.ret2 (.inr rfl) rfl rfl rfl ?_
  exact fun w hs => ⟨p, rfl, tinyAt_shut (r := r) (s := s) (a := Tiny.new m seed) hs.third⟩
end Go.Proofs.YteoplijfofohkaaGreat
