/- The law's helper goes: whatever manifest is brought into bounds goes. No conditions but each theorem's own. -/
import Derived.Test.YtknemjnlcghafaaDoorMfA
import Derived.Test.YtknemjnlcghafaaDoorMdE
import Derived.Deep.RegionHeld3
import Derived.Deep.DeepCutAuto
namespace Go.Proofs.YtknemjnlcghafaaDoor
set_option linter.unusedVariables false

/-- A number from 0 to n - 1 out of any. -/
def Mf.pick (k n : Int) : Int := k % n
theorem Mf.pick_in (k n : Int) (h : 0 < n) : 0 ≤ Mf.pick k n ∧ Mf.pick k n < n := ⟨Int.emod_nonneg k (by omega), Int.emod_lt_of_pos k h⟩
/-- The run behind hi. -/
def Mf.goRun (hi : Int) (i : Nat) (r : Run) : Run := ⟨1 + i, hi + Mf.pick r.lo 1000, hi + Mf.pick r.lo 1000 + 1 + Mf.pick r.hi 1125899906842624, 1 + Mf.pick r.cnt 2097152⟩
def Mf.zrun : Run := ⟨0, 0, 0, 0⟩
/-- Where the first k runs end. -/
def Mf.hiAt (l : List Run) : Nat → Int
  | 0 => 0
  | k + 1 => (Mf.goRun (Mf.hiAt l k) k (l.getD k Mf.zrun)).hi
def Mf.goRuns (l : List Run) (k : Nat) : List Run := (List.range k).map fun j => Mf.goRun (Mf.hiAt l j) j (l.getD j Mf.zrun)
theorem Mf.goRuns_len (l : List Run) (k : Nat) : (Mf.goRuns l k).length = k := by simp [Mf.goRuns]
theorem Mf.goRuns_succ (l : List Run) (k : Nat) : Mf.goRuns l (k + 1) = Mf.goRuns l k ++ [Mf.goRun (Mf.hiAt l k) k (l.getD k Mf.zrun)] := by
  unfold Mf.goRuns
  rw [List.range_succ, List.map_append]
  rfl
theorem Mf.goRuns_at (l : List Run) (k j : Nat) (h : j < k) : (Mf.goRuns l k)[j]? = some (Mf.goRun (Mf.hiAt l j) j (l.getD j Mf.zrun)) := by
  unfold Mf.goRuns
  rw [List.getElem?_map, List.getElem?_range h]
  rfl
theorem Mf.hi_step (l : List Run) (k : Nat) : Mf.hiAt l k ≤ (Mf.goRun (Mf.hiAt l k) k (l.getD k Mf.zrun)).lo ∧ (Mf.goRun (Mf.hiAt l k) k (l.getD k Mf.zrun)).lo < Mf.hiAt l (k + 1) ∧ Mf.hiAt l (k + 1) ≤ Mf.hiAt l k + 1125899906843624 := by
  have h1 := Mf.pick_in (l.getD k Mf.zrun).lo 1000 (by decide)
  have h2 := Mf.pick_in (l.getD k Mf.zrun).hi 1125899906842624 (by decide)
  show Mf.hiAt l k ≤ Mf.hiAt l k + Mf.pick (l.getD k Mf.zrun).lo 1000 ∧ Mf.hiAt l k + Mf.pick (l.getD k Mf.zrun).lo 1000 < Mf.hiAt l k + Mf.pick (l.getD k Mf.zrun).lo 1000 + 1 + Mf.pick (l.getD k Mf.zrun).hi 1125899906842624 ∧ Mf.hiAt l k + Mf.pick (l.getD k Mf.zrun).lo 1000 + 1 + Mf.pick (l.getD k Mf.zrun).hi 1125899906842624 ≤ _
  omega
theorem Mf.hi_pos (l : List Run) : ∀ k : Nat, 0 ≤ Mf.hiAt l k ∧ Mf.hiAt l k ≤ k * 1125899906843624
  | 0 => ⟨Int.le_refl 0, by show (0 : Int) ≤ _; omega⟩
  | k + 1 => by
    have h1 := Mf.hi_pos l k
    have h2 := Mf.hi_step l k
    omega
theorem Mf.hi_mono (l : List Run) (k : Nat) : ∀ j, Mf.hiAt l k ≤ Mf.hiAt l (k + j)
  | 0 => Int.le_refl _
  | j + 1 => by
    have h1 := Mf.hi_mono l k j
    have h2 := Mf.hi_step l (k + j)
    rw [← Nat.add_assoc]
    omega
/-- How many runs are taken. -/
def Mf.goLen (M : Man) : Nat := min M.runs.length 24
def Mf.goW (M : Man) : Int := 64 * (1 + Mf.pick M.w 16)
def Mf.goM (M : Man) : Int := 1 + Mf.pick M.m 2
def Mf.goC (M : Man) : Int := if Mf.goM M = 1 then Mf.goW M / 32 + Mf.pick M.c (Mf.goW M / 8 - Mf.goW M / 32 + 1) else 0
def Mf.goJ (M : Man) : Int := Mf.goLen M + 1 + Mf.pick M.jr 1000
/-- A manifest that goes, out of any. -/
def Mf.goes (M : Man) : Man := ⟨Mf.goW M, Mf.goC M, Mf.goM M, Mf.hiAt M.runs (Mf.goLen M) + Mf.pick M.seq 576460752303423488, Mf.goJ M + 1 + Mf.pick M.next 549755813888, Mf.goJ M, Mf.goRuns M.runs (Mf.goLen M)⟩
theorem Mf.goes_opts (M : Man) : Mf.opts (Mf.goW M) (Mf.goC M) (Mf.goM M) = 0 := by
  have h1 := Mf.pick_in M.w 16 (by decide)
  have h2 := Mf.pick_in M.m 2 (by decide)
  obtain ⟨a, ha⟩ : ∃ a, Mf.pick M.w 16 = a := ⟨_, rfl⟩
  have hw : Mf.goW M = 64 * (1 + a) := by unfold Mf.goW; rw [ha]
  have hm : Mf.goM M = 1 + Mf.pick M.m 2 := rfl
  rw [ha] at h1
  have hc := Mf.pick_in M.c (Mf.goW M / 8 - Mf.goW M / 32 + 1) (by rw [hw]; omega)
  have hcc : Mf.goC M = if Mf.goM M = 1 then Mf.goW M / 32 + Mf.pick M.c (Mf.goW M / 8 - Mf.goW M / 32 + 1) else 0 := rfl
  generalize Mf.pick M.c (Mf.goW M / 8 - Mf.goW M / 32 + 1) = p at *
  generalize Mf.goW M = W at *
  generalize Mf.pick M.m 2 = q at *
  generalize Mf.goM M = m at *
  generalize Mf.goC M = c at *
  unfold Mf.opts
  rw [if_neg (by omega), if_neg (by omega)]
  by_cases hm1 : m = 1
  · rw [if_pos hm1] at hcc
    rw [if_neg (by omega), if_neg (by omega)]
  · rw [if_neg hm1] at hcc
    rw [if_neg (by omega), if_neg (by omega)]
theorem Mf.goes_check (M : Man) : Mf.check (Mf.goes M) = 0 := by
  have hl : Mf.goLen M ≤ 24 := Nat.min_le_right _ _
  have hp := Mf.hi_pos M.runs (Mf.goLen M)
  have hs := Mf.pick_in M.seq 576460752303423488 (by decide)
  have hj := Mf.pick_in M.jr 1000 (by decide)
  have hn := Mf.pick_in M.next 549755813888 (by decide)
  have hJ : Mf.goJ M = Mf.goLen M + 1 + Mf.pick M.jr 1000 := rfl
  have hb : ((Mf.goLen M : Nat) : Int) * 1125899906843624 ≤ 27021597764246976 := by omega
  unfold Mf.check
  have ho : Mf.opts (Mf.goes M).w (Mf.goes M).c (Mf.goes M).m = 0 := Mf.goes_opts M
  rw [if_neg (not_not_intro ho), if_pos]
  constructor
  · have hlen : (Mf.goes M).runs.length = Mf.goLen M := Mf.goRuns_len _ _
    unfold Mf.Front
    rw [hlen]
    show 0 ≤ Mf.hiAt M.runs (Mf.goLen M) + Mf.pick M.seq 576460752303423488 ∧ Mf.hiAt M.runs (Mf.goLen M) + Mf.pick M.seq 576460752303423488 ≤ 1152921504606846976 ∧ 2 ≤ Mf.goJ M + 1 + Mf.pick M.next 549755813888 ∧ Mf.goJ M + 1 + Mf.pick M.next 549755813888 ≤ 1099511627776 ∧ 1 ≤ Mf.goJ M ∧ Mf.goJ M < Mf.goJ M + 1 + Mf.pick M.next 549755813888 ∧ Mf.goLen M ≤ 24
    omega
  · intro j r hjl hr
    have hlen : (Mf.goes M).runs.length = Mf.goLen M := Mf.goRuns_len _ _
    rw [hlen] at hjl
    have hr' : (Mf.goRuns M.runs (Mf.goLen M))[j]? = some r := hr
    rw [Mf.goRuns_at _ _ _ hjl] at hr'
    obtain rfl := Option.some.inj hr'
    have hst := Mf.hi_step M.runs j
    have hmo := Mf.hi_mono M.runs (j + 1) (Mf.goLen M - (j + 1))
    rw [show j + 1 + (Mf.goLen M - (j + 1)) = Mf.goLen M by omega] at hmo
    have hc := Mf.pick_in (M.runs.getD j Mf.zrun).cnt 2097152 (by decide)
    have hlast : Mf.last (Mf.goes M) j = Mf.hiAt M.runs j := by
      cases j with
      | zero => rfl
      | succ i =>
        show (match (Mf.goRuns M.runs (Mf.goLen M))[i]? with | some r => r.hi | none => 0) = _
        rw [Mf.goRuns_at _ _ _ (by omega)]
        rfl
    refine ⟨?_, ?_, ?_, ?_, ?_, ?_⟩
    · have hu : ∀ x ∈ Mf.used (Mf.goes M) j, x ≠ 1 + (j : Int) := by
        intro x hx
        unfold Mf.used at hx
        rcases List.mem_cons.1 hx with rfl | hx
        · show Mf.goJ M ≠ _
          omega
        · obtain ⟨y, hy, rfl⟩ := List.mem_map.1 hx
          obtain ⟨i, hi⟩ := List.mem_iff_getElem?.1 hy
          have hij : i < j := by
            have := (List.getElem?_eq_some_iff.1 hi).1
            rw [List.length_take] at this
            omega
          rw [List.getElem?_take_of_lt hij] at hi
          have hi' : (Mf.goRuns M.runs (Mf.goLen M))[i]? = some y := hi
          rw [Mf.goRuns_at _ _ _ (by omega)] at hi'
          obtain rfl := Option.some.inj hi'
          show (1 : Int) + i ≠ 1 + j
          omega
      have : (1 + (j : Int)) ∉ Mf.used (Mf.goes M) j := fun h => hu _ h rfl
      simpa [Mf.goRun] using this
    · unfold Mf.inB
      refine decide_eq_true ?_
      show (1 : Int) ≤ 1 + j ∧ (1 : Int) + j ≤ Mf.goJ M + 1 + Mf.pick M.next 549755813888 - 1
      omega
    · unfold Mf.inB
      refine decide_eq_true ?_
      show (1 : Int) ≤ 1 + Mf.pick (M.runs.getD j Mf.zrun).cnt 2097152 ∧ 1 + Mf.pick (M.runs.getD j Mf.zrun).cnt 2097152 ≤ 2097152
      omega
    · rw [hlast]; exact hst.1
    · exact hst.2.1
    · show Mf.hiAt M.runs (j + 1) ≤ Mf.hiAt M.runs (Mf.goLen M) + Mf.pick M.seq 576460752303423488
      omega
end Go.Proofs.YtknemjnlcghafaaDoor
/- The law's helpers pick and goes. Conditions: each theorem's own hypotheses. -/
namespace Go.Proofs.YtknemjnlcghafaaDoor
open Go.RowKit Go.Maps
set_option linter.unusedVariables false

theorem pick8_val (k n : Int) (hn : 1 ≤ n) (hn2 : n ≤ 4611686018427387904) :
    (k.tmod n < 0 → wrap64 (k.tmod n + n) = k % n) ∧ (0 ≤ k.tmod n → k.tmod n = k % n) := by
  have h1 := Int.emod_nonneg k (show n ≠ 0 by omega)
  have h2 := Int.emod_lt_of_pos k (show 0 < n by omega)
  have h3 := Int.tmod_eq_emod (a := k) (b := n)
  by_cases hc : 0 ≤ k ∨ n ∣ k
  · rw [if_pos hc] at h3; exact ⟨fun h => by omega, fun _ => by omega⟩
  · rw [if_neg hc, show (n.natAbs : Int) = n from by omega] at h3
    rw [h3]
    refine ⟨fun _ => ?_, fun h => by omega⟩
    rw [IntWalk.wrap64_in _ (by omega)]; omega
theorem pick8_any (k n : Int) (w : World) (hn : 1 ≤ n) (hn2 : n ≤ 4611686018427387904) :
    Calls Tryd.prog 8 #[.int .i64 k, .int .i64 n] w fun e w' => e = .returned (.int .i64 (Mf.pick k n)) ∧ w = w' := by
  have hn0 : (n == 0) = false := by rw [beq_eq_false_iff_ne]; omega
  unfold Mf.pick
  go_enter Tryd.func8, Tryd.ntmps8
  go_wp2_with fail
  · have h : k.tmod n < 0 := by assumption
    have e := (pick8_val k n hn hn2).1 h
    clear h
    go_ret
    exact ⟨congrArg (fun z => Ending.returned (Value.int .i64 z)) e, rfl⟩
  · have h : 0 ≤ k.tmod n := by assumption
    have e := (pick8_val k n hn hn2).2 h
    clear h
    go_ret
    exact ⟨congrArg (fun z => Ending.returned (Value.int .i64 z)) e, rfl⟩

theorem ten_set {y b0 b o2 off nR c : Nat} {l1 rh : Int} {W : World} {u : Value} (h1 : b0 ≠ y) (h2 : b ≠ y) (h : W.cell? ⟨y, 1, none⟩ = some (.int .i64 l1) ∧ W.cell? ⟨b0, 6, none⟩ = some (.slice (some ⟨b, off, none⟩) nR c) ∧ W.cell? ⟨b, o2, none⟩ = some (.int .i64 rh)) : (W.setCell ⟨y, 2, none⟩ u).cell? ⟨y, 1, none⟩ = some (.int .i64 l1) ∧ (W.setCell ⟨y, 2, none⟩ u).cell? ⟨b0, 6, none⟩ = some (.slice (some ⟨b, off, none⟩) nR c) ∧ (W.setCell ⟨y, 2, none⟩ u).cell? ⟨b, o2, none⟩ = some (.int .i64 rh) :=
  ⟨(World.cell?_setCell_other _ _ _ _ (by simp)).trans h.1, (World.cell?_of_block (Below.heap_setCell W _ u _ h1)).trans h.2.1, (World.cell?_of_block (Below.heap_setCell W _ u _ h2)).trans h.2.2⟩

/-- What lies there while a manifest is brought into bounds. -/
structure GoSt (M : Man) (A : Option Addr) (c : Nat) (w : World) (a m cc sq nx jr : Int) (A' : Option Addr) (cp : Nat) (rs : List Run) (X : World) : Prop where
  bm : Blk X w.heap.size 26 (manCells M A c)
  br : Blk X (w.heap.size + 1) 26 zeroMan
  bx : Blk X (w.heap.size + 1 + 1) 26 #[.int .i64 (64 * (1 + a)), .int .i64 cc, .int .i64 (1 + m), .int .i64 sq, .int .i64 nx, .int .i64 jr, .slice A' rs.length cp]
  own : Runs X (w.heap.size + 3) A' cp rs
  below : Below w.heap.size w X
  size : w.heap.size + 3 ≤ X.heap.size

theorem GoSt.seq_ {M : Man} {A : Option Addr} {c : Nat} {w : World} {a m cc sq nx jr : Int} {A' : Option Addr} {cp : Nat} {rs : List Run} {X : World} (G : GoSt M A c w a m cc sq nx jr A' cp rs X) (v : Int) : GoSt M A c w a m cc v nx jr A' cp rs (X.setCell ⟨w.heap.size + 1 + 1, 3, none⟩ (.int .i64 v)) :=
  ⟨G.bm.far (by show w.heap.size ≠ w.heap.size + 1 + 1; omega) _, G.br.far (by show w.heap.size + 1 ≠ w.heap.size + 1 + 1; omega) _, G.bx.set_ 3 (.int .i64 v), own_keep G.own (Nat.le_refl _) fun j hj _ => Below.heap_setCell _ _ _ j (by show j ≠ w.heap.size + 1 + 1; omega), G.below.setCell (by show w.heap.size ≤ w.heap.size + 1 + 1; omega) _, by rw [World.size_setCell]; exact G.size⟩
theorem GoSt.jr_ {M : Man} {A : Option Addr} {c : Nat} {w : World} {a m cc sq nx jr : Int} {A' : Option Addr} {cp : Nat} {rs : List Run} {X : World} (G : GoSt M A c w a m cc sq nx jr A' cp rs X) (v : Int) : GoSt M A c w a m cc sq nx v A' cp rs (X.setCell ⟨w.heap.size + 1 + 1, 5, none⟩ (.int .i64 v)) :=
  ⟨G.bm.far (by show w.heap.size ≠ w.heap.size + 1 + 1; omega) _, G.br.far (by show w.heap.size + 1 ≠ w.heap.size + 1 + 1; omega) _, G.bx.set_ 5 (.int .i64 v), own_keep G.own (Nat.le_refl _) fun j hj _ => Below.heap_setCell _ _ _ j (by show j ≠ w.heap.size + 1 + 1; omega), G.below.setCell (by show w.heap.size ≤ w.heap.size + 1 + 1; omega) _, by rw [World.size_setCell]; exact G.size⟩
theorem GoSt.nx_ {M : Man} {A : Option Addr} {c : Nat} {w : World} {a m cc sq nx jr : Int} {A' : Option Addr} {cp : Nat} {rs : List Run} {X : World} (G : GoSt M A c w a m cc sq nx jr A' cp rs X) (v : Int) : GoSt M A c w a m cc sq v jr A' cp rs (X.setCell ⟨w.heap.size + 1 + 1, 4, none⟩ (.int .i64 v)) :=
  ⟨G.bm.far (by show w.heap.size ≠ w.heap.size + 1 + 1; omega) _, G.br.far (by show w.heap.size + 1 ≠ w.heap.size + 1 + 1; omega) _, G.bx.set_ 4 (.int .i64 v), own_keep G.own (Nat.le_refl _) fun j hj _ => Below.heap_setCell _ _ _ j (by show j ≠ w.heap.size + 1 + 1; omega), G.below.setCell (by show w.heap.size ≤ w.heap.size + 1 + 1; omega) _, by rw [World.size_setCell]; exact G.size⟩
theorem GoSt.drew_ {M : Man} {A : Option Addr} {c : Nat} {w : World} {a m cc sq nx jr : Int} {A' : Option Addr} {cp : Nat} {rs : List Run} {X : World} (G : GoSt M A c w a m cc sq nx jr A' cp rs X) : GoSt M A c w a m cc sq nx jr A' cp rs X.drew := ⟨G.bm, G.br, G.bx, G.own, Below.drew_ G.below, G.size⟩
theorem two_set {x y i j k : Nat} {u v r : Value} {W : World} (h1 : x = y → i ≠ j) (h2 : k ≠ y) {o : Nat} (h : W.cell? ⟨x, i, none⟩ = some u ∧ W.cell? ⟨k, o, none⟩ = some v) : (W.setCell ⟨y, j, none⟩ r).cell? ⟨x, i, none⟩ = some u ∧ (W.setCell ⟨y, j, none⟩ r).cell? ⟨k, o, none⟩ = some v :=
  ⟨(World.cell?_setCell_other _ _ _ _ (by simp; exact fun e e2 => h1 e.symm e2.symm)).trans h.1, (World.cell?_of_block (Below.heap_setCell W _ r _ h2)).trans h.2⟩

set_option maxRecDepth 100000 in
set_option maxHeartbeats 4000000 in
theorem goes_any (M : Man) (A : Option Addr) (c : Nat) (w : World) (HR : Rs w w.heap.size A M.runs) (hl : M.runs.length ≤ 4398046511104) :
    Calls Tryd.prog 5 #[manV M A c] w fun e w' => (∃ A' c', e = .returned (manV (Mf.goes M) A' c') ∧ Runs w' w.heap.size A' c' (Mf.goes M).runs) ∧ Below w.heap.size w w' := by
  obtain ⟨i0, hi, hz0, hz1, hz2⟩ := info_parts infoRun
  obtain ⟨a, ha⟩ : ∃ a, Mf.pick M.w 16 = a := ⟨_, rfl⟩
  have ha' := Mf.pick_in M.w 16 (by decide)
  rw [ha] at ha'
  obtain ⟨m, hm⟩ : ∃ m, Mf.pick M.m 2 = m := ⟨_, rfl⟩
  have hm' := Mf.pick_in M.m 2 (by decide)
  rw [hm] at hm'
  have hp1 : ∀ W, Calls Tryd.prog 8 #[.int .i64 M.w, .int .i64 16] W fun e W' => e = .returned (.int .i64 a) ∧ W = W' := fun W => by rw [← ha]; exact pick8_any _ _ W (by decide) (by decide)
  have hp2 : ∀ W, Calls Tryd.prog 8 #[.int .i64 M.m, .int .i64 2] W fun e W' => e = .returned (.int .i64 m) ∧ W = W' := fun W => by rw [← hm]; exact pick8_any _ _ W (by decide) (by decide)
  have HP1 := Lib.hid hp1
  have HP2 := Lib.hid hp2
  have HA := Lib.hid ha
  have HM := Lib.hid hm
  clear hp1 hp2 ha hm
  unfold manV
  go_enter Tryd.func5, Tryd.ntmps5
  go_wp2_with fail
  refine (HP1.out _).mono ?_
  rintro e w1 ⟨rfl, rfl⟩
  go_wp2_with fail
  refine (HP2.out _).mono ?_
  rintro e w1 ⟨rfl, rfl⟩
  go_upto_region 3 with fail
  obtain ⟨W1, hW1⟩ : ∃ W1, (((w.alloc (.cells #[.int .i64 M.w, .int .i64 M.c, .int .i64 M.m, .int .i64 M.seq, .int .i64 M.next, .int .i64 M.jr, .slice A M.runs.length c] 26)).alloc (.cells #[.int .i64 0, .int .i64 0, .int .i64 0, .int .i64 0, .int .i64 0, .int .i64 0, .slice none 0 0] 26)).alloc (.cells #[.int .i64 (64 * (1 + a)), .int .i64 0, .int .i64 (1 + m), .int .i64 0, .int .i64 0, .int .i64 0, .slice none 0 0] 26)) = W1 := ⟨_, rfl⟩
  have hk1 : ∀ o : Obj, (w.alloc o).heap.size = w.heap.size + 1 := fun o => by simp
  have G1 : GoSt M A c w a m 0 0 0 0 none 0 [] W1 := by
    refine ⟨?_, ?_, ?_, Runs.nil _ _, ?_, ?_⟩
    · rw [← hW1]; exact ((Blk.new w _ _).alloc _).alloc _
    · rw [← hW1]
      have := Blk.new (w.alloc (.cells #[.int .i64 M.w, .int .i64 M.c, .int .i64 M.m, .int .i64 M.seq, .int .i64 M.next, .int .i64 M.jr, .slice A M.runs.length c] 26)) 26 zeroMan
      rw [World.size_alloc] at this
      exact this.alloc _
    · rw [← hW1]
      have := Blk.new ((w.alloc (.cells #[.int .i64 M.w, .int .i64 M.c, .int .i64 M.m, .int .i64 M.seq, .int .i64 M.next, .int .i64 M.jr, .slice A M.runs.length c] 26)).alloc (.cells #[.int .i64 0, .int .i64 0, .int .i64 0, .int .i64 0, .int .i64 0, .int .i64 0, .slice none 0 0] 26)) 26 #[.int .i64 (64 * (1 + a)), .int .i64 0, .int .i64 (1 + m), .int .i64 0, .int .i64 0, .int .i64 0, .slice none 0 0]
      rw [World.size_alloc, World.size_alloc] at this
      exact this
    · rw [← hW1]; exact (((Below.refl _ _).alloc (Nat.le_refl _) _).alloc (by simp) _).alloc (by simp; omega) _
    · rw [← hW1, World.size_alloc, World.size_alloc, World.size_alloc]; exact Nat.le_refl _
  rw [hW1]
  clear hW1 hk1
  obtain ⟨cc, hcc⟩ : ∃ cc, Mf.goC M = cc := ⟨_, rfl⟩
  obtain ⟨d8, h8⟩ : ∃ d8, 8 * (1 + a) = d8 := ⟨_, rfl⟩
  obtain ⟨d32, h32⟩ : ∃ d32, 2 * (1 + a) = d32 := ⟨_, rfl⟩
  have t8 : Int.tdiv (64 * (1 + a)) 8 = d8 := by rw [Int.tdiv_eq_ediv_of_nonneg (by omega)]; omega
  have t32 : Int.tdiv (64 * (1 + a)) 32 = d32 := by rw [Int.tdiv_eq_ediv_of_nonneg (by omega)]; omega
  obtain ⟨pc, hpc⟩ : ∃ pc, Mf.pick M.c (d8 - d32 + 1) = pc := ⟨_, rfl⟩
  have hpc' := Mf.pick_in M.c (d8 - d32 + 1) (by omega)
  rw [hpc] at hpc'
  have hcv : cc = if m = 0 then d32 + pc else 0 := by
    rw [← hcc]
    unfold Mf.goC Mf.goM Mf.goW
    rw [HM.out, HA.out, show 64 * (1 + a) / 32 = d32 by omega, show 64 * (1 + a) / 8 = d8 by omega, hpc]
    by_cases h : m = 0
    · rw [if_pos h, if_pos (by omega)]
    · rw [if_neg h, if_neg (by omega)]
  have hp3 : ∀ W, Calls Tryd.prog 8 #[.int .i64 M.c, .int .i64 (d8 - d32 + 1)] W fun e W' => e = .returned (.int .i64 pc) ∧ W = W' := fun W => by rw [← hpc]; exact pick8_any _ _ W (by omega) (by omega)
  have HP3 := Lib.hid hp3
  have H8 := Lib.hid (And.intro h8 h32)
  have hb8 : 8 ≤ d8 ∧ d8 ≤ 128 ∧ 2 ≤ d32 ∧ d32 ≤ 32 := by omega
  have m1 : W1.cell? ⟨w.heap.size, 1, none⟩ = some (.int .i64 M.c) := G1.bm.cell 1
  have x1 : W1.cell? ⟨w.heap.size + 1 + 1, 1, none⟩ = some (.int .i64 0) := G1.bx.cell 1
  have x2 : W1.cell? ⟨w.heap.size + 1 + 1, 2, none⟩ = some (.int .i64 (1 + m)) := G1.bx.cell 2
  have xf : W1.frozen? ⟨w.heap.size + 1 + 1, 1, none⟩ = false := G1.bx.frozen 1
  clear hp3 hpc h8 h32
  go_upto_if 25 with fail
  go_cut [3] (fun v X => v = .int .i64 (64 * (1 + a)) ∧ GoSt M A c w a m cc 0 0 0 none 0 [] X)
  case first =>
    by_cases hm0 : m = 0
    · rw [if_pos hm0] at hcv
      subst hm0
      go_wp2_with (go_at_call 8; refine (HP3.out _).mono ?_; rintro e w1 ⟨rfl, rfl⟩)
      go_meet
      refine ⟨rfl, G1.bm.far (by show w.heap.size ≠ w.heap.size + 1 + 1; omega) _, G1.br.far (by show w.heap.size + 1 ≠ w.heap.size + 1 + 1; omega) _, ?_, Runs.nil _ _, G1.below.setCell (by show w.heap.size ≤ w.heap.size + 1 + 1; omega) _, by rw [World.size_setCell]; exact G1.size⟩
      rw [hcv]
      exact G1.bx.set_ 1 (.int .i64 (d32 + pc))
    · have hb : ((1 + m : Int) == 1) = false := by rw [beq_eq_false_iff_ne]; omega
      rw [if_neg hm0] at hcv
      subst hcv
      go_wp2_with fail
      go_meet
      exact ⟨rfl, G1⟩
  case rest =>
    obtain ⟨rfl, G2⟩ := hcut
    clear G1 m1 x1 x2 xf hcv
    obtain ⟨nL, hnL⟩ : ∃ nL, Mf.goLen M = nL := ⟨_, rfl⟩
    have hnl1 : nL ≤ M.runs.length ∧ nL ≤ 24 ∧ (M.runs.length ≤ nL ∨ 24 ≤ nL) := by rw [← hnL]; unfold Mf.goLen; omega
    go_wp2_with fail
    go_loopw [5, 6] (fun h i X => ∃ (k : Nat) (A' : Option Addr) (cp : Nat), k ≤ nL ∧ i = .int .i64 k ∧ h = .int .i64 (Mf.hiAt M.runs k) ∧ GoSt M A c w a m cc 0 0 0 A' cp (Mf.goRuns M.runs k) X) (fun _ i _ => nL - (intOf i).toNat)
    case atStart => exact ⟨0, none, 0, Nat.zero_le _, rfl, rfl, G2⟩
    case round =>
      clear G2
      obtain ⟨k, A', cp, hk, rfl, rfl, G⟩ := hrel
      have m6 : wr.cell? ⟨w.heap.size, 6, none⟩ = some (.slice A M.runs.length c) := G.bm.cell 6
      by_cases hlt : k < nL
      · have g1 : k < M.runs.length := by omega
        have g2 : k < 24 := by omega
        obtain ⟨b, off, r, rfl, hbb, hj, e0, e1, e2, e3⟩ := (HR.below G.below).at_ g1
        have hgd : M.runs.getD k Mf.zrun = r := by rw [List.getD_eq_getElem?_getD, hj]; rfl
        have hgs := Mf.goRuns_succ M.runs k
        have hh := Mf.hi_pos M.runs k
        have hhs : Mf.hiAt M.runs (k + 1) = (Mf.goRun (Mf.hiAt M.runs k) k (M.runs.getD k Mf.zrun)).hi := rfl
        rw [hgd] at hgs hhs
        obtain ⟨H, hH⟩ : ∃ H, Mf.hiAt M.runs k = H := ⟨_, rfl⟩
        rw [hH] at hgs hhs hh ⊢
        obtain ⟨p1, hp1⟩ : ∃ p1, Mf.pick r.lo 1000 = p1 := ⟨_, rfl⟩
        obtain ⟨p2, hp2⟩ : ∃ p2, Mf.pick r.hi 1125899906842624 = p2 := ⟨_, rfl⟩
        obtain ⟨p3, hp3⟩ : ∃ p3, Mf.pick r.cnt 2097152 = p3 := ⟨_, rfl⟩
        have q1 := Mf.pick_in r.lo 1000 (by decide)
        have q2 := Mf.pick_in r.hi 1125899906842624 (by decide)
        have q3 := Mf.pick_in r.cnt 2097152 (by decide)
        unfold Mf.goRun at hgs hhs
        rw [hp1, hp2, hp3] at hgs
        dsimp only at hhs
        rw [hp1, hp2] at hhs
        rw [hp1] at q1
        rw [hp2] at q2
        rw [hp3] at q3
        have hH2 : H ≤ 27021597764246976 := by omega
        have hH0 := hh.1
        have c1 : ∀ W, Calls Tryd.prog 8 #[.int .i64 r.lo, .int .i64 1000] W fun e W' => e = .returned (.int .i64 p1) ∧ W = W' := fun W => by rw [← hp1]; exact pick8_any _ _ W (by decide) (by decide)
        have c2 : ∀ W, Calls Tryd.prog 8 #[.int .i64 r.hi, .int .i64 1125899906842624] W fun e W' => e = .returned (.int .i64 p2) ∧ W = W' := fun W => by rw [← hp2]; exact pick8_any _ _ W (by decide) (by decide)
        have c3 : ∀ W, Calls Tryd.prog 8 #[.int .i64 r.cnt, .int .i64 2097152] W fun e W' => e = .returned (.int .i64 p3) ∧ W = W' := fun W => by rw [← hp3]; exact pick8_any _ _ W (by decide) (by decide)
        have HC1 := Lib.hid c1
        have HC2 := Lib.hid c2
        have HC3 := Lib.hid c3
        have HGS := Lib.hid hgs
        have HHS := Lib.hid hhs
        have HHH := Lib.hid hH
        have HJ := Lib.hid hj
        have hgz := G.size
        clear c1 c2 c3 hp1 hp2 hp3 hgs hhs hH hj hgd hh
        go_wp2_with (go_at_call 8; refine (HC1.out _).mono ?_; rintro e w1 ⟨rfl, rfl⟩)
        obtain ⟨W2, hW2⟩ : ∃ W2, wr.alloc (.cells #[.int .i64 (1 + (k : Int)), .int .i64 (H + p1), .int .i64 0, .int .i64 0] 54) = W2 := ⟨_, rfl⟩
        have hB2 : Below wr.heap.size wr W2 := by rw [← hW2]; exact (Below.refl _ _).alloc (Nat.le_refl _) _
        have bx2 : Blk W2 wr.heap.size 54 #[.int .i64 (1 + (k : Int)), .int .i64 (H + p1), .int .i64 0, .int .i64 0] := by rw [← hW2]; exact Blk.new _ _ _
        have z2 : W2.heap.size = wr.heap.size + 1 := by rw [← hW2, World.size_alloc]
        have hbw : b < wr.heap.size := by omega
        have n6 := (hB2.cell (p := ⟨w.heap.size, 6, none⟩) (by show w.heap.size < wr.heap.size; omega)).trans m6
        have n2 := (hB2.cell (p := ⟨b, off + k * 4 + 2, none⟩) hbw).trans e2
        have n3 := (hB2.cell (p := ⟨b, off + k * 4 + 3, none⟩) hbw).trans e3
        have y1 : W2.cell? ⟨wr.heap.size, 1, none⟩ = some (.int .i64 (H + p1)) := bx2.cell 1
        have y2 : W2.cell? ⟨wr.heap.size, 2, none⟩ = some (.int .i64 0) := bx2.cell 2
        have yf : W2.frozen? ⟨wr.heap.size, 2, none⟩ = false := bx2.frozen 2
        have S0 : W2.drew.cell? ⟨wr.heap.size, 1, none⟩ = some (.int .i64 (H + p1)) ∧ W2.drew.cell? ⟨w.heap.size, 6, none⟩ = some (.slice (some ⟨b, off, none⟩) M.runs.length c) ∧ W2.drew.cell? ⟨b, off + k * 4 + 2, none⟩ = some (.int .i64 r.hi) := ⟨y1, n6, n2⟩
        have ny1 : w.heap.size ≠ wr.heap.size := by omega
        have wq1 : IntKind.i64.wrap (H + p1 + 1) = H + p1 + 1 := by unfold IntKind.wrap; simp [IntKind.bits, IntKind.signed]; omega
        have wq2 : IntKind.i64.wrap (H + p1 + 1 + p2) = H + p1 + 1 + p2 := by unfold IntKind.wrap; simp [IntKind.bits, IntKind.signed]; omega
        have ny2 : b ≠ wr.heap.size := by omega
        rw [hW2]
        have HW2 := Lib.hid hW2
        have HZ2 := Lib.hid z2
        clear hW2 z2 m6 e0 e1 e2 e3
        go_cut [7] (fun v X => v = .pointer (some ⟨wr.heap.size, 0, none⟩) ∧ Blk X wr.heap.size 54 #[.int .i64 (1 + (k : Int)), .int .i64 (H + p1), .int .i64 (H + p1 + 1 + p2), .int .i64 0] ∧ Save wr.heap.size wr.heap.size W2 X)
        case first =>
          go_region_held3 (fun W' => W'.cell? ⟨wr.heap.size, 1, none⟩ = some (.int .i64 (H + p1)) ∧ W'.cell? ⟨w.heap.size, 6, none⟩ = some (.slice (some ⟨b, off, none⟩) M.runs.length c) ∧ W'.cell? ⟨b, off + k * 4 + 2, none⟩ = some (.int .i64 r.hi))
            (first
              | with_reducible assumption
              | exact ten_set ny1 ny2 (by assumption))
            (first
              | (go_at_call 8; refine (HC2.out _).mono ?_; rintro e x1 ⟨rfl, rfl⟩))
          all_goals
            go_wp2_with fail
            go_meet
            exact ⟨rfl, bx2.set_ 2 (.int .i64 (H + p1 + 1 + p2)), (Save.refl _ _ W2).set_ ⟨wr.heap.size, 2, none⟩ _ (Or.inl rfl) |>.dn 1⟩
        case rest =>
          obtain ⟨rfl, bx3, sv3⟩ := hcut
          have hzc : wc.heap.size = wr.heap.size + 1 := sv3.size.trans HZ2.out
          have hkc : ∀ j, j < wr.heap.size → wc.heap[j]? = wr.heap[j]? := fun j hj => (sv3.block j (by omega) (by omega)).trans (hB2.block j hj)
          have hBc : Below wr.heap.size wr wc := ⟨sv3.os.trans hB2.os, sv3.tape.trans hB2.tape, sv3.output.trans hB2.output, by omega, hkc⟩
          have k6 : wc.cell? ⟨w.heap.size, 6, none⟩ = some (.slice (some ⟨b, off, none⟩) M.runs.length c) := (World.cell?_of_block (sv3.block w.heap.size ny1 ny1)).trans n6
          have k3 : wc.cell? ⟨b, off + k * 4 + 3, none⟩ = some (.int .i64 r.cnt) := (World.cell?_of_block (sv3.block b ny2 ny2)).trans n3
          have x0 : wc.cell? ⟨wr.heap.size, 0, none⟩ = some (.int .i64 (1 + (k : Int))) := bx3.cell 0
          have x1 : wc.cell? ⟨wr.heap.size, 1, none⟩ = some (.int .i64 (H + p1)) := bx3.cell 1
          have x2 : wc.cell? ⟨wr.heap.size, 2, none⟩ = some (.int .i64 (H + p1 + 1 + p2)) := bx3.cell 2
          have x3 : wc.cell? ⟨wr.heap.size, 3, none⟩ = some (.int .i64 0) := bx3.cell 3
          have xf : wc.frozen? ⟨wr.heap.size, 3, none⟩ = false := bx3.frozen 3
          have hGx : Blk wc (w.heap.size + 1 + 1) 26 _ := (hkc _ (by omega)).trans G.bx
          have xs : wc.cell? ⟨w.heap.size + 1 + 1, 6, none⟩ = some (.slice A' (Mf.goRuns M.runs k).length cp) := hGx.cell 6
          have xg : wc.frozen? ⟨w.heap.size + 1 + 1, 6, none⟩ = false := hGx.frozen 6
          have hZC := Lib.hid hzc
          clear n6 n2 n3 y1 y2 yf S0 hzc
          go_upto_region 13 with (go_at_call 8; refine (HC3.out _).mono ?_; rintro e w1 ⟨rfl, rfl⟩)
          obtain ⟨Wd, hWd⟩ : ∃ Wd, wc.setCell ⟨wr.heap.size, 3, none⟩ (.int .i64 (1 + p3)) = Wd := ⟨_, rfl⟩
          have bx4 : Blk Wd wr.heap.size 54 #[.int .i64 (1 + (k : Int)), .int .i64 (H + p1), .int .i64 (H + p1 + 1 + p2), .int .i64 (1 + p3)] := by rw [← hWd]; exact bx3.set_ 3 (.int .i64 (1 + p3))
          have hkd : ∀ j, j < wr.heap.size → Wd.heap[j]? = wr.heap[j]? := fun j hj => by rw [← hWd]; exact (Below.heap_setCell _ _ _ j (by show j ≠ wr.heap.size; omega)).trans (hkc j hj)
          have hzd : Wd.heap.size = wr.heap.size + 1 := by rw [← hWd, World.size_setCell]; exact hZC.out
          have hBd : Below wr.heap.size wr Wd := ⟨by rw [← hWd]; exact hBc.os, by rw [← hWd]; exact hBc.tape, by rw [← hWd]; exact hBc.output, by omega, hkd⟩
          clear x0 x1 x2 x3 xf xs xg k6 k3
          have x0 : Wd.cell? ⟨wr.heap.size, 0, none⟩ = some (.int .i64 (1 + (k : Int))) := bx4.cell 0
          have x1 : Wd.cell? ⟨wr.heap.size, 1, none⟩ = some (.int .i64 (H + p1)) := bx4.cell 1
          have x2 : Wd.cell? ⟨wr.heap.size, 2, none⟩ = some (.int .i64 (H + p1 + 1 + p2)) := bx4.cell 2
          have x3 : Wd.cell? ⟨wr.heap.size, 3, none⟩ = some (.int .i64 (1 + p3)) := bx4.cell 3
          have hGd : Blk Wd (w.heap.size + 1 + 1) 26 _ := (hkd _ (by omega)).trans G.bx
          have xs : Wd.cell? ⟨w.heap.size + 1 + 1, 6, none⟩ = some (.slice A' (Mf.goRuns M.runs k).length cp) := hGd.cell 6
          have od : Runs Wd (w.heap.size + 3) A' cp (Mf.goRuns M.runs k) := own_keep G.own (Nat.le_refl _) fun j _ hj => hkd j hj
          have hgl := Mf.goRuns_len M.runs k
          rw [hWd]
          have O6 := Lib.hid (World.ownsRow.alloc (show Wd.ownsRow _ _ _ _ _ _ from od) (.cells #[.int .i64 (1 + (k : Int)), .int .i64 (H + p1), .int .i64 (H + p1 + 1 + p2), .int .i64 (1 + p3)] 54))
          have hap : (Mf.goRuns M.runs k).length + 1 ≤ maxLen := by unfold maxLen; omega
          have hap2 : ((Mf.goRuns M.runs k).length + 1) * 32 ≤ 140737488355328 := by omega
          have hap3 : w.heap.size + 3 ≤ (Wd.alloc (.cells #[.int .i64 (1 + (k : Int)), .int .i64 (H + p1), .int .i64 (H + p1 + 1 + p2), .int .i64 (1 + p3)] 54)).heap.size := by rw [World.size_alloc]; omega
          have ne : ∀ j, j < w.heap.size + 3 → some j ≠ (Value.slice A' (Mf.goRuns M.runs k).length cp).ownBlock := fun j hj e => by have := (O6.out.lt _ e.symm).1; omega
          have HGL := Lib.hid hgl
          have HZD := Lib.hid hzd
          have OD := Lib.hid od
          clear hWd hgl hzd od
          go_wp2_with (at_builtin; refine wpList_append_own (hs := ?e1) (hx := ?e2) (hown := O6.out) (hnews := run_cells Wd ⟨1 + (k : Int), H + p1, H + p1 + 1 + p2, 1 + p3⟩) _ rfl (.tmp 88) (.tmp 90) 24 ?e0 (w.heap.size + 3) 54 i0 (.agg #[.int .i64 0, .int .i64 0, .int .i64 0, .int .i64 0]) 4 32 Tryd.underlying24 hi hz0 hz1 hz2 ?e3 (by decide) (.slice A' (Mf.goRuns M.runs k).length cp) (Mf.goRuns M.runs k).length (cellsOf (Mf.goRuns M.runs k)) ⟨Wd.heap.size, 0, none⟩ 1 1 (cellsOf [⟨1 + (k : Int), H + p1, H + p1 + 1 + p2, 1 + p3⟩]) ?e4 (cellsOf_one _) hap hap2 hap3 ?_)
          case e0 => rfl
          case e3 => rfl
          case e4 => rfl
          case e1 => simp [Act.eval]
          case e2 => simp [Act.eval]
          intro v2 w5 hown5 hgrow5 _
          obtain ⟨g', cap', rfl, _, _⟩ := hown5.form (by omega)
          have m7 := Blk.grown (Blk.alloc ((hkd _ (by omega)).trans G.bm) (.cells #[.int .i64 (1 + (k : Int)), .int .i64 (H + p1), .int .i64 (H + p1 + 1 + p2), .int .i64 (1 + p3)] 54)) hgrow5 (ne _ (by omega))
          have r7 := Blk.grown (Blk.alloc ((hkd _ (by omega)).trans G.br) (.cells #[.int .i64 (1 + (k : Int)), .int .i64 (H + p1), .int .i64 (H + p1 + 1 + p2), .int .i64 (1 + p3)] 54)) hgrow5 (ne _ (by omega))
          have b7 := Blk.grown (Blk.alloc hGd (.cells #[.int .i64 (1 + (k : Int)), .int .i64 (H + p1), .int .i64 (H + p1 + 1 + p2), .int .i64 (1 + p3)] 54)) hgrow5 (ne _ (by omega))
          have B7 : Below w.heap.size w w5 := ((G.below.trans (hBd.mono G.below.size)).alloc (Nat.le_trans G.below.size hBd.size) _).grown hgrow5 (by have := G.below.size; have := HZD.out; simp; omega) (fun j e => by have := (O6.out.lt j e).1; omega)
          have z7 : w.heap.size + 3 ≤ w5.heap.size := Nat.le_trans hap3 hgrow5.size
          have c7 : w5.cell? ⟨w.heap.size + 1 + 1, 6, none⟩ = some (.slice A' (Mf.goRuns M.runs k).length cp) := b7.cell 6
          have f7 : w5.frozen? ⟨w.heap.size + 1 + 1, 6, none⟩ = false := b7.frozen 6
          have happ : cellsOf (Mf.goRuns M.runs k) ++ cellsOf [⟨1 + (k : Int), H + p1, H + p1 + 1 + p2, 1 + p3⟩] = cellsOf (Mf.goRuns M.runs (k + 1)) := by rw [HGS.out, cellsOf_append]
          rw [happ] at hown5
          have HO5 := Lib.hid hown5
          have HZ7 := Lib.hid z7
          have hl2 : (Mf.goRuns M.runs (k + 1)).length = (Mf.goRuns M.runs k).length + 1 := by rw [Mf.goRuns_len, Mf.goRuns_len]
          have HL2 := Lib.hid hl2
          clear hown5 hgrow5 happ z7 hl2 x0 x1 x2 x3 xs
          go_wp2_with fail
          go_roundw
          case rel =>
            refine ⟨k + 1, some ⟨g', 0, none⟩, cap', by omega, by go_num, by rw [HHS.out], m7.far (by show w.heap.size ≠ w.heap.size + 1 + 1; omega) _, r7.far (by show w.heap.size + 1 ≠ w.heap.size + 1 + 1; omega) _, ?_, ?_, B7.setCell (by show w.heap.size ≤ w.heap.size + 1 + 1; omega) _, by rw [World.size_setCell]; exact HZ7.out⟩
            · have := b7.set_ 6 (.slice (some ⟨g', 0, none⟩) (Mf.goRuns M.runs (k + 1)).length cap')
              rw [HL2.out] at this ⊢
              exact this
            · unfold Runs
              rw [HL2.out]
              exact own_keep HO5.out (Nat.le_refl _) fun j hj _ => Below.heap_setCell _ _ _ j (by show j ≠ w.heap.size + 1 + 1; omega)
          case measure => simp only [intOf]; omega
      · obtain rfl : k = nL := by omega
        obtain ⟨H, hH⟩ : ∃ H, Mf.hiAt M.runs k = H := ⟨_, rfl⟩
        have hh := Mf.hi_pos M.runs k
        rw [hH] at hh ⊢
        have hH2 : H ≤ 27021597764246976 := by omega
        have hH0 : 0 ≤ H := hh.1
        obtain ⟨ps, hps⟩ : ∃ ps, Mf.pick M.seq 576460752303423488 = ps := ⟨_, rfl⟩
        obtain ⟨pj, hpj⟩ : ∃ pj, Mf.pick M.jr 1000 = pj := ⟨_, rfl⟩
        obtain ⟨pn, hpn⟩ : ∃ pn, Mf.pick M.next 549755813888 = pn := ⟨_, rfl⟩
        have q1 := Mf.pick_in M.seq 576460752303423488 (by decide)
        have q2 := Mf.pick_in M.jr 1000 (by decide)
        have q3 := Mf.pick_in M.next 549755813888 (by decide)
        rw [hps] at q1
        rw [hpj] at q2
        rw [hpn] at q3
        have c1 : ∀ W, Calls Tryd.prog 8 #[.int .i64 M.seq, .int .i64 576460752303423488] W fun e W' => e = .returned (.int .i64 ps) ∧ W = W' := fun W => by rw [← hps]; exact pick8_any _ _ W (by decide) (by decide)
        have c2 : ∀ W, Calls Tryd.prog 8 #[.int .i64 M.jr, .int .i64 1000] W fun e W' => e = .returned (.int .i64 pj) ∧ W = W' := fun W => by rw [← hpj]; exact pick8_any _ _ W (by decide) (by decide)
        have c3 : ∀ W, Calls Tryd.prog 8 #[.int .i64 M.next, .int .i64 549755813888] W fun e W' => e = .returned (.int .i64 pn) ∧ W = W' := fun W => by rw [← hpn]; exact pick8_any _ _ W (by decide) (by decide)
        have HC1 := Lib.hid c1
        have HC2 := Lib.hid c2
        have HC3 := Lib.hid c3
        have hge : Mf.goes M = ⟨64 * (1 + a), cc, 1 + m, H + ps, (k : Int) + 1 + pj + 1 + pn, (k : Int) + 1 + pj, Mf.goRuns M.runs k⟩ := by
          unfold Mf.goes Mf.goW Mf.goM Mf.goJ
          rw [HA.out, HM.out, hcc, hnL, hH, hps, hpj, hpn]
        have HGE := Lib.hid hge
        have hgl := Mf.goRuns_len M.runs k
        have m1 : wr.cell? ⟨w.heap.size, 3, none⟩ = some (.int .i64 M.seq) := G.bm.cell 3
        have x3 : wr.cell? ⟨w.heap.size + 1 + 1, 3, none⟩ = some (.int .i64 0) := G.bx.cell 3
        have xf : wr.frozen? ⟨w.heap.size + 1 + 1, 3, none⟩ = false := G.bx.frozen 3
        clear c1 c2 c3 hge hps hpj hpn hH hh
        have wj1 : IntKind.i64.wrap ((k : Int) + 1) = (k : Int) + 1 := by unfold IntKind.wrap; simp [IntKind.bits, IntKind.signed]; omega
        have wj2 : IntKind.i64.wrap ((k : Int) + 1 + pj) = (k : Int) + 1 + pj := by unfold IntKind.wrap; simp [IntKind.bits, IntKind.signed]; omega
        have wn1 : IntKind.i64.wrap ((k : Int) + 1 + pj + 1) = (k : Int) + 1 + pj + 1 := by unfold IntKind.wrap; simp [IntKind.bits, IntKind.signed]; omega
        have wn2 : IntKind.i64.wrap ((k : Int) + 1 + pj + 1 + pn) = (k : Int) + 1 + pj + 1 + pn := by unfold IntKind.wrap; simp [IntKind.bits, IntKind.signed]; omega
        have gd : (k < M.runs.length ∧ 24 ≤ k) ∨ M.runs.length ≤ k := by omega
        rcases gd with ⟨ga, gb⟩ | ga
        all_goals
          go_upto_region 15 with (go_at_call 8; refine (HC1.out _).mono ?_; rintro e z1 ⟨rfl, rfl⟩)
          have Ge := G.seq_ (H + ps)
          obtain ⟨We, hWe⟩ : ∃ We, wr.setCell ⟨w.heap.size + 1 + 1, 3, none⟩ (.int .i64 (H + ps)) = We := ⟨_, rfl⟩
          rw [hWe] at Ge ⊢
          clear hWe G m1 x3 xf m6
          have u6 : We.cell? ⟨w.heap.size + 1 + 1, 6, none⟩ = some (.slice A' (Mf.goRuns M.runs k).length cp) := Ge.bx.cell 6
          have u5 : We.cell? ⟨w.heap.size + 1 + 1, 5, none⟩ = some (.int .i64 0) := Ge.bx.cell 5
          have v5 : We.cell? ⟨w.heap.size, 5, none⟩ = some (.int .i64 M.jr) := Ge.bm.cell 5
          have uf : We.frozen? ⟨w.heap.size + 1 + 1, 5, none⟩ = false := Ge.bx.frozen 5
          have S0 : We.drew.cell? ⟨w.heap.size + 1 + 1, 6, none⟩ = some (.slice A' (Mf.goRuns M.runs k).length cp) ∧ We.drew.cell? ⟨w.heap.size, 5, none⟩ = some (.int .i64 M.jr) := ⟨u6, v5⟩
          go_cut [3] (fun v X => v = .int .i64 (64 * (1 + a)) ∧ GoSt M A c w a m cc (H + ps) 0 ((k : Int) + 1 + pj) A' cp (Mf.goRuns M.runs k) X)
          case first =>
            go_region_held3 (fun W' => W'.cell? ⟨w.heap.size + 1 + 1, 6, none⟩ = some (.slice A' (Mf.goRuns M.runs k).length cp) ∧ W'.cell? ⟨w.heap.size, 5, none⟩ = some (.int .i64 M.jr))
              (first
                | with_reducible assumption
                | exact two_set (fun _ => by decide) (by omega) (by assumption))
              (first
                | (go_at_call 8; refine (HC2.out _).mono ?_; rintro e z1 ⟨rfl, rfl⟩))
            all_goals
              go_wp2_with fail
              go_meet
              exact ⟨rfl, (Ge.jr_ _).drew_⟩
          case rest =>
            obtain ⟨rfl, Gf⟩ := hcut
            clear Ge u6 u5 v5 uf S0
            have u5 : wc.cell? ⟨w.heap.size + 1 + 1, 5, none⟩ = some (.int .i64 ((k : Int) + 1 + pj)) := Gf.bx.cell 5
            have u4 : wc.cell? ⟨w.heap.size + 1 + 1, 4, none⟩ = some (.int .i64 0) := Gf.bx.cell 4
            have v4 : wc.cell? ⟨w.heap.size, 4, none⟩ = some (.int .i64 M.next) := Gf.bm.cell 4
            have uf : wc.frozen? ⟨w.heap.size + 1 + 1, 4, none⟩ = false := Gf.bx.frozen 4
            have S1 : wc.drew.cell? ⟨w.heap.size + 1 + 1, 5, none⟩ = some (.int .i64 ((k : Int) + 1 + pj)) ∧ wc.drew.cell? ⟨w.heap.size, 4, none⟩ = some (.int .i64 M.next) := ⟨u5, v4⟩
            go_upto_region 16 with fail
            go_cut [3] (fun v X => v = .int .i64 (64 * (1 + a)) ∧ GoSt M A c w a m cc (H + ps) ((k : Int) + 1 + pj + 1 + pn) ((k : Int) + 1 + pj) A' cp (Mf.goRuns M.runs k) X)
            case first =>
              go_region_held3 (fun W' => W'.cell? ⟨w.heap.size + 1 + 1, 5, none⟩ = some (.int .i64 ((k : Int) + 1 + pj)) ∧ W'.cell? ⟨w.heap.size, 4, none⟩ = some (.int .i64 M.next))
                (first
                  | with_reducible assumption
                  | exact two_set (fun _ => by decide) (by omega) (by assumption))
                (first
                  | (go_at_call 8; refine (HC3.out _).mono ?_; rintro e z1 ⟨rfl, rfl⟩))
              all_goals
                go_wp2_with fail
                go_meet
                exact ⟨rfl, (Gf.nx_ _).drew_⟩
            case rest =>
              obtain ⟨rfl, Gg⟩ := hcut
              obtain ⟨x0, x1, x2, x3, x4, x5, x6⟩ := zero_seven Gg.br
              obtain ⟨f0, f1, f2, f3, f4, f5, f6⟩ := blk_free7 Gg.br
              have t0 : wc.cell? ⟨w.heap.size + 1 + 1, 0, none⟩ = some (.int .i64 (64 * (1 + a))) := Gg.bx.cell 0
              have t1 : wc.cell? ⟨w.heap.size + 1 + 1, 1, none⟩ = some (.int .i64 cc) := Gg.bx.cell 1
              have t2 : wc.cell? ⟨w.heap.size + 1 + 1, 2, none⟩ = some (.int .i64 (1 + m)) := Gg.bx.cell 2
              have t3 : wc.cell? ⟨w.heap.size + 1 + 1, 3, none⟩ = some (.int .i64 (H + ps)) := Gg.bx.cell 3
              have t4 : wc.cell? ⟨w.heap.size + 1 + 1, 4, none⟩ = some (.int .i64 ((k : Int) + 1 + pj + 1 + pn)) := Gg.bx.cell 4
              have t5 : wc.cell? ⟨w.heap.size + 1 + 1, 5, none⟩ = some (.int .i64 ((k : Int) + 1 + pj)) := Gg.bx.cell 5
              have t6 : wc.cell? ⟨w.heap.size + 1 + 1, 6, none⟩ = some (.slice A' (Mf.goRuns M.runs k).length cp) := Gg.bx.cell 6
              clear S1 u5 u4 v4 uf Gf
              go_wp2_with fail
              refine bodyPost_ret (v := .agg #[.int .i64 (64 * (1 + a)), .int .i64 cc, .int .i64 (1 + m), .int .i64 (H + ps), .int .i64 ((k : Int) + 1 + pj + 1 + pn), .int .i64 ((k : Int) + 1 + pj), .slice A' (Mf.goRuns M.runs k).length cp]) (by simp [results, Tryd.results5, go_sem, x0, x1, x2, x3, x4, x5, x6]; exact (Mf.goRuns_len _ _).symm) rfl ⟨⟨A', cp, by rw [HGE.out], ?_⟩, Gg.below.trans (man7_below (by omega) _ _ _ _ _ _ _)⟩
              rw [HGE.out]
              refine World.ownsRow.lower (own_keep Gg.own (Nat.le_refl _) fun j hj _ => ?_) (show w.heap.size ≤ w.heap.size + 3 by omega)
              exact man7_heap (show j ≠ w.heap.size + 1 by omega) _ _ _ _ _ _ _
end Go.Proofs.YtknemjnlcghafaaDoor
