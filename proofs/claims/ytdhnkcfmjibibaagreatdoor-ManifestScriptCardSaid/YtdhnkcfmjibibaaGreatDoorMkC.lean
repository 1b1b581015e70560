/- The law's helper goes: whatever manifest is brought into bounds goes. No conditions but each theorem's own. -/
import Derived.Test.YtdhnkcfmjibibaaGreatDoorZMfE
import Derived.Test.YtdhnkcfmjibibaaGreatDoorMdE
import Derived.Deep.RegionHeld3
import Derived.Deep.DeepCutAuto
namespace Go.Proofs.YtdhnkcfmjibibaaGreatDoor
set_option linter.unusedVariables false

/-- A number from 0 to n - 1 out of any. -/
def Mf.pick (k n : Int) : Int := k % n
theorem Mf.pick_in (k n : Int) (h : 0 < n) : 0 ≤ Mf.pick k n ∧ Mf.pick k n < n := ⟨Int.emod_nonneg k (by omega), Int.emod_lt_of_pos k h⟩
/-- The run behind hi. -/
def Mf.goRun (hi : Int) (i : Nat) (r : Run) : Run := ⟨1 + i, hi + Mf.pick r.lo 1000, hi + Mf.pick r.lo 1000 + 1 + Mf.pick r.hi 1125899906842624, 1 + Mf.pick r.cnt 2097152⟩
def Mf.zrun : Run := ⟨0, 0, 0, 0⟩
/-- Where the first k runs end. -/
def Mf.hiAt (l : List Run) : Nat → Int
  | 0 => 0
  | k + 1 => (Mf.goRun (Mf.hiAt l k) k (l.getD k Mf.zrun)).hi
def Mf.goRuns (l : List Run) (k : Nat) : List Run := (List.range k).map fun j => Mf.goRun (Mf.hiAt l j) j (l.getD j Mf.zrun)
theorem Mf.goRuns_len (l : List Run) (k : Nat) : (Mf.goRuns l k).length = k := by simp [Mf.goRuns]
theorem Mf.goRuns_succ (l : List Run) (k : Nat) : Mf.goRuns l (k + 1) = Mf.goRuns l k ++ [Mf.goRun (Mf.hiAt l k) k (l.getD k Mf.zrun)] := by
  unfold Mf.goRuns
  rw [List.range_succ, List.map_append]
  rfl
theorem Mf.goRuns_at (l : List Run) (k j : Nat) (h : j < k) : (Mf.goRuns l k)[j]? = some (Mf.goRun (Mf.hiAt l j) j (l.getD j Mf.zrun)) := by
  unfold Mf.goRuns
  rw [List.getElem?_map, List.getElem?_range h]
  rfl
theorem Mf.hi_step (l : List Run) (k : Nat) : Mf.hiAt l k ≤ (Mf.goRun (Mf.hiAt l k) k (l.getD k Mf.zrun)).lo ∧ (Mf.goRun (Mf.hiAt l k) k (l.getD k Mf.zrun)).lo < Mf.hiAt l (k + 1) ∧ Mf.hiAt l (k + 1) ≤ Mf.hiAt l k + 1125899906843624 := by
  have h1 := Mf.pick_in (l.getD k Mf.zrun).lo 1000 (by decide)
  have h2 := Mf.pick_in (l.getD k Mf.zrun).hi 1125899906842624 (by decide)
  show Mf.hiAt l k ≤ Mf.hiAt l k + Mf.pick (l.getD k Mf.zrun).lo 1000 ∧ Mf.hiAt l k + Mf.pick (l.getD k Mf.zrun).lo 1000 < Mf.hiAt l k + Mf.pick (l.getD k Mf.zrun).lo 1000 + 1 + Mf.pick (l.getD k Mf.zrun).hi 1125899906842624 ∧ Mf.hiAt l k + Mf.pick (l.getD k Mf.zrun).lo 1000 + 1 + Mf.pick (l.getD k Mf.zrun).hi 1125899906842624 ≤ _
  omega
theorem Mf.hi_pos (l : List Run) : ∀ k : Nat, 0 ≤ Mf.hiAt l k ∧ Mf.hiAt l k ≤ k * 1125899906843624
  | 0 => ⟨Int.le_refl 0, by show (0 : Int) ≤ _; omega⟩
  | k + 1 => by
    have h1 := Mf.hi_pos l k
    have h2 := Mf.hi_step l k
    omega
theorem Mf.hi_mono (l : List Run) (k : Nat) : ∀ j, Mf.hiAt l k ≤ Mf.hiAt l (k + j)
  | 0 => Int.le_refl _
  | j + 1 => by
    have h1 := Mf.hi_mono l k j
    have h2 := Mf.hi_step l (k + j)
    rw [← Nat.add_assoc]
    omega
/-- How many runs are taken. -/
def Mf.goLen (M : Man) : Nat := min M.runs.length 24
def Mf.goW (M : Man) : Int := 64 * (1 + Mf.pick M.w 16)
def Mf.goM (M : Man) : Int := 1 + Mf.pick M.m 2
def Mf.goC (M : Man) : Int := if Mf.goM M = 1 then Mf.goW M / 32 + Mf.pick M.c (Mf.goW M / 8 - Mf.goW M / 32 + 1) else 0
def Mf.goJ (M : Man) : Int := Mf.goLen M + 1 + Mf.pick M.jr 1000
/-- A manifest that goes, out of any. -/
def Mf.goes (M : Man) : Man := ⟨Mf.goW M, Mf.goC M, Mf.goM M, Mf.hiAt M.runs (Mf.goLen M) + Mf.pick M.seq 576460752303423488, Mf.goJ M + 1 + Mf.pick M.next 549755813888, Mf.goJ M, Mf.goRuns M.runs (Mf.goLen M)⟩
theorem Mf.goes_opts (M : Man) : Mf.opts (Mf.goW M) (Mf.goC M) (Mf.goM M) = 0 := by
  have h1 := Mf.pick_in M.w 16 (by decide)
  have h2 := Mf.pick_in M.m 2 (by decide)
  obtain ⟨a, ha⟩ : ∃ a, Mf.pick M.w 16 = a := ⟨_, rfl⟩
  have hw : Mf.goW M = 64 * (1 + a) := by unfold Mf.goW; rw [ha]
  have hm : Mf.goM M = 1 + Mf.pick M.m 2 := rfl
  rw [ha] at h1
  have hc := Mf.pick_in M.c (Mf.goW M / 8 - Mf.goW M / 32 + 1) (by rw [hw]; omega)
  have hcc : Mf.goC M = if Mf.goM M = 1 then Mf.goW M / 32 + Mf.pick M.c (Mf.goW M / 8 - Mf.goW M / 32 + 1) else 0 := rfl
  generalize Mf.pick M.c (Mf.goW M / 8 - Mf.goW M / 32 + 1) = p at *
  generalize Mf.goW M = W at *
  generalize Mf.pick M.m 2 = q at *
  generalize Mf.goM M = m at *
  generalize Mf.goC M = c at *
  unfold Mf.opts
  rw [if_neg (by omega), if_neg (by omega)]
  by_cases hm1 : m = 1
  · rw [if_pos hm1] at hcc
    rw [if_neg (by omega), if_neg (by omega)]
  · rw [if_neg hm1] at hcc
    rw [if_neg (by omega), if_neg (by omega)]
theorem Mf.goes_check (M : Man) : Mf.check (Mf.goes M) = 0 := by
  have hl : Mf.goLen M ≤ 24 := Nat.min_le_right _ _
  have hp := Mf.hi_pos M.runs (Mf.goLen M)
  have hs := Mf.pick_in M.seq 576460752303423488 (by decide)
  have hj := Mf.pick_in M.jr 1000 (by decide)
  have hn := Mf.pick_in M.next 549755813888 (by decide)
  have hJ : Mf.goJ M = Mf.goLen M + 1 + Mf.pick M.jr 1000 := rfl
  have hb : ((Mf.goLen M : Nat) : Int) * 1125899906843624 ≤ 27021597764246976 := by omega
  unfold Mf.check
  have ho : Mf.opts (Mf.goes M).w (Mf.goes M).c (Mf.goes M).m = 0 := Mf.goes_opts M
  rw [if_neg (not_not_intro ho), if_pos]
  constructor
  · have hlen : (Mf.goes M).runs.length = Mf.goLen M := Mf.goRuns_len _ _
    unfold Mf.Front
    rw [hlen]
    show 0 ≤ Mf.hiAt M.runs (Mf.goLen M) + Mf.pick M.seq 576460752303423488 ∧ Mf.hiAt M.runs (Mf.goLen M) + Mf.pick M.seq 576460752303423488 ≤ 1152921504606846976 ∧ 2 ≤ Mf.goJ M + 1 + Mf.pick M.next 549755813888 ∧ Mf.goJ M + 1 + Mf.pick M.next 549755813888 ≤ 1099511627776 ∧ 1 ≤ Mf.goJ M ∧ Mf.goJ M < Mf.goJ M + 1 + Mf.pick M.next 549755813888 ∧ Mf.goLen M ≤ 24
    omega
  · intro j r hjl hr
    have hlen : (Mf.goes M).runs.length = Mf.goLen M := Mf.goRuns_len _ _
    rw [hlen] at hjl
    have hr' : (Mf.goRuns M.runs (Mf.goLen M))[j]? = some r := hr
    rw [Mf.goRuns_at _ _ _ hjl] at hr'
    obtain rfl := Option.some.inj hr'
    have hst := Mf.hi_step M.runs j
    have hmo := Mf.hi_mono M.runs (j + 1) (Mf.goLen M - (j + 1))
    rw [show j + 1 + (Mf.goLen M - (j + 1)) = Mf.goLen M by omega] at hmo
    have hc := Mf.pick_in (M.runs.getD j Mf.zrun).cnt 2097152 (by decide)
    have hlast : Mf.last (Mf.goes M) j = Mf.hiAt M.runs j := by
      cases j with
      | zero => rfl
      | succ i =>
        show (match (Mf.goRuns M.runs (Mf.goLen M))[i]? with | some r => r.hi | none => 0) = _
        rw [Mf.goRuns_at _ _ _ (by omega)]
        rfl
    refine ⟨?_, ?_, ?_, ?_, ?_, ?_⟩
    · have hu : ∀ x ∈ Mf.used (Mf.goes M) j, x ≠ 1 + (j : Int) := by
        intro x hx
        unfold Mf.used at hx
        rcases List.mem_cons.1 hx with rfl | hx
        · show Mf.goJ M ≠ _
          omega
        · obtain ⟨y, hy, rfl⟩ := List.mem_map.1 hx
          obtain ⟨i, hi⟩ := List.mem_iff_getElem?.1 hy
          have hij : i < j := by
            have := (List.getElem?_eq_some_iff.1 hi).1
            rw [List.length_take] at this
            omega
          rw [List.getElem?_take_of_lt hij] at hi
          have hi' : (Mf.goRuns M.runs (Mf.goLen M))[i]? = some y := hi
          rw [Mf.goRuns_at _ _ _ (by omega)] at hi'
          obtain rfl := Option.some.inj hi'
          show (1 : Int) + i ≠ 1 + j
          omega
      have : (1 + (j : Int)) ∉ Mf.used (Mf.goes M) j := fun h => hu _ h rfl
      simpa [Mf.goRun] using this
    · unfold Mf.inB
      refine decide_eq_true ?_
      show (1 : Int) ≤ 1 + j ∧ (1 : Int) + j ≤ Mf.goJ M + 1 + Mf.pick M.next 549755813888 - 1
      omega
    · unfold Mf.inB
      refine decide_eq_true ?_
      show (1 : Int) ≤ 1 + Mf.pick (M.runs.getD j Mf.zrun).cnt 2097152 ∧ 1 + Mf.pick (M.runs.getD j Mf.zrun).cnt 2097152 ≤ 2097152
      omega
    · rw [hlast]; exact hst.1
    · exact hst.2.1
    · show Mf.hiAt M.runs (j + 1) ≤ Mf.hiAt M.runs (Mf.goLen M) + Mf.pick M.seq 576460752303423488
      omega
end Go.Proofs.YtdhnkcfmjibibaaGreatDoor
/- The law's helpers pick and goes. Conditions: each theorem's own hypotheses. -/
namespace Go.Proofs.YtdhnkcfmjibibaaGreatDoor
open Go.RowKit Go.Maps
set_option linter.unusedVariables false

theorem pick8_val (k n : Int) (hn : 1 ≤ n) (hn2 : n ≤ 4611686018427387904) :
    (k.tmod n < 0 → wrap64 (k.tmod n + n) = k % n) ∧ (0 ≤ k.tmod n → k.tmod n = k % n) := by
  have h1 := Int.emod_nonneg k (show n ≠ 0 by omega)
  have h2 := Int.emod_lt_of_pos k (show 0 < n by omega)
  have h3 := Int.tmod_eq_emod (a := k) (b := n)
  by_cases hc : 0 ≤ k ∨ n ∣ k
  · rw [if_pos hc] at h3; exact ⟨fun h => by omega, fun _ => by omega⟩
  · rw [if_neg hc, show (n.natAbs : Int) = n from by omega] at h3
    rw [h3]
    refine ⟨fun _ => ?_, fun h => by omega⟩
    rw [IntWalk.wrap64_in _ (by omega)]; omega
theorem ten_set {y b0 b o2 off nR c : Nat} {l1 rh : Int} {W : World} {u : Value} (h1 : b0 ≠ y) (h2 : b ≠ y) (h : W.cell? ⟨y, 1, none⟩ = some (.int .i64 l1) ∧ W.cell? ⟨b0, 6, none⟩ = some (.slice (some ⟨b, off, none⟩) nR c) ∧ W.cell? ⟨b, o2, none⟩ = some (.int .i64 rh)) : (W.setCell ⟨y, 2, none⟩ u).cell? ⟨y, 1, none⟩ = some (.int .i64 l1) ∧ (W.setCell ⟨y, 2, none⟩ u).cell? ⟨b0, 6, none⟩ = some (.slice (some ⟨b, off, none⟩) nR c) ∧ (W.setCell ⟨y, 2, none⟩ u).cell? ⟨b, o2, none⟩ = some (.int .i64 rh) :=
  ⟨(World.cell?_setCell_other _ _ _ _ (by simp)).trans h.1, (World.cell?_of_block (Below.heap_setCell W _ u _ h1)).trans h.2.1, (World.cell?_of_block (Below.heap_setCell W _ u _ h2)).trans h.2.2⟩

/-- What lies there while a manifest is brought into bounds. -/
structure GoSt (M : Man) (A : Option Addr) (c : Nat) (w : World) (a m cc sq nx jr : Int) (A' : Option Addr) (cp : Nat) (rs : List Run) (X : World) : Prop where
  bm : Blk X w.heap.size 31 (manCells M A c)
  br : Blk X (w.heap.size + 1) 31 zeroMan
  bx : Blk X (w.heap.size + 1 + 1) 31 #[.int .i64 (64 * (1 + a)), .int .i64 cc, .int .i64 (1 + m), .int .i64 sq, .int .i64 nx, .int .i64 jr, .slice A' rs.length cp]
  own : Runs X (w.heap.size + 3) A' cp rs
  below : Below w.heap.size w X
  size : w.heap.size + 3 ≤ X.heap.size

theorem GoSt.seq_ {M : Man} {A : Option Addr} {c : Nat} {w : World} {a m cc sq nx jr : Int} {A' : Option Addr} {cp : Nat} {rs : List Run} {X : World} (G : GoSt M A c w a m cc sq nx jr A' cp rs X) (v : Int) : GoSt M A c w a m cc v nx jr A' cp rs (X.setCell ⟨w.heap.size + 1 + 1, 3, none⟩ (.int .i64 v)) :=
  ⟨G.bm.far (by show w.heap.size ≠ w.heap.size + 1 + 1; omega) _, G.br.far (by show w.heap.size + 1 ≠ w.heap.size + 1 + 1; omega) _, G.bx.set_ 3 (.int .i64 v), own_keep G.own (Nat.le_refl _) fun j hj _ => Below.heap_setCell _ _ _ j (by show j ≠ w.heap.size + 1 + 1; omega), G.below.setCell (by show w.heap.size ≤ w.heap.size + 1 + 1; omega) _, by rw [World.size_setCell]; exact G.size⟩
theorem GoSt.jr_ {M : Man} {A : Option Addr} {c : Nat} {w : World} {a m cc sq nx jr : Int} {A' : Option Addr} {cp : Nat} {rs : List Run} {X : World} (G : GoSt M A c w a m cc sq nx jr A' cp rs X) (v : Int) : GoSt M A c w a m cc sq nx v A' cp rs (X.setCell ⟨w.heap.size + 1 + 1, 5, none⟩ (.int .i64 v)) :=
  ⟨G.bm.far (by show w.heap.size ≠ w.heap.size + 1 + 1; omega) _, G.br.far (by show w.heap.size + 1 ≠ w.heap.size + 1 + 1; omega) _, G.bx.set_ 5 (.int .i64 v), own_keep G.own (Nat.le_refl _) fun j hj _ => Below.heap_setCell _ _ _ j (by show j ≠ w.heap.size + 1 + 1; omega), G.below.setCell (by show w.heap.size ≤ w.heap.size + 1 + 1; omega) _, by rw [World.size_setCell]; exact G.size⟩
theorem GoSt.nx_ {M : Man} {A : Option Addr} {c : Nat} {w : World} {a m cc sq nx jr : Int} {A' : Option Addr} {cp : Nat} {rs : List Run} {X : World} (G : GoSt M A c w a m cc sq nx jr A' cp rs X) (v : Int) : GoSt M A c w a m cc sq v jr A' cp rs (X.setCell ⟨w.heap.size + 1 + 1, 4, none⟩ (.int .i64 v)) :=
  ⟨G.bm.far (by show w.heap.size ≠ w.heap.size + 1 + 1; omega) _, G.br.far (by show w.heap.size + 1 ≠ w.heap.size + 1 + 1; omega) _, G.bx.set_ 4 (.int .i64 v), own_keep G.own (Nat.le_refl _) fun j hj _ => Below.heap_setCell _ _ _ j (by show j ≠ w.heap.size + 1 + 1; omega), G.below.setCell (by show w.heap.size ≤ w.heap.size + 1 + 1; omega) _, by rw [World.size_setCell]; exact G.size⟩
theorem GoSt.drew_ {M : Man} {A : Option Addr} {c : Nat} {w : World} {a m cc sq nx jr : Int} {A' : Option Addr} {cp : Nat} {rs : List Run} {X : World} (G : GoSt M A c w a m cc sq nx jr A' cp rs X) : GoSt M A c w a m cc sq nx jr A' cp rs X.drew := ⟨G.bm, G.br, G.bx, G.own, Below.drew_ G.below, G.size⟩
theorem two_set {x y i j k : Nat} {u v r : Value} {W : World} (h1 : x = y → i ≠ j) (h2 : k ≠ y) {o : Nat} (h : W.cell? ⟨x, i, none⟩ = some u ∧ W.cell? ⟨k, o, none⟩ = some v) : (W.setCell ⟨y, j, none⟩ r).cell? ⟨x, i, none⟩ = some u ∧ (W.setCell ⟨y, j, none⟩ r).cell? ⟨k, o, none⟩ = some v :=
  ⟨(World.cell?_setCell_other _ _ _ _ (by simp; exact fun e e2 => h1 e.symm e2.symm)).trans h.1, (World.cell?_of_block (Below.heap_setCell W _ r _ h2)).trans h.2⟩

end Go.Proofs.YtdhnkcfmjibibaaGreatDoor
