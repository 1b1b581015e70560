/- Contracts of journal.Write and of the document's Write. Conditions: each theorem's own hypotheses; the program's table of 16 numbers holds what its initialiser lays. -/
import Derived.Test.YtifkhjihgnnpfaaGreatDoorSealB
import Derived.Test.YtifkhjihgnnpfaaGreatDoorZSealK
import Derived.Test.YtifkhjihgnnpfaaGreatDoorPv
import Derived.Deep.RegionHeld3
import Derived.IntWalk
namespace Go.Proofs.YtifkhjihgnnpfaaGreatDoor
open Go.RowKit
set_option linter.unusedVariables false

theorem u64_nat (n : Nat) (h : n < 18446744073709551616) : IntKind.u64.wrap (n : Int) = n := IntWalk.u64_in _ (by omega)

/-- The four cells of an update at a block. -/
theorem cells_kept {B b : Nat} {w w' : World} (hB : Below B w w') (hb : b < B) {j : Nat} {v : Value} (h : w.cell? ⟨b, j, none⟩ = some v) : w'.cell? ⟨b, j, none⟩ = some v := (hB.cell (p := ⟨b, j, none⟩) hb).trans h

theorem putVar_held (v b : Nat) (q k i : Int) (c : ByteArray) (w0 w : World) (hv : v < 18446744073709551616) (hS : w.cell? ⟨b, 0, none⟩ = some (.int .i64 q) ∧ w.cell? ⟨b, 1, none⟩ = some (.int .i64 k) ∧ w.cell? ⟨b, 2, none⟩ = some (.int .i64 i) ∧ w.cell? ⟨b, 3, none⟩ = some (.string c) ∧ Below b w0 w) (P : ByteArray) (hP : str (Sl.putVar v) = .string P) :
    Calls Tryz.prog 97 #[.int .u64 v] w fun e w' => e = .returned (.string P) ∧ w'.cell? ⟨b, 0, none⟩ = some (.int .i64 q) ∧ w'.cell? ⟨b, 1, none⟩ = some (.int .i64 k) ∧ w'.cell? ⟨b, 2, none⟩ = some (.int .i64 i) ∧ w'.cell? ⟨b, 3, none⟩ = some (.string c) ∧ Below b w0 w' := by
  obtain ⟨h0, h1, h2, h3, hB⟩ := hS
  have hb : b < w.heap.size := World.block_lt_of_cell? w _ h0
  rw [← hP]
  exact (putVar_any v w hv).mono fun e w' ⟨he, h⟩ => ⟨he, cells_kept h hb h0, cells_kept h hb h1, cells_kept h hb h2, cells_kept h hb h3, hB.trans (h.mono (by omega))⟩
theorem frame_held (x : Int) (s : ByteArray) (r : Value) (b : Nat) (q k i : Int) (c : ByteArray) (w0 w : World) (hS : w.cell? ⟨b, 0, none⟩ = some (.int .i64 q) ∧ w.cell? ⟨b, 1, none⟩ = some (.int .i64 k) ∧ w.cell? ⟨b, 2, none⟩ = some (.int .i64 i) ∧ w.cell? ⟨b, 3, none⟩ = some (.string c) ∧ Below b w0 w) (hT : TabS w0) (hb0 : w0.heap.size = b) (hr : frameV x s.data.toList = r) :
    Calls Tryz.prog 96 #[.int .i64 x, .string s] w fun e w' => e = .returned r ∧ w'.cell? ⟨b, 0, none⟩ = some (.int .i64 q) ∧ w'.cell? ⟨b, 1, none⟩ = some (.int .i64 k) ∧ w'.cell? ⟨b, 2, none⟩ = some (.int .i64 i) ∧ w'.cell? ⟨b, 3, none⟩ = some (.string c) ∧ Below b w0 w' := by
  obtain ⟨h0, h1, h2, h3, hB⟩ := hS
  have hb : b < w.heap.size := World.block_lt_of_cell? w _ h0
  rw [← hr]
  exact (frame_any x s w (hT.below (by rw [hb0]; exact hB))).mono fun e w' ⟨he, h⟩ => ⟨he, cells_kept h hb h0, cells_kept h hb h1, cells_kept h hb h2, cells_kept h hb h3, hB.trans (h.mono (by omega))⟩
theorem refPutVar_held (v b : Nat) (q k i : Int) (c : ByteArray) (w0 w : World) (hv : v < 18446744073709551616) (hS : w.cell? ⟨b, 0, none⟩ = some (.int .i64 q) ∧ w.cell? ⟨b, 1, none⟩ = some (.int .i64 k) ∧ w.cell? ⟨b, 2, none⟩ = some (.int .i64 i) ∧ w.cell? ⟨b, 3, none⟩ = some (.string c) ∧ Below b w0 w) (P : ByteArray) (hP : str (Sl.putVar v) = .string P) :
    Calls Tryz.prog 85 #[.int .u64 v] w fun e w' => e = .returned (.string P) ∧ w'.cell? ⟨b, 0, none⟩ = some (.int .i64 q) ∧ w'.cell? ⟨b, 1, none⟩ = some (.int .i64 k) ∧ w'.cell? ⟨b, 2, none⟩ = some (.int .i64 i) ∧ w'.cell? ⟨b, 3, none⟩ = some (.string c) ∧ Below b w0 w' := by
  obtain ⟨h0, h1, h2, h3, hB⟩ := hS
  have hb : b < w.heap.size := World.block_lt_of_cell? w _ h0
  rw [← hP]
  exact (refPutVar_any v w hv).mono fun e w' ⟨he, h⟩ => ⟨he, cells_kept h hb h0, cells_kept h hb h1, cells_kept h hb h2, cells_kept h hb h3, hB.trans (h.mono (by omega))⟩
theorem refFrame_held (x : Int) (s : ByteArray) (r : Value) (b : Nat) (q k i : Int) (c : ByteArray) (w0 w : World) (hS : w.cell? ⟨b, 0, none⟩ = some (.int .i64 q) ∧ w.cell? ⟨b, 1, none⟩ = some (.int .i64 k) ∧ w.cell? ⟨b, 2, none⟩ = some (.int .i64 i) ∧ w.cell? ⟨b, 3, none⟩ = some (.string c) ∧ Below b w0 w) (hr : frameV x s.data.toList = r) :
    Calls Tryz.prog 84 #[.int .i64 x, .string s] w fun e w' => e = .returned r ∧ w'.cell? ⟨b, 0, none⟩ = some (.int .i64 q) ∧ w'.cell? ⟨b, 1, none⟩ = some (.int .i64 k) ∧ w'.cell? ⟨b, 2, none⟩ = some (.int .i64 i) ∧ w'.cell? ⟨b, 3, none⟩ = some (.string c) ∧ Below b w0 w' := by
  obtain ⟨h0, h1, h2, h3, hB⟩ := hS
  have hb : b < w.heap.size := World.block_lt_of_cell? w _ h0
  rw [← hr]
  exact (refFrame_any x s w).mono fun e w' ⟨he, h⟩ => ⟨he, cells_kept h hb h0, cells_kept h hb h1, cells_kept h hb h2, cells_kept h hb h3, hB.trans (h.mono (by omega))⟩

set_option maxRecDepth 100000 in
theorem write_low (q k i : Int) (c : ByteArray) (h : q < 1) (w : World) :
    Calls Tryz.prog 72 #[.agg #[.int .i64 q, .int .i64 k, .int .i64 i, .string c]] w fun e w' => e = .returned (.tuple #[.string ⟨#[]⟩, .int .i64 51]) ∧ Below w.heap.size w w' := by
  go_enter Tryz.func72, Tryz.ntmps72
  go_wp2_with fail
  go_ret2
  exact ⟨rfl, by repeat (first | exact Below.refl _ _ | apply Below.alloc _ (Nat.le_refl _))⟩

set_option maxRecDepth 100000 in
theorem write_high (q k i : Int) (c : ByteArray) (h : 1152921504606846976 < q) (w : World) :
    Calls Tryz.prog 72 #[.agg #[.int .i64 q, .int .i64 k, .int .i64 i, .string c]] w fun e w' => e = .returned (.tuple #[.string ⟨#[]⟩, .int .i64 51]) ∧ Below w.heap.size w w' := by
  have hq1 : decide (q < 1) = false := by rw [decide_eq_false_iff_not]; omega
  go_enter Tryz.func72, Tryz.ntmps72
  go_wp2_with fail
  go_ret2
  exact ⟨rfl, by repeat (first | exact Below.refl _ _ | apply Below.alloc _ (Nat.le_refl _))⟩

set_option maxRecDepth 100000 in
theorem write_kind (q k i : Int) (c : ByteArray) (h1 : 1 ≤ q) (h2 : q ≤ 1152921504606846976) (h3 : ¬ k = 1) (h4 : ¬ k = 2) (w : World) :
    Calls Tryz.prog 72 #[.agg #[.int .i64 q, .int .i64 k, .int .i64 i, .string c]] w fun e w' => e = .returned (.tuple #[.string ⟨#[]⟩, .int .i64 35]) ∧ Below w.heap.size w w' := by
  have hq1 : decide (q < 1) = false := by rw [decide_eq_false_iff_not]; omega
  have hq2 : decide (1152921504606846976 < q) = false := by rw [decide_eq_false_iff_not]; omega
  have hk1 : (k != 1) = true := by rw [bne_iff_ne]; exact h3
  have hk2 : (k != 2) = true := by rw [bne_iff_ne]; exact h4
  go_enter Tryz.func72, Tryz.ntmps72
  go_wp2_with fail
  go_ret2
  exact ⟨rfl, by repeat (first | exact Below.refl _ _ | apply Below.alloc _ (Nat.le_refl _))⟩

set_option maxRecDepth 100000 in
theorem write_idlow1 (q i : Int) (c : ByteArray) (h1 : 1 ≤ q) (h2 : q ≤ 1152921504606846976) (h : i < 0) (w : World) :
    Calls Tryz.prog 72 #[.agg #[.int .i64 q, .int .i64 1, .int .i64 i, .string c]] w fun e w' => e = .returned (.tuple #[.string ⟨#[]⟩, .int .i64 60]) ∧ Below w.heap.size w w' := by
  have hq1 : decide (q < 1) = false := by rw [decide_eq_false_iff_not]; omega
  have hq2 : decide (1152921504606846976 < q) = false := by rw [decide_eq_false_iff_not]; omega
  go_enter Tryz.func72, Tryz.ntmps72
  go_wp2_with fail
  go_ret2
  exact ⟨rfl, by repeat (first | exact Below.refl _ _ | apply Below.alloc _ (Nat.le_refl _))⟩

set_option maxRecDepth 100000 in
theorem write_idhigh1 (q i : Int) (c : ByteArray) (h1 : 1 ≤ q) (h2 : q ≤ 1152921504606846976) (h : 281474976710656 < i) (w : World) :
    Calls Tryz.prog 72 #[.agg #[.int .i64 q, .int .i64 1, .int .i64 i, .string c]] w fun e w' => e = .returned (.tuple #[.string ⟨#[]⟩, .int .i64 60]) ∧ Below w.heap.size w w' := by
  have hq1 : decide (q < 1) = false := by rw [decide_eq_false_iff_not]; omega
  have hq2 : decide (1152921504606846976 < q) = false := by rw [decide_eq_false_iff_not]; omega
  have hi1 : decide (i < 0) = false := by rw [decide_eq_false_iff_not]; omega
  go_enter Tryz.func72, Tryz.ntmps72
  go_wp2_with fail
  go_ret2
  exact ⟨rfl, by repeat (first | exact Below.refl _ _ | apply Below.alloc _ (Nat.le_refl _))⟩

set_option maxRecDepth 100000 in
theorem write_idlow2 (q i : Int) (c : ByteArray) (h1 : 1 ≤ q) (h2 : q ≤ 1152921504606846976) (h : i < 0) (w : World) :
    Calls Tryz.prog 72 #[.agg #[.int .i64 q, .int .i64 2, .int .i64 i, .string c]] w fun e w' => e = .returned (.tuple #[.string ⟨#[]⟩, .int .i64 60]) ∧ Below w.heap.size w w' := by
  have hq1 : decide (q < 1) = false := by rw [decide_eq_false_iff_not]; omega
  have hq2 : decide (1152921504606846976 < q) = false := by rw [decide_eq_false_iff_not]; omega
  go_enter Tryz.func72, Tryz.ntmps72
  go_wp2_with fail
  go_ret2
  exact ⟨rfl, by repeat (first | exact Below.refl _ _ | apply Below.alloc _ (Nat.le_refl _))⟩

set_option maxRecDepth 100000 in
theorem write_idhigh2 (q i : Int) (c : ByteArray) (h1 : 1 ≤ q) (h2 : q ≤ 1152921504606846976) (h : 281474976710656 < i) (w : World) :
    Calls Tryz.prog 72 #[.agg #[.int .i64 q, .int .i64 2, .int .i64 i, .string c]] w fun e w' => e = .returned (.tuple #[.string ⟨#[]⟩, .int .i64 60]) ∧ Below w.heap.size w w' := by
  have hq1 : decide (q < 1) = false := by rw [decide_eq_false_iff_not]; omega
  have hq2 : decide (1152921504606846976 < q) = false := by rw [decide_eq_false_iff_not]; omega
  have hi1 : decide (i < 0) = false := by rw [decide_eq_false_iff_not]; omega
  go_enter Tryz.func72, Tryz.ntmps72
  go_wp2_with fail
  go_ret2
  exact ⟨rfl, by repeat (first | exact Below.refl _ _ | apply Below.alloc _ (Nat.le_refl _))⟩

set_option maxRecDepth 100000 in
theorem write_dead (q i : Int) (c : ByteArray) (h1 : 1 ≤ q) (h2 : q ≤ 1152921504606846976) (h3 : 0 ≤ i) (h4 : i ≤ 281474976710656) (h : 0 < c.size) (hs : c.size ≤ 9223372036854775807) (w : World) :
    Calls Tryz.prog 72 #[.agg #[.int .i64 q, .int .i64 2, .int .i64 i, .string c]] w fun e w' => e = .returned (.tuple #[.string ⟨#[]⟩, .int .i64 11]) ∧ Below w.heap.size w w' := by
  have hq1 : decide (q < 1) = false := by rw [decide_eq_false_iff_not]; omega
  have hq2 : decide (1152921504606846976 < q) = false := by rw [decide_eq_false_iff_not]; omega
  have hi1 : decide (i < 0) = false := by rw [decide_eq_false_iff_not]; omega
  have hi2 : decide (281474976710656 < i) = false := by rw [decide_eq_false_iff_not]; omega
  have he := ne_of c (by omega)
  have hz : ((c.size : Int) != 0) = true := by rw [bne_iff_ne]; omega
  go_enter Tryz.func72, Tryz.ntmps72
  go_wp2_with fail
  go_ret2
  exact ⟨rfl, by repeat (first | exact Below.refl _ _ | apply Below.alloc _ (Nat.le_refl _))⟩

set_option maxRecDepth 100000 in
theorem write_none (q i : Int) (c : ByteArray) (h1 : 1 ≤ q) (h2 : q ≤ 1152921504606846976) (h3 : 0 ≤ i) (h4 : i ≤ 281474976710656) (h : c.size = 0) (w : World) :
    Calls Tryz.prog 72 #[.agg #[.int .i64 q, .int .i64 1, .int .i64 i, .string c]] w fun e w' => e = .returned (.tuple #[.string ⟨#[]⟩, .int .i64 11]) ∧ Below w.heap.size w w' := by
  have hq1 : decide (q < 1) = false := by rw [decide_eq_false_iff_not]; omega
  have hq2 : decide (1152921504606846976 < q) = false := by rw [decide_eq_false_iff_not]; omega
  have hi1 : decide (i < 0) = false := by rw [decide_eq_false_iff_not]; omega
  have hi2 : decide (281474976710656 < i) = false := by rw [decide_eq_false_iff_not]; omega
  go_enter Tryz.func72, Tryz.ntmps72
  go_wp2_with fail
  go_ret2
  exact ⟨rfl, by repeat (first | exact Below.refl _ _ | apply Below.alloc _ (Nat.le_refl _))⟩

set_option maxRecDepth 100000 in
theorem write_few (q i : Int) (c : ByteArray) (h1 : 1 ≤ q) (h2 : q ≤ 1152921504606846976) (h3 : 0 ≤ i) (h4 : i ≤ 281474976710656) (h : 0 < c.size) (h' : c.size < 8) (w : World) :
    Calls Tryz.prog 72 #[.agg #[.int .i64 q, .int .i64 1, .int .i64 i, .string c]] w fun e w' => e = .returned (.tuple #[.string ⟨#[]⟩, .int .i64 11]) ∧ Below w.heap.size w w' := by
  have hq1 : decide (q < 1) = false := by rw [decide_eq_false_iff_not]; omega
  have hq2 : decide (1152921504606846976 < q) = false := by rw [decide_eq_false_iff_not]; omega
  have hi1 : decide (i < 0) = false := by rw [decide_eq_false_iff_not]; omega
  have hi2 : decide (281474976710656 < i) = false := by rw [decide_eq_false_iff_not]; omega
  have hz : ((c.size : Int) % 8 != 0) = true := by rw [bne_iff_ne]; omega
  have hz0 : ((c.size : Int) == 0) = false := by rw [beq_eq_false_iff_ne]; omega
  go_enter Tryz.func72, Tryz.ntmps72
  go_wp2_with fail
  go_ret2
  exact ⟨rfl, by repeat (first | exact Below.refl _ _ | apply Below.alloc _ (Nat.le_refl _))⟩

set_option maxRecDepth 100000 in
theorem write_many (q i : Int) (c : ByteArray) (h1 : 1 ≤ q) (h2 : q ≤ 1152921504606846976) (h3 : 0 ≤ i) (h4 : i ≤ 281474976710656) (h : 128 < c.size) (hs : c.size ≤ 9223372036854775807) (w : World) :
    Calls Tryz.prog 72 #[.agg #[.int .i64 q, .int .i64 1, .int .i64 i, .string c]] w fun e w' => e = .returned (.tuple #[.string ⟨#[]⟩, .int .i64 11]) ∧ Below w.heap.size w w' := by
  have hq1 : decide (q < 1) = false := by rw [decide_eq_false_iff_not]; omega
  have hq2 : decide (1152921504606846976 < q) = false := by rw [decide_eq_false_iff_not]; omega
  have hi1 : decide (i < 0) = false := by rw [decide_eq_false_iff_not]; omega
  have hi2 : decide (281474976710656 < i) = false := by rw [decide_eq_false_iff_not]; omega
  have hz0 : ((c.size : Int) == 0) = false := by rw [beq_eq_false_iff_ne]; omega
  go_enter Tryz.func72, Tryz.ntmps72
  go_wp2_with fail
  go_ret2
  exact ⟨rfl, by repeat (first | exact Below.refl _ _ | apply Below.alloc _ (Nat.le_refl _))⟩

set_option maxRecDepth 100000 in
theorem write_odd (q i : Int) (c : ByteArray) (h1 : 1 ≤ q) (h2 : q ≤ 1152921504606846976) (h3 : 0 ≤ i) (h4 : i ≤ 281474976710656) (h : 8 ≤ c.size) (h' : c.size ≤ 128) (h8 : ¬ c.size % 8 = 0) (w : World) :
    Calls Tryz.prog 72 #[.agg #[.int .i64 q, .int .i64 1, .int .i64 i, .string c]] w fun e w' => e = .returned (.tuple #[.string ⟨#[]⟩, .int .i64 11]) ∧ Below w.heap.size w w' := by
  have hq1 : decide (q < 1) = false := by rw [decide_eq_false_iff_not]; omega
  have hq2 : decide (1152921504606846976 < q) = false := by rw [decide_eq_false_iff_not]; omega
  have hi1 : decide (i < 0) = false := by rw [decide_eq_false_iff_not]; omega
  have hi2 : decide (281474976710656 < i) = false := by rw [decide_eq_false_iff_not]; omega
  have hz : ((c.size : Int) % 8 != 0) = true := by rw [bne_iff_ne]; omega
  have hz0 : ((c.size : Int) == 0) = false := by rw [beq_eq_false_iff_ne]; omega
  go_enter Tryz.func72, Tryz.ntmps72
  go_wp2_with fail
  go_ret2
  exact ⟨rfl, by repeat (first | exact Below.refl _ _ | apply Below.alloc _ (Nat.le_refl _))⟩

set_option maxRecDepth 100000 in
theorem write_good1 (q i : Nat) (c S : ByteArray) (h1 : 1 ≤ q) (h2 : q ≤ 1152921504606846976) (h4 : i ≤ 281474976710656) (h8 : 8 ≤ c.size) (h9 : c.size ≤ 128) (h10 : c.size % 8 = 0) (hS : str (Sl.frame 1 (Sl.putVar q ++ Sl.putVar i ++ c.data.toList)) = .string S) (w : World) (hT : TabS w) :
    Calls Tryz.prog 72 #[.agg #[.int .i64 q, .int .i64 1, .int .i64 i, .string c]] w fun e w' => e = .returned (.tuple #[.string S, .int .i64 0]) ∧ Below w.heap.size w w' := by
  have hq1 : decide ((q : Int) < 1) = false := by rw [decide_eq_false_iff_not]; omega
  have hq2 : decide ((1152921504606846976 : Int) < (q : Int)) = false := by rw [decide_eq_false_iff_not]; omega
  have hi1 : decide ((i : Int) < 0) = false := by rw [decide_eq_false_iff_not]; omega
  have hi2 : decide ((281474976710656 : Int) < (i : Int)) = false := by rw [decide_eq_false_iff_not]; omega
  have hz : ((c.size : Int) % 8 != 0) = false := by rw [bne_eq_false_iff_eq]; omega
  have hz0 : ((c.size : Int) == 0) = false := by rw [beq_eq_false_iff_ne]; omega
  obtain ⟨P, hP, hPd, hPs⟩ := str_of (Sl.putVar q)
  obtain ⟨Q, hQ, hQd, hQs⟩ := str_of (Sl.putVar i)
  have l1 := (Sl.pvf_len 9 q).2
  have l2 := (Sl.pvf_len 9 i).2
  have z1 : P.size ≤ 10 := by rw [hPs]; exact l1
  have z2 : Q.size ≤ 10 := by rw [hQs]; exact l2
  have z3 : c.size ≤ 128 := by omega
  have hfr : frameV 1 (P ++ Q ++ c).data.toList = .tuple #[.string S, .int .i64 0] := by
    rw [data_append (P ++ Q) c, data_append P Q, hPd, hQd]
    unfold frameV
    rw [if_neg (by decide), if_neg (by rw [List.length_append, List.length_append, ← hPs, ← hQs, Array.length_toList]; show ¬ 65536 < P.size + Q.size + c.size; omega)]
    rw [← hS]; rfl
  have CQ := Lib.hid (show IntKind.u64.wrap (q : Int) = q from u64_nat q (by omega))
  have CI := Lib.hid (show IntKind.u64.wrap (i : Int) = i from u64_nat i (by omega))
  have HP := Lib.hid hP
  have HQ := Lib.hid hQ
  have HF := Lib.hid hfr
  have HT := Lib.hid hT
  clear hP hPd hPs hQ hQd hQs l1 l2 hfr hS hT
  go_enter Tryz.func72, Tryz.ntmps72
  go_wp2_with fail
  have hn1 : ¬ (9223372036854775807 < P.size + Q.size) := by omega
  have hn2 : ¬ (9223372036854775807 < P.size + Q.size + c.size) := by omega
  go_region_held3 (fun w' => w'.cell? ⟨w.heap.size, 0, none⟩ = some (.int .i64 q) ∧ w'.cell? ⟨w.heap.size, 1, none⟩ = some (.int .i64 1) ∧ w'.cell? ⟨w.heap.size, 2, none⟩ = some (.int .i64 i) ∧ w'.cell? ⟨w.heap.size, 3, none⟩ = some (.string c) ∧ Below w.heap.size w w')
    (refine ⟨?_, ?_, ?_, ?_, ?_⟩ <;> first | assumption | exact ((Below.refl _ _).alloc (Nat.le_refl _) _).drew | exact World.cell?_alloc_at _ _ _ _ rfl | go_keep | apply Below.drew; assumption)
    (first
      | (go_at_call_of 97 (Value.int .u64 (IntKind.u64.wrap q)); rw [CQ.out]; refine (putVar_held q w.heap.size q 1 i c w _ (by omega) (by assumption) P HP.out).mono ?_; rintro e w' ⟨rfl, kS⟩)
      | (go_at_call_of 97 (Value.int .u64 (IntKind.u64.wrap i)); rw [CI.out]; refine (putVar_held i w.heap.size q 1 i c w _ (by omega) (by assumption) Q HQ.out).mono ?_; rintro e w' ⟨rfl, kS⟩)
      | (go_at_call 96; refine (frame_held 1 (P ++ Q ++ c) _ w.heap.size q 1 i c w _ (by assumption) HT.out rfl HF.out).mono ?_; rintro e w' ⟨rfl, kS⟩))
  all_goals go_wp2_with fail
  all_goals go_ret2
  all_goals exact ⟨rfl, by first | assumption | (rename_i hh; exact hh.2.2.2.2)⟩

set_option maxRecDepth 100000 in
theorem write_good2 (q i : Nat) (c S : ByteArray) (h1 : 1 ≤ q) (h2 : q ≤ 1152921504606846976) (h4 : i ≤ 281474976710656) (h8 : c.size = 0) (hS : str (Sl.frame 2 (Sl.putVar q ++ Sl.putVar i ++ c.data.toList)) = .string S) (w : World) (hT : TabS w) :
    Calls Tryz.prog 72 #[.agg #[.int .i64 q, .int .i64 2, .int .i64 i, .string c]] w fun e w' => e = .returned (.tuple #[.string S, .int .i64 0]) ∧ Below w.heap.size w w' := by
  have hq1 : decide ((q : Int) < 1) = false := by rw [decide_eq_false_iff_not]; omega
  have hq2 : decide ((1152921504606846976 : Int) < (q : Int)) = false := by rw [decide_eq_false_iff_not]; omega
  have hi1 : decide ((i : Int) < 0) = false := by rw [decide_eq_false_iff_not]; omega
  have hi2 : decide ((281474976710656 : Int) < (i : Int)) = false := by rw [decide_eq_false_iff_not]; omega
  have hz : c.toList.isEmpty = true := by
    rw [ByteArray.toList_eq, List.isEmpty_iff]
    apply List.eq_nil_of_length_eq_zero
    rw [Array.length_toList]; exact h8
  have hz0 : ((c.size : Int) != 0) = false := by rw [bne_eq_false_iff_eq]; omega
  obtain ⟨P, hP, hPd, hPs⟩ := str_of (Sl.putVar q)
  obtain ⟨Q, hQ, hQd, hQs⟩ := str_of (Sl.putVar i)
  have l1 := (Sl.pvf_len 9 q).2
  have l2 := (Sl.pvf_len 9 i).2
  have z1 : P.size ≤ 10 := by rw [hPs]; exact l1
  have z2 : Q.size ≤ 10 := by rw [hQs]; exact l2
  have z3 : c.size ≤ 128 := by omega
  have hfr : frameV 2 (P ++ Q ++ c).data.toList = .tuple #[.string S, .int .i64 0] := by
    rw [data_append (P ++ Q) c, data_append P Q, hPd, hQd]
    unfold frameV
    rw [if_neg (by decide), if_neg (by rw [List.length_append, List.length_append, ← hPs, ← hQs, Array.length_toList]; show ¬ 65536 < P.size + Q.size + c.size; omega)]
    rw [← hS]; rfl
  have CQ := Lib.hid (show IntKind.u64.wrap (q : Int) = q from u64_nat q (by omega))
  have CI := Lib.hid (show IntKind.u64.wrap (i : Int) = i from u64_nat i (by omega))
  have HP := Lib.hid hP
  have HQ := Lib.hid hQ
  have HF := Lib.hid hfr
  have HT := Lib.hid hT
  clear hP hPd hPs hQ hQd hQs l1 l2 hfr hS hT
  go_enter Tryz.func72, Tryz.ntmps72
  go_wp2_with fail
  have hn1 : ¬ (9223372036854775807 < P.size + Q.size) := by omega
  have hn2 : ¬ (9223372036854775807 < P.size + Q.size + c.size) := by omega
  go_region_held3 (fun w' => w'.cell? ⟨w.heap.size, 0, none⟩ = some (.int .i64 q) ∧ w'.cell? ⟨w.heap.size, 1, none⟩ = some (.int .i64 2) ∧ w'.cell? ⟨w.heap.size, 2, none⟩ = some (.int .i64 i) ∧ w'.cell? ⟨w.heap.size, 3, none⟩ = some (.string c) ∧ Below w.heap.size w w')
    (refine ⟨?_, ?_, ?_, ?_, ?_⟩ <;> first | assumption | exact ((Below.refl _ _).alloc (Nat.le_refl _) _).drew | exact World.cell?_alloc_at _ _ _ _ rfl | go_keep | apply Below.drew; assumption)
    (first
      | (go_at_call_of 97 (Value.int .u64 (IntKind.u64.wrap q)); rw [CQ.out]; refine (putVar_held q w.heap.size q 2 i c w _ (by omega) (by assumption) P HP.out).mono ?_; rintro e w' ⟨rfl, kS⟩)
      | (go_at_call_of 97 (Value.int .u64 (IntKind.u64.wrap i)); rw [CI.out]; refine (putVar_held i w.heap.size q 2 i c w _ (by omega) (by assumption) Q HQ.out).mono ?_; rintro e w' ⟨rfl, kS⟩)
      | (go_at_call 96; refine (frame_held 2 (P ++ Q ++ c) _ w.heap.size q 2 i c w _ (by assumption) HT.out rfl HF.out).mono ?_; rintro e w' ⟨rfl, kS⟩))
  all_goals go_wp2_with fail
  all_goals go_ret2
  all_goals exact ⟨rfl, by first | assumption | (rename_i hh; exact hh.2.2.2.2)⟩

set_option maxRecDepth 100000 in
theorem refWrite_low (q k i : Int) (c : ByteArray) (h : q < 1) (w : World) :
    Calls Tryz.prog 53 #[.agg #[.int .i64 q, .int .i64 k, .int .i64 i, .string c]] w fun e w' => e = .returned (.tuple #[.string ⟨#[]⟩, .int .i64 51]) ∧ Below w.heap.size w w' := by
  go_enter Tryz.func53, Tryz.ntmps53
  go_wp2_with fail
  go_ret2
  exact ⟨rfl, by repeat (first | exact Below.refl _ _ | apply Below.alloc _ (Nat.le_refl _))⟩

set_option maxRecDepth 100000 in
theorem refWrite_high (q k i : Int) (c : ByteArray) (h : 1152921504606846976 < q) (w : World) :
    Calls Tryz.prog 53 #[.agg #[.int .i64 q, .int .i64 k, .int .i64 i, .string c]] w fun e w' => e = .returned (.tuple #[.string ⟨#[]⟩, .int .i64 51]) ∧ Below w.heap.size w w' := by
  have hq1 : decide (q < 1) = false := by rw [decide_eq_false_iff_not]; omega
  go_enter Tryz.func53, Tryz.ntmps53
  go_wp2_with fail
  go_ret2
  exact ⟨rfl, by repeat (first | exact Below.refl _ _ | apply Below.alloc _ (Nat.le_refl _))⟩

set_option maxRecDepth 100000 in
theorem refWrite_kind (q k i : Int) (c : ByteArray) (h1 : 1 ≤ q) (h2 : q ≤ 1152921504606846976) (h3 : ¬ k = 1) (h4 : ¬ k = 2) (w : World) :
    Calls Tryz.prog 53 #[.agg #[.int .i64 q, .int .i64 k, .int .i64 i, .string c]] w fun e w' => e = .returned (.tuple #[.string ⟨#[]⟩, .int .i64 35]) ∧ Below w.heap.size w w' := by
  have hq1 : decide (q < 1) = false := by rw [decide_eq_false_iff_not]; omega
  have hq2 : decide (1152921504606846976 < q) = false := by rw [decide_eq_false_iff_not]; omega
  have hk1 : (k != 1) = true := by rw [bne_iff_ne]; exact h3
  have hk2 : (k != 2) = true := by rw [bne_iff_ne]; exact h4
  go_enter Tryz.func53, Tryz.ntmps53
  go_wp2_with fail
  go_ret2
  exact ⟨rfl, by repeat (first | exact Below.refl _ _ | apply Below.alloc _ (Nat.le_refl _))⟩

set_option maxRecDepth 100000 in
theorem refWrite_idlow1 (q i : Int) (c : ByteArray) (h1 : 1 ≤ q) (h2 : q ≤ 1152921504606846976) (h : i < 0) (w : World) :
    Calls Tryz.prog 53 #[.agg #[.int .i64 q, .int .i64 1, .int .i64 i, .string c]] w fun e w' => e = .returned (.tuple #[.string ⟨#[]⟩, .int .i64 60]) ∧ Below w.heap.size w w' := by
  have hq1 : decide (q < 1) = false := by rw [decide_eq_false_iff_not]; omega
  have hq2 : decide (1152921504606846976 < q) = false := by rw [decide_eq_false_iff_not]; omega
  go_enter Tryz.func53, Tryz.ntmps53
  go_wp2_with fail
  go_ret2
  exact ⟨rfl, by repeat (first | exact Below.refl _ _ | apply Below.alloc _ (Nat.le_refl _))⟩

set_option maxRecDepth 100000 in
theorem refWrite_idhigh1 (q i : Int) (c : ByteArray) (h1 : 1 ≤ q) (h2 : q ≤ 1152921504606846976) (h : 281474976710656 < i) (w : World) :
    Calls Tryz.prog 53 #[.agg #[.int .i64 q, .int .i64 1, .int .i64 i, .string c]] w fun e w' => e = .returned (.tuple #[.string ⟨#[]⟩, .int .i64 60]) ∧ Below w.heap.size w w' := by
  have hq1 : decide (q < 1) = false := by rw [decide_eq_false_iff_not]; omega
  have hq2 : decide (1152921504606846976 < q) = false := by rw [decide_eq_false_iff_not]; omega
  have hi1 : decide (i < 0) = false := by rw [decide_eq_false_iff_not]; omega
  go_enter Tryz.func53, Tryz.ntmps53
  go_wp2_with fail
  go_ret2
  exact ⟨rfl, by repeat (first | exact Below.refl _ _ | apply Below.alloc _ (Nat.le_refl _))⟩

set_option maxRecDepth 100000 in
theorem refWrite_idlow2 (q i : Int) (c : ByteArray) (h1 : 1 ≤ q) (h2 : q ≤ 1152921504606846976) (h : i < 0) (w : World) :
    Calls Tryz.prog 53 #[.agg #[.int .i64 q, .int .i64 2, .int .i64 i, .string c]] w fun e w' => e = .returned (.tuple #[.string ⟨#[]⟩, .int .i64 60]) ∧ Below w.heap.size w w' := by
  have hq1 : decide (q < 1) = false := by rw [decide_eq_false_iff_not]; omega
  have hq2 : decide (1152921504606846976 < q) = false := by rw [decide_eq_false_iff_not]; omega
  go_enter Tryz.func53, Tryz.ntmps53
  go_wp2_with fail
  go_ret2
  exact ⟨rfl, by repeat (first | exact Below.refl _ _ | apply Below.alloc _ (Nat.le_refl _))⟩

set_option maxRecDepth 100000 in
theorem refWrite_idhigh2 (q i : Int) (c : ByteArray) (h1 : 1 ≤ q) (h2 : q ≤ 1152921504606846976) (h : 281474976710656 < i) (w : World) :
    Calls Tryz.prog 53 #[.agg #[.int .i64 q, .int .i64 2, .int .i64 i, .string c]] w fun e w' => e = .returned (.tuple #[.string ⟨#[]⟩, .int .i64 60]) ∧ Below w.heap.size w w' := by
  have hq1 : decide (q < 1) = false := by rw [decide_eq_false_iff_not]; omega
  have hq2 : decide (1152921504606846976 < q) = false := by rw [decide_eq_false_iff_not]; omega
  have hi1 : decide (i < 0) = false := by rw [decide_eq_false_iff_not]; omega
  go_enter Tryz.func53, Tryz.ntmps53
  go_wp2_with fail
  go_ret2
  exact ⟨rfl, by repeat (first | exact Below.refl _ _ | apply Below.alloc _ (Nat.le_refl _))⟩

set_option maxRecDepth 100000 in
theorem refWrite_dead (q i : Int) (c : ByteArray) (h1 : 1 ≤ q) (h2 : q ≤ 1152921504606846976) (h3 : 0 ≤ i) (h4 : i ≤ 281474976710656) (h : 0 < c.size) (hs : c.size ≤ 9223372036854775807) (w : World) :
    Calls Tryz.prog 53 #[.agg #[.int .i64 q, .int .i64 2, .int .i64 i, .string c]] w fun e w' => e = .returned (.tuple #[.string ⟨#[]⟩, .int .i64 11]) ∧ Below w.heap.size w w' := by
  have hq1 : decide (q < 1) = false := by rw [decide_eq_false_iff_not]; omega
  have hq2 : decide (1152921504606846976 < q) = false := by rw [decide_eq_false_iff_not]; omega
  have hi1 : decide (i < 0) = false := by rw [decide_eq_false_iff_not]; omega
  have hi2 : decide (281474976710656 < i) = false := by rw [decide_eq_false_iff_not]; omega
  have he := ne_of c (by omega)
  have hz : ((c.size : Int) != 0) = true := by rw [bne_iff_ne]; omega
  go_enter Tryz.func53, Tryz.ntmps53
  go_wp2_with fail
  go_ret2
  exact ⟨rfl, by repeat (first | exact Below.refl _ _ | apply Below.alloc _ (Nat.le_refl _))⟩

set_option maxRecDepth 100000 in
theorem refWrite_none (q i : Int) (c : ByteArray) (h1 : 1 ≤ q) (h2 : q ≤ 1152921504606846976) (h3 : 0 ≤ i) (h4 : i ≤ 281474976710656) (h : c.size = 0) (w : World) :
    Calls Tryz.prog 53 #[.agg #[.int .i64 q, .int .i64 1, .int .i64 i, .string c]] w fun e w' => e = .returned (.tuple #[.string ⟨#[]⟩, .int .i64 11]) ∧ Below w.heap.size w w' := by
  have hq1 : decide (q < 1) = false := by rw [decide_eq_false_iff_not]; omega
  have hq2 : decide (1152921504606846976 < q) = false := by rw [decide_eq_false_iff_not]; omega
  have hi1 : decide (i < 0) = false := by rw [decide_eq_false_iff_not]; omega
  have hi2 : decide (281474976710656 < i) = false := by rw [decide_eq_false_iff_not]; omega
  go_enter Tryz.func53, Tryz.ntmps53
  go_wp2_with fail
  go_ret2
  exact ⟨rfl, by repeat (first | exact Below.refl _ _ | apply Below.alloc _ (Nat.le_refl _))⟩

set_option maxRecDepth 100000 in
theorem refWrite_few (q i : Int) (c : ByteArray) (h1 : 1 ≤ q) (h2 : q ≤ 1152921504606846976) (h3 : 0 ≤ i) (h4 : i ≤ 281474976710656) (h : 0 < c.size) (h' : c.size < 8) (w : World) :
    Calls Tryz.prog 53 #[.agg #[.int .i64 q, .int .i64 1, .int .i64 i, .string c]] w fun e w' => e = .returned (.tuple #[.string ⟨#[]⟩, .int .i64 11]) ∧ Below w.heap.size w w' := by
  have hq1 : decide (q < 1) = false := by rw [decide_eq_false_iff_not]; omega
  have hq2 : decide (1152921504606846976 < q) = false := by rw [decide_eq_false_iff_not]; omega
  have hi1 : decide (i < 0) = false := by rw [decide_eq_false_iff_not]; omega
  have hi2 : decide (281474976710656 < i) = false := by rw [decide_eq_false_iff_not]; omega
  have hz : ((c.size : Int) % 8 != 0) = true := by rw [bne_iff_ne]; omega
  have hz0 : ((c.size : Int) == 0) = false := by rw [beq_eq_false_iff_ne]; omega
  go_enter Tryz.func53, Tryz.ntmps53
  go_wp2_with fail
  go_ret2
  exact ⟨rfl, by repeat (first | exact Below.refl _ _ | apply Below.alloc _ (Nat.le_refl _))⟩

set_option maxRecDepth 100000 in
theorem refWrite_many (q i : Int) (c : ByteArray) (h1 : 1 ≤ q) (h2 : q ≤ 1152921504606846976) (h3 : 0 ≤ i) (h4 : i ≤ 281474976710656) (h : 128 < c.size) (hs : c.size ≤ 9223372036854775807) (w : World) :
    Calls Tryz.prog 53 #[.agg #[.int .i64 q, .int .i64 1, .int .i64 i, .string c]] w fun e w' => e = .returned (.tuple #[.string ⟨#[]⟩, .int .i64 11]) ∧ Below w.heap.size w w' := by
  have hq1 : decide (q < 1) = false := by rw [decide_eq_false_iff_not]; omega
  have hq2 : decide (1152921504606846976 < q) = false := by rw [decide_eq_false_iff_not]; omega
  have hi1 : decide (i < 0) = false := by rw [decide_eq_false_iff_not]; omega
  have hi2 : decide (281474976710656 < i) = false := by rw [decide_eq_false_iff_not]; omega
  have hz0 : ((c.size : Int) == 0) = false := by rw [beq_eq_false_iff_ne]; omega
  go_enter Tryz.func53, Tryz.ntmps53
  go_wp2_with fail
  go_ret2
  exact ⟨rfl, by repeat (first | exact Below.refl _ _ | apply Below.alloc _ (Nat.le_refl _))⟩

set_option maxRecDepth 100000 in
theorem refWrite_odd (q i : Int) (c : ByteArray) (h1 : 1 ≤ q) (h2 : q ≤ 1152921504606846976) (h3 : 0 ≤ i) (h4 : i ≤ 281474976710656) (h : 8 ≤ c.size) (h' : c.size ≤ 128) (h8 : ¬ c.size % 8 = 0) (w : World) :
    Calls Tryz.prog 53 #[.agg #[.int .i64 q, .int .i64 1, .int .i64 i, .string c]] w fun e w' => e = .returned (.tuple #[.string ⟨#[]⟩, .int .i64 11]) ∧ Below w.heap.size w w' := by
  have hq1 : decide (q < 1) = false := by rw [decide_eq_false_iff_not]; omega
  have hq2 : decide (1152921504606846976 < q) = false := by rw [decide_eq_false_iff_not]; omega
  have hi1 : decide (i < 0) = false := by rw [decide_eq_false_iff_not]; omega
  have hi2 : decide (281474976710656 < i) = false := by rw [decide_eq_false_iff_not]; omega
  have hz : ((c.size : Int) % 8 != 0) = true := by rw [bne_iff_ne]; omega
  have hz0 : ((c.size : Int) == 0) = false := by rw [beq_eq_false_iff_ne]; omega
  go_enter Tryz.func53, Tryz.ntmps53
  go_wp2_with fail
  go_ret2
  exact ⟨rfl, by repeat (first | exact Below.refl _ _ | apply Below.alloc _ (Nat.le_refl _))⟩

set_option maxRecDepth 100000 in
theorem refWrite_good1 (q i : Nat) (c S : ByteArray) (h1 : 1 ≤ q) (h2 : q ≤ 1152921504606846976) (h4 : i ≤ 281474976710656) (h8 : 8 ≤ c.size) (h9 : c.size ≤ 128) (h10 : c.size % 8 = 0) (hS : str (Sl.frame 1 (Sl.putVar q ++ Sl.putVar i ++ c.data.toList)) = .string S) (w : World) :
    Calls Tryz.prog 53 #[.agg #[.int .i64 q, .int .i64 1, .int .i64 i, .string c]] w fun e w' => e = .returned (.tuple #[.string S, .int .i64 0]) ∧ Below w.heap.size w w' := by
  have hq1 : decide ((q : Int) < 1) = false := by rw [decide_eq_false_iff_not]; omega
  have hq2 : decide ((1152921504606846976 : Int) < (q : Int)) = false := by rw [decide_eq_false_iff_not]; omega
  have hi1 : decide ((i : Int) < 0) = false := by rw [decide_eq_false_iff_not]; omega
  have hi2 : decide ((281474976710656 : Int) < (i : Int)) = false := by rw [decide_eq_false_iff_not]; omega
  have hz : ((c.size : Int) % 8 != 0) = false := by rw [bne_eq_false_iff_eq]; omega
  have hz0 : ((c.size : Int) == 0) = false := by rw [beq_eq_false_iff_ne]; omega
  obtain ⟨P, hP, hPd, hPs⟩ := str_of (Sl.putVar q)
  obtain ⟨Q, hQ, hQd, hQs⟩ := str_of (Sl.putVar i)
  have l1 := (Sl.pvf_len 9 q).2
  have l2 := (Sl.pvf_len 9 i).2
  have z1 : P.size ≤ 10 := by rw [hPs]; exact l1
  have z2 : Q.size ≤ 10 := by rw [hQs]; exact l2
  have z3 : c.size ≤ 128 := by omega
  have hfr : frameV 1 (P ++ Q ++ c).data.toList = .tuple #[.string S, .int .i64 0] := by
    rw [data_append (P ++ Q) c, data_append P Q, hPd, hQd]
    unfold frameV
    rw [if_neg (by decide), if_neg (by rw [List.length_append, List.length_append, ← hPs, ← hQs, Array.length_toList]; show ¬ 65536 < P.size + Q.size + c.size; omega)]
    rw [← hS]; rfl
  have CQ := Lib.hid (show IntKind.u64.wrap (q : Int) = q from u64_nat q (by omega))
  have CI := Lib.hid (show IntKind.u64.wrap (i : Int) = i from u64_nat i (by omega))
  have HP := Lib.hid hP
  have HQ := Lib.hid hQ
  have HF := Lib.hid hfr
  clear hP hPd hPs hQ hQd hQs l1 l2 hfr hS
  go_enter Tryz.func53, Tryz.ntmps53
  go_wp2_with fail
  have hn1 : ¬ (9223372036854775807 < P.size + Q.size) := by omega
  have hn2 : ¬ (9223372036854775807 < P.size + Q.size + c.size) := by omega
  go_region_held3 (fun w' => w'.cell? ⟨w.heap.size, 0, none⟩ = some (.int .i64 q) ∧ w'.cell? ⟨w.heap.size, 1, none⟩ = some (.int .i64 1) ∧ w'.cell? ⟨w.heap.size, 2, none⟩ = some (.int .i64 i) ∧ w'.cell? ⟨w.heap.size, 3, none⟩ = some (.string c) ∧ Below w.heap.size w w')
    (refine ⟨?_, ?_, ?_, ?_, ?_⟩ <;> first | assumption | exact ((Below.refl _ _).alloc (Nat.le_refl _) _).drew | exact World.cell?_alloc_at _ _ _ _ rfl | go_keep | apply Below.drew; assumption)
    (first
      | (go_at_call_of 85 (Value.int .u64 (IntKind.u64.wrap q)); rw [CQ.out]; refine (refPutVar_held q w.heap.size q 1 i c w _ (by omega) (by assumption) P HP.out).mono ?_; rintro e w' ⟨rfl, kS⟩)
      | (go_at_call_of 85 (Value.int .u64 (IntKind.u64.wrap i)); rw [CI.out]; refine (refPutVar_held i w.heap.size q 1 i c w _ (by omega) (by assumption) Q HQ.out).mono ?_; rintro e w' ⟨rfl, kS⟩)
      | (go_at_call 84; refine (refFrame_held 1 (P ++ Q ++ c) _ w.heap.size q 1 i c w _ (by assumption) HF.out).mono ?_; rintro e w' ⟨rfl, kS⟩))
  all_goals go_wp2_with fail
  all_goals go_ret2
  all_goals exact ⟨rfl, by first | assumption | (rename_i hh; exact hh.2.2.2.2)⟩

set_option maxRecDepth 100000 in
theorem refWrite_good2 (q i : Nat) (c S : ByteArray) (h1 : 1 ≤ q) (h2 : q ≤ 1152921504606846976) (h4 : i ≤ 281474976710656) (h8 : c.size = 0) (hS : str (Sl.frame 2 (Sl.putVar q ++ Sl.putVar i ++ c.data.toList)) = .string S) (w : World) :
    Calls Tryz.prog 53 #[.agg #[.int .i64 q, .int .i64 2, .int .i64 i, .string c]] w fun e w' => e = .returned (.tuple #[.string S, .int .i64 0]) ∧ Below w.heap.size w w' := by
  have hq1 : decide ((q : Int) < 1) = false := by rw [decide_eq_false_iff_not]; omega
  have hq2 : decide ((1152921504606846976 : Int) < (q : Int)) = false := by rw [decide_eq_false_iff_not]; omega
  have hi1 : decide ((i : Int) < 0) = false := by rw [decide_eq_false_iff_not]; omega
  have hi2 : decide ((281474976710656 : Int) < (i : Int)) = false := by rw [decide_eq_false_iff_not]; omega
  have hz : c.toList.isEmpty = true := by
    rw [ByteArray.toList_eq, List.isEmpty_iff]
    apply List.eq_nil_of_length_eq_zero
    rw [Array.length_toList]; exact h8
  have hz0 : ((c.size : Int) != 0) = false := by rw [bne_eq_false_iff_eq]; omega
  obtain ⟨P, hP, hPd, hPs⟩ := str_of (Sl.putVar q)
  obtain ⟨Q, hQ, hQd, hQs⟩ := str_of (Sl.putVar i)
  have l1 := (Sl.pvf_len 9 q).2
  have l2 := (Sl.pvf_len 9 i).2
  have z1 : P.size ≤ 10 := by rw [hPs]; exact l1
  have z2 : Q.size ≤ 10 := by rw [hQs]; exact l2
  have z3 : c.size ≤ 128 := by omega
  have hfr : frameV 2 (P ++ Q ++ c).data.toList = .tuple #[.string S, .int .i64 0] := by
    rw [data_append (P ++ Q) c, data_append P Q, hPd, hQd]
    unfold frameV
    rw [if_neg (by decide), if_neg (by rw [List.length_append, List.length_append, ← hPs, ← hQs, Array.length_toList]; show ¬ 65536 < P.size + Q.size + c.size; omega)]
    rw [← hS]; rfl
  have CQ := Lib.hid (show IntKind.u64.wrap (q : Int) = q from u64_nat q (by omega))
  have CI := Lib.hid (show IntKind.u64.wrap (i : Int) = i from u64_nat i (by omega))
  have HP := Lib.hid hP
  have HQ := Lib.hid hQ
  have HF := Lib.hid hfr
  clear hP hPd hPs hQ hQd hQs l1 l2 hfr hS
  go_enter Tryz.func53, Tryz.ntmps53
  go_wp2_with fail
  have hn1 : ¬ (9223372036854775807 < P.size + Q.size) := by omega
  have hn2 : ¬ (9223372036854775807 < P.size + Q.size + c.size) := by omega
  go_region_held3 (fun w' => w'.cell? ⟨w.heap.size, 0, none⟩ = some (.int .i64 q) ∧ w'.cell? ⟨w.heap.size, 1, none⟩ = some (.int .i64 2) ∧ w'.cell? ⟨w.heap.size, 2, none⟩ = some (.int .i64 i) ∧ w'.cell? ⟨w.heap.size, 3, none⟩ = some (.string c) ∧ Below w.heap.size w w')
    (refine ⟨?_, ?_, ?_, ?_, ?_⟩ <;> first | assumption | exact ((Below.refl _ _).alloc (Nat.le_refl _) _).drew | exact World.cell?_alloc_at _ _ _ _ rfl | go_keep | apply Below.drew; assumption)
    (first
      | (go_at_call_of 85 (Value.int .u64 (IntKind.u64.wrap q)); rw [CQ.out]; refine (refPutVar_held q w.heap.size q 2 i c w _ (by omega) (by assumption) P HP.out).mono ?_; rintro e w' ⟨rfl, kS⟩)
      | (go_at_call_of 85 (Value.int .u64 (IntKind.u64.wrap i)); rw [CI.out]; refine (refPutVar_held i w.heap.size q 2 i c w _ (by omega) (by assumption) Q HQ.out).mono ?_; rintro e w' ⟨rfl, kS⟩)
      | (go_at_call 84; refine (refFrame_held 2 (P ++ Q ++ c) _ w.heap.size q 2 i c w _ (by assumption) HF.out).mono ?_; rintro e w' ⟨rfl, kS⟩))
  all_goals go_wp2_with fail
  all_goals go_ret2
  all_goals exact ⟨rfl, by first | assumption | (rename_i hh; exact hh.2.2.2.2)⟩
end Go.Proofs.YtifkhjihgnnpfaaGreatDoor
/- Contracts of both Writes in one: what the plain function Jn.write says. Conditions: each theorem's own hypotheses. -/
namespace Go.Proofs.YtifkhjihgnnpfaaGreatDoor
open Go.RowKit
set_option linter.unusedVariables false

/-- Does the code not go? -/
def Jn.codeBad (k : Int) (n : Nat) : Prop := k = 2 ∧ 0 < n ∨ k = 1 ∧ (n < 8 ∨ 128 < n ∨ ¬ n % 8 = 0)
instance (k : Int) (n : Nat) : Decidable (Jn.codeBad k n) := by unfold Jn.codeBad; infer_instance

/-- Writing an update: the bytes, and the refusal's number. -/
def Jn.write (q k i : Int) (c : List UInt8) : List UInt8 × Nat :=
  if q < 1 ∨ 1152921504606846976 < q then ([], 51)
  else if ¬ (k = 1 ∨ k = 2) then ([], 35)
  else if i < 0 ∨ 281474976710656 < i then ([], 60)
  else if Jn.codeBad k c.length then ([], 11)
  else (Sl.frame k.toNat (Sl.putVar q.toNat ++ Sl.putVar i.toNat ++ c), 0)

theorem str_nil : str [] = .string ⟨#[]⟩ := rfl

theorem write_any (q k i : Int) (c : ByteArray) (w : World) (hs : c.size ≤ 9223372036854775807) (hT : TabS w) :
    Calls Tryz.prog 72 #[.agg #[.int .i64 q, .int .i64 k, .int .i64 i, .string c]] w fun e w' => e = .returned (.tuple #[str (Jn.write q k i c.data.toList).1, .int .i64 (Jn.write q k i c.data.toList).2]) ∧ Below w.heap.size w w' := by
  have hl : c.data.toList.length = c.size := Array.length_toList
  unfold Jn.write
  by_cases h1 : q < 1
  · rw [if_pos (Or.inl h1)]; exact write_low q k i c h1 w
  by_cases h2 : 1152921504606846976 < q
  · rw [if_pos (Or.inr h2)]; exact write_high q k i c h2 w
  rw [if_neg (by omega)]
  by_cases hk : k = 1 ∨ k = 2
  rotate_left
  · rw [if_pos hk]; exact write_kind q k i c (by omega) (by omega) (fun h => hk (Or.inl h)) (fun h => hk (Or.inr h)) w
  rw [if_neg (not_not_intro hk)]
  by_cases h3 : i < 0
  · rw [if_pos (Or.inl h3)]
    rcases hk with rfl | rfl
    · exact write_idlow1 q i c (by omega) (by omega) h3 w
    · exact write_idlow2 q i c (by omega) (by omega) h3 w
  by_cases h4 : 281474976710656 < i
  · rw [if_pos (Or.inr h4)]
    rcases hk with rfl | rfl
    · exact write_idhigh1 q i c (by omega) (by omega) h4 w
    · exact write_idhigh2 q i c (by omega) (by omega) h4 w
  rw [if_neg (by omega), hl]
  by_cases hb : Jn.codeBad k c.size
  · rw [if_pos hb]
    rcases hb with ⟨rfl, hb⟩ | ⟨rfl, hb⟩
    · exact write_dead q i c (by omega) (by omega) (by omega) (by omega) hb hs w
    · by_cases h0 : c.size = 0
      · exact write_none q i c (by omega) (by omega) (by omega) (by omega) h0 w
      by_cases h8 : c.size < 8
      · exact write_few q i c (by omega) (by omega) (by omega) (by omega) (by omega) h8 w
      by_cases h9 : 128 < c.size
      · exact write_many q i c (by omega) (by omega) (by omega) (by omega) h9 hs w
      · exact write_odd q i c (by omega) (by omega) (by omega) (by omega) (by omega) (by omega) (by omega) w
  · rw [if_neg hb]
    unfold Jn.codeBad at hb
    obtain ⟨q, rfl⟩ : ∃ n : Nat, q = (n : Int) := ⟨q.toNat, by omega⟩
    obtain ⟨i, rfl⟩ : ∃ n : Nat, i = (n : Int) := ⟨i.toNat, by omega⟩
    rw [show ((q : Int)).toNat = q from rfl, show ((i : Int)).toNat = i from rfl]
    rcases hk with rfl | rfl
    · exact write_good1 q i c _ (by omega) (by omega) (by omega) (by omega) (by omega) (by omega) rfl w hT
    · exact write_good2 q i c _ (by omega) (by omega) (by omega) (by omega) rfl w hT

/-- .. with the bytes opened. -/
theorem write_tell (q k i : Int) (c S : ByteArray) (l : List UInt8) (x : Nat) (w : World) (hs : c.size ≤ 9223372036854775807) (hT : TabS w) (hW : Jn.write q k i c.data.toList = (l, x)) (hS : str l = .string S) :
    Calls Tryz.prog 72 #[.agg #[.int .i64 q, .int .i64 k, .int .i64 i, .string c]] w fun e w' => e = .returned (.tuple #[.string S, .int .i64 x]) ∧ Below w.heap.size w w' := by
  have := write_any q k i c w hs hT
  rw [hW] at this
  rw [← hS]; exact this

theorem refWrite_any (q k i : Int) (c : ByteArray) (w : World) (hs : c.size ≤ 9223372036854775807) :
    Calls Tryz.prog 53 #[.agg #[.int .i64 q, .int .i64 k, .int .i64 i, .string c]] w fun e w' => e = .returned (.tuple #[str (Jn.write q k i c.data.toList).1, .int .i64 (Jn.write q k i c.data.toList).2]) ∧ Below w.heap.size w w' := by
  have hl : c.data.toList.length = c.size := Array.length_toList
  unfold Jn.write
  by_cases h1 : q < 1
  · rw [if_pos (Or.inl h1)]; exact refWrite_low q k i c h1 w
  by_cases h2 : 1152921504606846976 < q
  · rw [if_pos (Or.inr h2)]; exact refWrite_high q k i c h2 w
  rw [if_neg (by omega)]
  by_cases hk : k = 1 ∨ k = 2
  rotate_left
  · rw [if_pos hk]; exact refWrite_kind q k i c (by omega) (by omega) (fun h => hk (Or.inl h)) (fun h => hk (Or.inr h)) w
  rw [if_neg (not_not_intro hk)]
  by_cases h3 : i < 0
  · rw [if_pos (Or.inl h3)]
    rcases hk with rfl | rfl
    · exact refWrite_idlow1 q i c (by omega) (by omega) h3 w
    · exact refWrite_idlow2 q i c (by omega) (by omega) h3 w
  by_cases h4 : 281474976710656 < i
  · rw [if_pos (Or.inr h4)]
    rcases hk with rfl | rfl
    · exact refWrite_idhigh1 q i c (by omega) (by omega) h4 w
    · exact refWrite_idhigh2 q i c (by omega) (by omega) h4 w
  rw [if_neg (by omega), hl]
  by_cases hb : Jn.codeBad k c.size
  · rw [if_pos hb]
    rcases hb with ⟨rfl, hb⟩ | ⟨rfl, hb⟩
    · exact refWrite_dead q i c (by omega) (by omega) (by omega) (by omega) hb hs w
    · by_cases h0 : c.size = 0
      · exact refWrite_none q i c (by omega) (by omega) (by omega) (by omega) h0 w
      by_cases h8 : c.size < 8
      · exact refWrite_few q i c (by omega) (by omega) (by omega) (by omega) (by omega) h8 w
      by_cases h9 : 128 < c.size
      · exact refWrite_many q i c (by omega) (by omega) (by omega) (by omega) h9 hs w
      · exact refWrite_odd q i c (by omega) (by omega) (by omega) (by omega) (by omega) (by omega) (by omega) w
  · rw [if_neg hb]
    unfold Jn.codeBad at hb
    obtain ⟨q, rfl⟩ : ∃ n : Nat, q = (n : Int) := ⟨q.toNat, by omega⟩
    obtain ⟨i, rfl⟩ : ∃ n : Nat, i = (n : Int) := ⟨i.toNat, by omega⟩
    rw [show ((q : Int)).toNat = q from rfl, show ((i : Int)).toNat = i from rfl]
    rcases hk with rfl | rfl
    · exact refWrite_good1 q i c _ (by omega) (by omega) (by omega) (by omega) (by omega) (by omega) rfl w
    · exact refWrite_good2 q i c _ (by omega) (by omega) (by omega) (by omega) rfl w

/-- .. with the bytes opened. -/
theorem refWrite_tell (q k i : Int) (c S : ByteArray) (l : List UInt8) (x : Nat) (w : World) (hs : c.size ≤ 9223372036854775807) (hW : Jn.write q k i c.data.toList = (l, x)) (hS : str l = .string S) :
    Calls Tryz.prog 53 #[.agg #[.int .i64 q, .int .i64 k, .int .i64 i, .string c]] w fun e w' => e = .returned (.tuple #[.string S, .int .i64 x]) ∧ Below w.heap.size w w' := by
  have := refWrite_any q k i c w hs
  rw [hW] at this
  rw [← hS]; exact this
end Go.Proofs.YtifkhjihgnnpfaaGreatDoor
/- Contracts of the law's helpers pick, code, goes. Conditions: each theorem's own hypotheses. -/
namespace Go.Proofs.YtifkhjihgnnpfaaGreatDoor
open Go.RowKit
set_option linter.unusedVariables false

theorem pick_val (k n : Int) (hn : 1 ≤ n) (hn2 : n ≤ 4611686018427387904) :
    (k.tmod n < 0 → wrap64 (k.tmod n + n) = k % n) ∧ (0 ≤ k.tmod n → k.tmod n = k % n) := by
  have h1 := Int.emod_nonneg k (show n ≠ 0 by omega)
  have h2 := Int.emod_lt_of_pos k (show 0 < n by omega)
  have h3 := Int.tmod_eq_emod (a := k) (b := n)
  by_cases hc : 0 ≤ k ∨ n ∣ k
  · rw [if_pos hc] at h3; exact ⟨fun h => by omega, fun _ => by omega⟩
  · rw [if_neg hc, show (n.natAbs : Int) = n from by omega] at h3
    rw [h3]
    refine ⟨fun _ => ?_, fun h => by omega⟩
    rw [IntWalk.wrap64_in _ (by omega)]; omega

/-- The cells of an update at a block, from its second on. -/
theorem tri_alloc {b : Nat} {k i : Int} {c : ByteArray} {w : World} (o : Obj) (h : w.cell? ⟨b, 1, none⟩ = some (.int .i64 k) ∧ w.cell? ⟨b, 2, none⟩ = some (.int .i64 i) ∧ w.cell? ⟨b, 3, none⟩ = some (.string c)) :
    (w.alloc o).cell? ⟨b, 1, none⟩ = some (.int .i64 k) ∧ (w.alloc o).cell? ⟨b, 2, none⟩ = some (.int .i64 i) ∧ (w.alloc o).cell? ⟨b, 3, none⟩ = some (.string c) := by
  obtain ⟨h1, h2, h3⟩ := h
  refine ⟨?_, ?_, ?_⟩
  · rw [World.cell?_alloc_some _ _ _ (by rw [h1]; rfl)]; exact h1
  · rw [World.cell?_alloc_some _ _ _ (by rw [h2]; rfl)]; exact h2
  · rw [World.cell?_alloc_some _ _ _ (by rw [h3]; rfl)]; exact h3
theorem tri_set {b : Nat} {k i : Int} {c : ByteArray} {w : World} (p : Addr) (v : Value) (hp : p.block ≠ b) (h : w.cell? ⟨b, 1, none⟩ = some (.int .i64 k) ∧ w.cell? ⟨b, 2, none⟩ = some (.int .i64 i) ∧ w.cell? ⟨b, 3, none⟩ = some (.string c)) :
    (w.setCell p v).cell? ⟨b, 1, none⟩ = some (.int .i64 k) ∧ (w.setCell p v).cell? ⟨b, 2, none⟩ = some (.int .i64 i) ∧ (w.setCell p v).cell? ⟨b, 3, none⟩ = some (.string c) := by
  obtain ⟨h1, h2, h3⟩ := h
  refine ⟨?_, ?_, ?_⟩
  · rw [World.cell?_setCell_far _ _ _ _ hp]; exact h1
  · rw [World.cell?_setCell_far _ _ _ _ hp]; exact h2
  · rw [World.cell?_setCell_far _ _ _ _ hp]; exact h3

end Go.Proofs.YtifkhjihgnnpfaaGreatDoor
