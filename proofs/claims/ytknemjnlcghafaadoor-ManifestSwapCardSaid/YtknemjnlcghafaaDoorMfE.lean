/- Manifests: contract of manifest.Check. Conditions: each theorem's own hypotheses. -/
import Derived.Test.YtknemjnlcghafaaDoorMfA
namespace Go.Proofs.YtknemjnlcghafaaDoor
open Go.RowKit Go.Maps
set_option linter.unusedVariables false

theorem goes1_any (b : Nat) (x : Int) (W : World) (h : W.cell? ⟨b, 3, none⟩ = some (.int .i64 x)) :
    Calls Tryd.prog 34 #[.pointer (some ⟨b, 0, none⟩)] W fun e W' => e = .returned (.bool (Mf.inB x 0 1152921504606846976)) ∧ W = W' := by
  go_enter Tryd.func34, Tryd.ntmps34
  go_wp2_with (go_at_call 35; refine (within_any _ _ _ _).mono ?_; rintro e w' ⟨rfl, rfl⟩)
  go_ret
  exact ⟨rfl, rfl⟩
theorem goes2_any (b : Nat) (x : Int) (W : World) (h : W.cell? ⟨b, 4, none⟩ = some (.int .i64 x)) :
    Calls Tryd.prog 36 #[.pointer (some ⟨b, 0, none⟩)] W fun e W' => e = .returned (.bool (Mf.inB x 2 1099511627776)) ∧ W = W' := by
  go_enter Tryd.func36, Tryd.ntmps36
  go_wp2_with (go_at_call 35; refine (within_any _ _ _ _).mono ?_; rintro e w' ⟨rfl, rfl⟩)
  go_ret
  exact ⟨rfl, rfl⟩
theorem goes3_any (b : Nat) (x y : Int) (W : World) (h : W.cell? ⟨b, 5, none⟩ = some (.int .i64 x)) (h' : W.cell? ⟨b, 4, none⟩ = some (.int .i64 y)) (hy : 2 ≤ y) (hy' : y ≤ 1099511627776) :
    Calls Tryd.prog 37 #[.pointer (some ⟨b, 0, none⟩)] W fun e W' => e = .returned (.bool (Mf.inB x 1 (y - 1))) ∧ W = W' := by
  go_enter Tryd.func37, Tryd.ntmps37
  go_wp2_with (go_at_call 35; refine (within_any _ _ _ _).mono ?_; rintro e w' ⟨rfl, rfl⟩)
  go_ret
  exact ⟨rfl, rfl⟩
theorem goes4_any (b n cap : Nat) (A : Option Addr) (W : World) (h : W.cell? ⟨b, 6, none⟩ = some (.slice A n cap)) :
    Calls Tryd.prog 38 #[.pointer (some ⟨b, 0, none⟩)] W fun e W' => e = .returned (.bool (decide ((n : Int) ≤ 24))) ∧ W = W' := by
  go_enter Tryd.func38, Tryd.ntmps38
  go_wp2_with fail
  go_ret
  exact ⟨rfl, rfl⟩
def manCells (M : Man) (A : Option Addr) (cap : Nat) : Array Value := #[.int .i64 M.w, .int .i64 M.c, .int .i64 M.m, .int .i64 M.seq, .int .i64 M.next, .int .i64 M.jr, .slice A M.runs.length cap]
theorem goes5_any (M : Man) (A : Option Addr) (cap b : Nat) (w : World) (hb : Blk w b 26 (manCells M A cap)) (HR : Rs w w.heap.size A M.runs) (hl : M.runs.length ≤ 24) (hn1 : 2 ≤ M.next) (hn2 : M.next ≤ 1099511627776)
    (hM : Mf.Fit M) (R : Bool) (hR : Mf.Stand M ↔ R = true) :
    Calls Tryd.prog 39 #[.pointer (some ⟨b, 0, none⟩)] w fun e w' => e = .returned (.bool R) ∧ Below w.heap.size w w' := by
  have c0 : w.cell? ⟨b, 0, none⟩ = some (.int .i64 M.w) := hb.cell 0
  have c1 : w.cell? ⟨b, 1, none⟩ = some (.int .i64 M.c) := hb.cell 1
  have c2 : w.cell? ⟨b, 2, none⟩ = some (.int .i64 M.m) := hb.cell 2
  have c3 : w.cell? ⟨b, 3, none⟩ = some (.int .i64 M.seq) := hb.cell 3
  have c4 : w.cell? ⟨b, 4, none⟩ = some (.int .i64 M.next) := hb.cell 4
  have c5 : w.cell? ⟨b, 5, none⟩ = some (.int .i64 M.jr) := hb.cell 5
  have c6 : w.cell? ⟨b, 6, none⟩ = some (.slice A M.runs.length cap) := hb.cell 6
  have HRR := Lib.hid hR
  clear hR
  go_enter Tryd.func39, Tryd.ntmps39
  go_wp2_with fail
  refine (standing_any M A cap w HR hl hn1 hn2 hM.jr hM.runs R HRR.out).mono ?_
  rintro e w1 ⟨rfl, hB⟩
  go_wp2_with fail
  go_ret
  exact ⟨rfl, hB⟩

theorem Mf.inB_iff {n lo hi : Int} : Mf.inB n lo hi = true ↔ lo ≤ n ∧ n ≤ hi := by unfold Mf.inB; exact decide_eq_true_iff
theorem Mf.front_iff (M : Man) : Mf.Front M ↔ Mf.inB M.seq 0 1152921504606846976 = true ∧ Mf.inB M.next 2 1099511627776 = true ∧ Mf.inB M.jr 1 (M.next - 1) = true ∧ (M.runs.length : Int) ≤ 24 := by
  unfold Mf.Front
  rw [Mf.inB_iff, Mf.inB_iff, Mf.inB_iff]
  omega

set_option maxRecDepth 100000 in
set_option maxHeartbeats 4000000 in
theorem check_any (M : Man) (A : Option Addr) (cap : Nat) (w : World) (HR : Rs w w.heap.size A M.runs) (hM : Mf.Fit M) (n : Nat) (hn : Mf.check M = n) :
    Calls Tryd.prog 18 #[manV M A cap] w fun e w' => e = .returned (.int .i64 n) ∧ Below w.heap.size w w' := by
  unfold Mf.check at hn
  obtain ⟨o, ho⟩ : ∃ o, Mf.opts M.w M.c M.m = o := ⟨_, rfl⟩
  rw [ho] at hn
  have HO := Lib.hid ho
  have hlen := hM.len
  by_cases h0 : o = 0
  rotate_left
  · rw [if_pos h0] at hn
    obtain rfl := hn
    have h0' : ((o : Int) != 0) = true := by rw [bne_iff_ne]; omega
    clear ho
    unfold manV
    go_enter Tryd.func18, Tryd.ntmps18
    go_wp2_with fail
    refine (optioned_any M.w M.c M.m hM.w o HO.out _).mono ?_
    rintro e w1 ⟨rfl, hB⟩
    go_wp2_with fail
    go_ret
    exact ⟨rfl, ((Below.refl _ _).alloc (Nat.le_refl _) _).trans (hB.mono (by simp))⟩
  rw [if_neg (not_not_intro h0)] at hn
  subst h0
  have HN := Lib.hid hn
  clear hn ho
  unfold manV
  go_enter Tryd.func18, Tryd.ntmps18
  go_wp2_with fail
  refine (optioned_any M.w M.c M.m hM.w 0 HO.out _).mono ?_
  rintro e w1 ⟨rfl, hB⟩
  have hb0 : Blk w1 w.heap.size 26 (manCells M A cap) := (hB.block w.heap.size (by simp)).trans (Blk.new w _ _)
  have B1 : Below w.heap.size w w1 := ((Below.refl _ _).alloc (Nat.le_refl _) _).trans (hB.mono (by simp))
  clear hB
  have hbo : ∀ o, Blk (w1.alloc o) w.heap.size 26 (manCells M A cap) := fun o => hb0.alloc o
  have hro : ∀ o, Rs (w1.alloc o) (w1.alloc o).heap.size A M.runs := fun o => (HR.below (B1.alloc B1.size o)).more (B1.alloc B1.size o).size
  obtain ⟨R, hR⟩ : ∃ R : Bool, (Mf.Stand M ↔ R = true) := by
    by_cases h : Mf.Stand M
    · exact ⟨true, fun _ => rfl, fun _ => h⟩
    · exact ⟨false, fun h' => absurd h' h, fun h' => by cases h'⟩
  have HRR := Lib.hid hR
  clear hR
  go_wp2_with fail
  refine wp_loop_rounds 6 ?_
  rw [rounds_succ]
  go_wp2_with (go_at_call 34; refine (goes1_any _ M.seq _ ((hbo _).cell 3)).mono ?_; rintro e w' ⟨rfl, rfl⟩)
  · have hq : (!Mf.inB M.seq 0 1152921504606846976) = true := by assumption
    have hn : 80 = n := by
      rw [← HN.out, if_neg]
      rintro ⟨hf, hs⟩
      obtain ⟨a, b, c, d⟩ := (Mf.front_iff M).1 hf
      rw [a] at hq; exact absurd hq (by decide)
    go_ret
    exact ⟨congrArg (fun z : Nat => Ending.returned (Value.int .i64 z)) hn, B1.alloc B1.size _⟩
  have p1 : (!Mf.inB M.seq 0 1152921504606846976) = false := by assumption
  have q1 : Mf.inB M.seq 0 1152921504606846976 = true := by simpa using p1
  rw [rounds_succ]
  go_wp2_with (go_at_call 36; refine (goes2_any _ M.next _ ((hbo _).cell 4)).mono ?_; rintro e w' ⟨rfl, rfl⟩)
  · have hq : (!Mf.inB M.next 2 1099511627776) = true := by assumption
    have hn : 80 = n := by
      rw [← HN.out, if_neg]
      rintro ⟨hf, hs⟩
      obtain ⟨a, b, c, d⟩ := (Mf.front_iff M).1 hf
      rw [b] at hq; exact absurd hq (by decide)
    go_ret
    exact ⟨congrArg (fun z : Nat => Ending.returned (Value.int .i64 z)) hn, B1.alloc B1.size _⟩
  have p2 : (!Mf.inB M.next 2 1099511627776) = false := by assumption
  have q2 : Mf.inB M.next 2 1099511627776 = true := by simpa using p2
  rw [rounds_succ]
  go_wp2_with (go_at_call 37; refine (goes3_any _ M.jr M.next _ ((hbo _).cell 5) ((hbo _).cell 4) (Mf.inB_iff.1 q2).1 (Mf.inB_iff.1 q2).2).mono ?_; rintro e w' ⟨rfl, rfl⟩)
  · have hq : (!Mf.inB M.jr 1 (M.next - 1)) = true := by assumption
    have hn : 80 = n := by
      rw [← HN.out, if_neg]
      rintro ⟨hf, hs⟩
      obtain ⟨a, b, c, d⟩ := (Mf.front_iff M).1 hf
      rw [c] at hq; exact absurd hq (by decide)
    go_ret
    exact ⟨congrArg (fun z : Nat => Ending.returned (Value.int .i64 z)) hn, B1.alloc B1.size _⟩
  have p3 : (!Mf.inB M.jr 1 (M.next - 1)) = false := by assumption
  have q3 : Mf.inB M.jr 1 (M.next - 1) = true := by simpa using p3
  rw [rounds_succ]
  go_wp2_with (go_at_call 38; refine (goes4_any _ M.runs.length cap A _ ((hbo _).cell 6)).mono ?_; rintro e w' ⟨rfl, rfl⟩)
  · have hq : (!decide ((M.runs.length : Int) ≤ 24)) = true := by assumption
    have hn : 80 = n := by
      rw [← HN.out, if_neg]
      rintro ⟨hf, hs⟩
      obtain ⟨a, b, c, d⟩ := (Mf.front_iff M).1 hf
      rw [decide_eq_true d] at hq; exact absurd hq (by decide)
    go_ret
    exact ⟨congrArg (fun z : Nat => Ending.returned (Value.int .i64 z)) hn, B1.alloc B1.size _⟩
  have p4 : (!decide ((M.runs.length : Int) ≤ 24)) = false := by assumption
  have q4 : (M.runs.length : Int) ≤ 24 := by simpa using p4
  have hfr : Mf.Front M := (Mf.front_iff M).2 ⟨q1, q2, q3, q4⟩
  have g1 := (Mf.inB_iff.1 q2).1
  have g2 := (Mf.inB_iff.1 q2).2
  by_cases hst : Mf.Stand M
  · have hn : 0 = n := by rw [← HN.out, if_pos ⟨hfr, hst⟩]
    have HST := Lib.hid hst
    have HNN := Lib.hid hn
    clear hst hn hfr
    rw [rounds_succ]
    go_wp2_with (go_at_call 39; refine (goes5_any M A cap _ _ (hbo _) (hro _) (by omega) g1 g2 hM true ⟨fun _ => rfl, fun _ => HST.out⟩).mono ?_; rintro e w9 ⟨rfl, hB9⟩)
    rw [rounds_succ]
    go_wp2_with fail
    go_ret
    exact ⟨congrArg (fun z : Nat => Ending.returned (Value.int .i64 z)) HNN.out, (B1.alloc B1.size _).trans (hB9.mono (B1.alloc B1.size _).size)⟩
  · have hn : 80 = n := by rw [← HN.out, if_neg (fun h => hst h.2)]
    have HST := Lib.hid hst
    have HNN := Lib.hid hn
    clear hst hn hfr
    rw [rounds_succ]
    go_wp2_with (go_at_call 39; refine (goes5_any M A cap _ _ (hbo _) (hro _) (by omega) g1 g2 hM false ⟨fun h => absurd h HST.out, fun h => by cases h⟩).mono ?_; rintro e w9 ⟨rfl, hB9⟩)
    go_ret
    exact ⟨congrArg (fun z : Nat => Ending.returned (Value.int .i64 z)) HNN.out, (B1.alloc B1.size _).trans (hB9.mono (B1.alloc B1.size _).size)⟩
end Go.Proofs.YtknemjnlcghafaaDoor
