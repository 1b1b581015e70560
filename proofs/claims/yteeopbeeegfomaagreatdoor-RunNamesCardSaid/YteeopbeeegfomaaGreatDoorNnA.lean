/- Runs: numbers, options and tables. Contracts of run.optioned, run.goes, run.tables and the document's. Conditions: each theorem's own hypotheses. -/
import Derived.Test.YteeopbeeegfomaaGreatDoorBtB
import Derived.Below
import Derived.Deep.Light
namespace Go.Proofs.YteeopbeeegfomaaGreatDoor
open Go.RowKit
set_option linter.unusedVariables false

/-- Why options do not go. -/
def Rn.opts (w c m : Int) : Nat :=
  if w < 64 ∨ 1024 < w ∨ ¬ w % 64 = 0 then 10
  else if ¬ m = 1 ∧ ¬ m = 2 then 81
  else if m = 2 ∧ ¬ c = 0 then 12
  else if m = 1 ∧ (c < w / 32 ∨ w / 8 < c) then 12
  else 0
/-- Why there can be no run of this number with these options. -/
def Rn.goes (n w c m : Int) : Nat := if n < 1 ∨ 1099511627776 < n then 13 else Rn.opts w c m
/-- How many tables options that go have. -/
def Rn.tabs (c m : Int) : Nat := if m = 2 then 1 else c.toNat

theorem rn_below {a X x1 : World} (k : Below X.heap.size X x1) (h : Below a.heap.size a X) : Below a.heap.size a x1 := h.trans (k.mono h.size)

theorem Bt.err_in {w c : Int} (h : Bt.err w c = 0) : 64 ≤ w ∧ w ≤ 1024 ∧ w % 64 = 0 ∧ w / 32 ≤ c ∧ c ≤ w / 8 := by
  unfold Bt.err at h
  split at h
  · cases h
  · rename_i h1
    split at h
    · cases h
    · have := Bt.wide_in (by simpa using h1)
      omega

set_option maxRecDepth 100000 in
set_option maxHeartbeats 1000000 in
theorem rnOptioned_any (w c m : Int) (hw : -9223372036854775808 ≤ w ∧ w ≤ 9223372036854775807) (n : Nat) (hn : Rn.opts w c m = n) (W : World) :
    Calls Tryz.prog 18 #[.agg #[.int .i64 w, .int .i64 c, .int .i64 m]] W fun e W' => e = .returned (.int .i64 n) ∧ Below W.heap.size W W' := by
  by_cases h1 : 64 ≤ w
  · by_cases h2 : w ≤ 1024
    · by_cases h3 : w % 64 = 0
      · have t1 : decide (w < 64) = false := by simp; omega
        have t2 : decide (1024 < w) = false := by simp; omega
        have t3 : (w % 64 != 0) = false := by rw [bne_eq_false_iff_eq]; exact h3
        by_cases hm : m = 1
        · subst hm
          unfold Rn.opts at hn
          have B0 : Below W.heap.size W (W.alloc (.cells #[.int .i64 w, .int .i64 c, .int .i64 1] 25)) := (Below.refl _ _).alloc (Nat.le_refl _) _
          by_cases he : Bt.err w c = 0
          · obtain ⟨_, _, _, h4, h5⟩ := Bt.err_in he
            obtain rfl : 0 = n := by rw [← hn, if_neg (by omega), if_neg (by omega), if_neg (by omega), if_neg (by omega)]
            obtain ⟨wn, rfl⟩ : ∃ wn : Nat, w = wn := ⟨w.toNat, by omega⟩
            obtain ⟨cn, rfl⟩ : ∃ cn : Nat, c = cn := ⟨c.toNat, by omega⟩
            have HE := Lib.hid he
            clear hn he h3
            go_enter Tryz.func18, Tryz.ntmps18
            go_wp2_with fail
            refine (Chunks_any wn cn _ (by omega) (by omega) HE.out).mono ?_
            rintro e W1 ⟨⟨g, cap, rfl, _⟩, hB⟩
            have B1 := rn_below hB B0
            clear hB B0
            go_wp2_with fail
            go_ret
            exact ⟨rfl, B1⟩
          · obtain ⟨q, hq⟩ : ∃ q, Bt.err w c = q := ⟨_, rfl⟩
            have hq12 : q = 12 := by
              unfold Bt.err Bt.wide at hq
              rw [if_neg (by simp; omega)] at hq
              split at hq
              · exact hq.symm
              · exfalso; apply he; unfold Bt.err Bt.wide; rw [if_neg (by simp; omega), if_neg ‹_›]
            subst hq12
            obtain rfl : 12 = n := by
              rw [← hn, if_neg (by omega), if_neg (by omega), if_neg (by omega), if_pos]
              unfold Bt.err Bt.wide at hq
              rw [if_neg (by simp; omega)] at hq
              split at hq
              · omega
              · cases hq
            have hcb := Chunks_bad w c (W.alloc (.cells #[.int .i64 w, .int .i64 c, .int .i64 1] 25)) he
            rw [hq] at hcb
            have HB := Lib.hid hcb
            clear hn he hq hcb h3
            go_enter Tryz.func18, Tryz.ntmps18
            go_wp2_with fail
            refine HB.out.mono ?_
            rintro e W1 ⟨rfl, rfl⟩
            go_wp2_with fail
            go_ret
            exact ⟨rfl, B0⟩
        · have t4 : (m == 1) = false := by rw [beq_eq_false_iff_ne]; exact hm
          have HN := Lib.hid (And.intro hn (And.intro h3 hm))
          clear hn h3 hm
          go_enter Tryz.func18, Tryz.ntmps18
          go_wp2_with fail
          all_goals
            go_ret
            refine ⟨congrArg (fun z : Int => Ending.returned (Value.int .i64 z)) ?_, (Below.refl _ _).alloc (Nat.le_refl _) _⟩
            go_light
            obtain ⟨hn, h3, hm⟩ := HN.out
            clear HN
            unfold Rn.opts at hn
            try simp only [bne_iff_ne, bne_eq_false_iff_eq, ne_eq] at *
            (repeat' split at hn) <;> omega
      · have t1 : decide (w < 64) = false := by simp; omega
        have t2 : decide (1024 < w) = false := by simp; omega
        have t3 : (w % 64 != 0) = true := by rw [bne_iff_ne]; exact h3
        obtain rfl : 10 = n := by rw [← hn]; unfold Rn.opts; rw [if_pos (by omega)]
        clear hn h3
        go_enter Tryz.func18, Tryz.ntmps18
        go_wp2_with fail
        go_ret
        exact ⟨rfl, (Below.refl _ _).alloc (Nat.le_refl _) _⟩
    · have t1 : decide (w < 64) = false := by simp; omega
      have t2 : decide (1024 < w) = true := by simp; omega
      obtain rfl : 10 = n := by rw [← hn]; unfold Rn.opts; rw [if_pos (by omega)]
      clear hn
      go_enter Tryz.func18, Tryz.ntmps18
      go_wp2_with fail
      go_ret
      exact ⟨rfl, (Below.refl _ _).alloc (Nat.le_refl _) _⟩
  · have t1 : decide (w < 64) = true := by simp; omega
    obtain rfl : 10 = n := by rw [← hn]; unfold Rn.opts; rw [if_pos (by omega)]
    clear hn
    go_enter Tryz.func18, Tryz.ntmps18
    go_wp2_with fail
    go_ret
    exact ⟨rfl, (Below.refl _ _).alloc (Nat.le_refl _) _⟩

set_option maxRecDepth 100000 in
theorem rnGoes_any (k w c m : Int) (hw : -9223372036854775808 ≤ w ∧ w ≤ 9223372036854775807) (n : Nat) (hn : Rn.goes k w c m = n) (W : World) :
    Calls Tryz.prog 8 #[.int .i64 k, .agg #[.int .i64 w, .int .i64 c, .int .i64 m]] W fun e W' => e = .returned (.int .i64 n) ∧ Below W.heap.size W W' := by
  have B0 : Below W.heap.size W (W.alloc (.cells #[.int .i64 w, .int .i64 c, .int .i64 m] 25)) := (Below.refl _ _).alloc (Nat.le_refl _) _
  unfold Rn.goes at hn
  by_cases h1 : k < 1
  · obtain rfl : 13 = n := by rw [← hn, if_pos (by omega)]
    clear hn
    go_enter Tryz.func8, Tryz.ntmps8
    go_wp2_with fail
    go_ret
    exact ⟨rfl, B0⟩
  · have t1 : decide (k < 1) = false := decide_eq_false h1
    by_cases h2 : 1099511627776 < k
    · obtain rfl : 13 = n := by rw [← hn, if_pos (by omega)]
      clear hn
      go_enter Tryz.func8, Tryz.ntmps8
      go_wp2_with fail
      go_ret
      exact ⟨rfl, B0⟩
    · have t2 : decide (1099511627776 < k) = false := decide_eq_false h2
      rw [if_neg (by omega)] at hn
      have HN := Lib.hid hn
      clear hn
      go_enter Tryz.func8, Tryz.ntmps8
      go_wp2_with fail
      refine (rnOptioned_any w c m hw n HN.out _).mono ?_
      rintro e W1 ⟨rfl, hB⟩
      have B1 := rn_below hB B0
      clear hB B0
      go_wp2_with fail
      go_ret
      exact ⟨rfl, B1⟩

end Go.Proofs.YteeopbeeegfomaaGreatDoor
