/- Contracts of bits.isWidth and bits.chunked, and what the chunks of a width are. Conditions: each theorem's own hypotheses. -/
import Derived.WalkKit
import Derived.IntWalk
import Derived.Lib.Hide
import Derived.BigQuiet
import Derived.Deep.QuietTactic
import Derived.Test.YtlfeibaghfcpaaaDoorProg
namespace Go.Proofs.YtlfeibaghfcpaaaDoor
open Go.RowKit
set_option linter.unusedVariables false

/-- Is it a width of codes? -/
def Bt.wide (w : Int) : Bool := decide (64 ≤ w ∧ w ≤ 1024 ∧ w % 64 = 0)
/-- Why w bits can not be parted into m chunks; 0: they can. -/
def Bt.err (w m : Int) : Nat := if Bt.wide w = false then 10 else if m < (w + 31) / 32 ∨ m > w / 8 then 12 else 0
/-- How many bits chunk j has. -/
def Bt.bits (w m j : Nat) : Nat := w / m + if j < w % m then 1 else 0
/-- Where chunk j begins. -/
def Bt.from_ (w m : Nat) : Nat → Nat
  | 0 => 0
  | j + 1 => Bt.from_ w m j + Bt.bits w m j
theorem Bt.bits_le (w m j : Nat) (hm : 1 ≤ m) : Bt.bits w m j ≤ w + 1 := by
  unfold Bt.bits; have := Nat.div_le_self w m; split <;> omega
theorem Bt.from_le (w m : Nat) (hm : 1 ≤ m) : ∀ j, Bt.from_ w m j ≤ j * (w + 1)
  | 0 => by simp [Bt.from_]
  | j + 1 => by have := Bt.from_le w m hm j; have := Bt.bits_le w m j hm; unfold Bt.from_; rw [Nat.add_mul]; omega

theorem isWidth_any (w : Int) (W : World) :
    Calls Tryd.prog 48 #[.int .i64 w] W fun e W' => e = .returned (.bool (Bt.wide w)) ∧ W = W' := by
  by_cases h1 : 64 ≤ w
  · by_cases h2 : w ≤ 1024
    · by_cases h3 : w % 64 = 0
      · have hw : Bt.wide w = true := by unfold Bt.wide; simp; omega
        have h4 : (w % 64 == 0) = true := by rw [beq_iff_eq]; exact h3
        rw [hw]; clear hw h3
        go_enter Tryd.func48, Tryd.ntmps48
        go_wp2_with fail
        go_ret
        exact ⟨rfl, rfl⟩
      · have hw : Bt.wide w = false := by unfold Bt.wide; simp; omega
        have h4 : (w % 64 == 0) = false := by rw [beq_eq_false_iff_ne]; exact h3
        rw [hw]; clear hw h3
        go_enter Tryd.func48, Tryd.ntmps48
        go_wp2_with fail
        go_ret
        exact ⟨rfl, rfl⟩
    · have hw : Bt.wide w = false := by unfold Bt.wide; simp; omega
      have h4 : decide (w ≤ 1024) = false := by simp; omega
      rw [hw]; clear hw
      go_enter Tryd.func48, Tryd.ntmps48
      go_wp2_with fail
      go_ret
      exact ⟨rfl, rfl⟩
  · have hw : Bt.wide w = false := by unfold Bt.wide; simp; omega
    have h4 : decide (64 ≤ w) = false := by simp; omega
    rw [hw]; clear hw
    go_enter Tryd.func48, Tryd.ntmps48
    go_wp2_with fail
    go_ret
    exact ⟨rfl, rfl⟩

theorem Bt.wide_in {w : Int} (h : Bt.wide w = true) : 64 ≤ w ∧ w ≤ 1024 ∧ w % 64 = 0 := by unfold Bt.wide at h; simpa using h

theorem chunked_any (w m : Int) (W : World) :
    Calls Tryd.prog 36 #[.int .i64 w, .int .i64 m] W fun e W' => e = .returned (.int .i64 (Bt.err w m : Nat)) ∧ W = W' := by
  obtain ⟨c, hc⟩ : ∃ c, Bt.err w m = c := ⟨_, rfl⟩
  obtain ⟨q, hq⟩ : ∃ q, Bt.wide w = q := ⟨_, rfl⟩
  have hi := isWidth_any w W
  rw [hc]
  unfold Bt.err at hc
  rw [hq] at hc hi
  have HI := Lib.hid hi
  cases q
  · simp at hc
    subst hc
    clear hq hi
    go_enter Tryd.func36, Tryd.ntmps36
    go_wp2_with fail
    refine HI.out.mono ?_
    rintro e W' ⟨rfl, rfl⟩
    go_wp2_with fail
    go_ret
    exact ⟨rfl, rfl⟩
  · obtain ⟨h1, h2, _⟩ := Bt.wide_in hq
    have HC := Lib.hid hc
    clear hq hi hc
    by_cases ha : m < (w + 31) / 32
    · go_enter Tryd.func36, Tryd.ntmps36
      go_wp2_with fail
      refine HI.out.mono ?_
      rintro e W' ⟨rfl, rfl⟩
      go_wp2_with fail
      go_ret
      exact ⟨by rw [← HC.out, if_neg (by decide), if_pos (.inl ha)]; rfl, rfl⟩
    · have ha' : decide (m < (w + 31) / 32) = false := decide_eq_false ha
      by_cases hb : w / 8 < m
      · go_enter Tryd.func36, Tryd.ntmps36
        go_wp2_with fail
        refine HI.out.mono ?_
        rintro e W' ⟨rfl, rfl⟩
        go_wp2_with fail
        go_ret
        exact ⟨by rw [← HC.out, if_neg (by decide), if_pos (.inr hb)]; rfl, rfl⟩
      · have hb' : decide (w / 8 < m) = false := decide_eq_false hb
        go_enter Tryd.func36, Tryd.ntmps36
        go_wp2_with fail
        refine HI.out.mono ?_
        rintro e W' ⟨rfl, rfl⟩
        go_wp2_with fail
        go_ret
        exact ⟨by rw [← HC.out, if_neg (by decide), if_neg (by omega)]; rfl, rfl⟩
end Go.Proofs.YtlfeibaghfcpaaaDoor
