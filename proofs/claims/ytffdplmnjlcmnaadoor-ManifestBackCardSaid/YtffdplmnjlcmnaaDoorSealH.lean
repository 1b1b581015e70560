/- Contracts of the document's sumAt and begun. Conditions: each theorem's own hypotheses. -/
import Derived.Test.YtffdplmnjlcmnaaDoorSealG
import Derived.IntWalk
namespace Go.Proofs.YtffdplmnjlcmnaaDoor
open Go.RowKit

theorem or_up (i a x b : Nat) (hi : i ≤ 32) (ha : a < 2 ^ i) (hb : x * 2 ^ i < 4294967296) (hx : a + x * 2 ^ i = b) (y : Int) (hy : y = ((x * 2 ^ i : Nat) : Int)) : bits .or .u32 (a : Int) y = (b : Int) := by
  subst hy
  have hor : (a ||| x * 2 ^ i) = a + x * 2 ^ i := by
    rw [Nat.or_comm, nat_join i _ a (Nat.mul_mod_left _ _) ha, Nat.add_comm]
  have hal : a < 4294967296 := by
    have := Nat.pow_le_pow_right (n := 2) (by decide) hi
    have e : (2 : Nat) ^ 32 = 4294967296 := by decide
    omega
  rw [← hx, ← hor]
  exact u32_or_nat a (x * 2 ^ i) hal hb

theorem sumAt_any (s : ByteArray) (k : Nat) (b0 b1 b2 b3 : UInt8) (w : World) (hs : s.size ≤ 9223372036854775807) (hk : k + 4 ≤ s.size)
    (h0 : s[k] = b0) (h1 : s[k + 1] = b1) (h2 : s[k + 2] = b2) (h3 : s[k + 3] = b3) :
    Calls Tryd.prog 80 #[.string s, .int .i64 k] w fun e w' => e = .returned (.int .u32 ((b0.toNat + 256 * b1.toNat + 65536 * b2.toNat + 16777216 * b3.toNat : Nat) : Int)) ∧ ∃ n, w' = w.drewN n := by
  have l0 := b0.toNat_lt
  have l1 := b1.toNat_lt
  have l2 := b2.toNat_lt
  have l3 := b3.toNat_lt
  have i1 : IntKind.i64.wrap ((k : Int) + 1) = (k : Int) + 1 := IntWalk.i64_in _ (by omega)
  have i2 : IntKind.i64.wrap ((k : Int) + 2) = (k : Int) + 2 := IntWalk.i64_in _ (by omega)
  have i3 : IntKind.i64.wrap ((k : Int) + 3) = (k : Int) + 3 := IntWalk.i64_in _ (by omega)
  have j1 : 0 ≤ (k : Int) + 1 := by omega
  have j2 : 0 ≤ (k : Int) + 2 := by omega
  have j3 : 0 ≤ (k : Int) + 3 := by omega
  have t1 : ((k : Int) + 1).toNat = k + 1 := by omega
  have t2 : ((k : Int) + 2).toNat = k + 2 := by omega
  have t3 : ((k : Int) + 3).toNat = k + 3 := by omega
  have q0 : (k : Int) < (s.size : Int) := by omega
  have q1 : (k : Int) + 1 < (s.size : Int) := by omega
  have q2 : (k : Int) + 2 < (s.size : Int) := by omega
  have q3 : (k : Int) + 3 < (s.size : Int) := by omega
  have e1 : bits .or .u32 (b0.toNat : Int) ((b1.toNat : Int) * 256) = ((b0.toNat + 256 * b1.toNat : Nat) : Int) := or_up 8 b0.toNat b1.toNat _ (by decide) (by omega) (by omega) (by omega) _ (by omega)
  have e2 : bits .or .u32 ((b0.toNat + 256 * b1.toNat : Nat) : Int) ((b2.toNat : Int) * 65536) = ((b0.toNat + 256 * b1.toNat + 65536 * b2.toNat : Nat) : Int) := or_up 16 (b0.toNat + 256 * b1.toNat) b2.toNat _ (by decide) (by omega) (by omega) (by omega) _ (by omega)
  have e3 : bits .or .u32 ((b0.toNat + 256 * b1.toNat + 65536 * b2.toNat : Nat) : Int) ((b3.toNat : Int) * 16777216) = ((b0.toNat + 256 * b1.toNat + 65536 * b2.toNat + 16777216 * b3.toNat : Nat) : Int) := or_up 24 (b0.toNat + 256 * b1.toNat + 65536 * b2.toNat) b3.toNat _ (by decide) (by omega) (by omega) (by omega) _ (by omega)
  have E : Hid (bits .or .u32 (bits .or .u32 (bits .or .u32 (b0.toNat : Int) ((b1.toNat : Int) * 256)) ((b2.toNat : Int) * 65536)) ((b3.toNat : Int) * 16777216) = ((b0.toNat + 256 * b1.toNat + 65536 * b2.toNat + 16777216 * b3.toNat : Nat) : Int)) := by
    show _ = _
    rw [e1, e2, e3]
  clear e1 e2 e3
  go_enter Tryd.func80, Tryd.ntmps80
  go_wp2_with fail
  go_quiet (fail)
  go_wp2_with fail
  go_ret
  exact ⟨by rw [← E.out]; rfl, ⟨_, rfl⟩⟩
end Go.Proofs.YtffdplmnjlcmnaaDoor
