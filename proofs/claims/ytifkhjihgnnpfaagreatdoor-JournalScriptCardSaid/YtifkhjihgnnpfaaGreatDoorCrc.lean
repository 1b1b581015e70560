/- The check sum CRC-32C: by bits and by half bytes: plain mathematics. No conditions but each theorem's own. -/

namespace Go.Proofs.YtifkhjihgnnpfaaGreatDoor.Sl
/-- One bit of the check sum. -/
def stp (r : Nat) : Nat := r / 2 ^^^ (if r % 2 = 1 then 2197175160 else 0)

theorem xor_half (a b : Nat) : (a ^^^ b) / 2 = a / 2 ^^^ b / 2 := by
  have := Nat.xor_div_two_pow (a := a) (b := b) (n := 1)
  simpa using this
theorem xor_low (a b : Nat) : (a ^^^ b) % 2 = (a + b) % 2 := by
  have := Nat.xor_mod_two_pow (a := a) (b := b) (n := 1)
  simp only [Nat.pow_one] at this
  rw [this]
  rcases Nat.mod_two_eq_zero_or_one a with ha | ha <;> rcases Nat.mod_two_eq_zero_or_one b with hb | hb <;> rw [ha, hb] <;> simp <;> omega

theorem xor_four (a b c d : Nat) : (a ^^^ b) ^^^ (c ^^^ d) = (a ^^^ c) ^^^ (b ^^^ d) := by
  rw [Nat.xor_assoc, Nat.xor_assoc]
  congr 1
  rw [← Nat.xor_assoc, Nat.xor_comm b c, Nat.xor_assoc]

theorem stp_xor (a b : Nat) : stp (a ^^^ b) = stp a ^^^ stp b := by
  unfold stp
  rw [xor_half, xor_low, xor_four]
  congr 1
  rcases Nat.mod_two_eq_zero_or_one a with ha | ha <;> rcases Nat.mod_two_eq_zero_or_one b with hb | hb
  · rw [if_neg (by omega), if_neg (by omega), if_neg (by omega)]; rfl
  · rw [if_pos (by omega), if_neg (by omega), if_pos (by omega), Nat.zero_xor]
  · rw [if_pos (by omega), if_pos (by omega), if_neg (by omega), Nat.xor_zero]
  · rw [if_neg (by omega), if_pos (by omega), if_pos (by omega), Nat.xor_self]

theorem stp_even (q : Nat) : stp (2 * q) = q := by
  unfold stp
  rw [if_neg (by omega), Nat.xor_zero]; omega

/-- What each half byte does. -/
def crcT : List Nat := [0, 274646895, 549293790, 820201905, 1098587580, 1361435347, 1640403810, 1905808397, 2197175160, 2460548119, 2722870694, 2987750089, 3280807620, 3553878443, 3811616794, 4084100981]

theorem crcT_all : ∀ c, c < 16 → stp (stp (stp (stp c))) = crcT.getD c 0 := by decide

def stp4 (r : Nat) : Nat := stp (stp (stp (stp r)))

theorem stp4_eq (r : Nat) : stp4 r = r / 16 ^^^ crcT.getD (r % 16) 0 := by
  have e : r = (2 * (2 * (2 * (2 * (r / 16))))) ^^^ (r % 16) := by
    have h := Nat.xor_div_two_pow (a := 16 * (r / 16)) (b := r % 16) (n := 4)
    have h2 := Nat.xor_mod_two_pow (a := 16 * (r / 16)) (b := r % 16) (n := 4)
    simp only [show (2 : Nat) ^ 4 = 16 from rfl] at h h2
    rw [Nat.mul_div_cancel_left _ (by decide : 0 < 16), Nat.div_eq_of_lt (Nat.mod_lt r (by decide : 0 < 16)), Nat.xor_zero] at h
    rw [Nat.mul_mod_right, Nat.mod_mod, Nat.zero_xor] at h2
    have : 2 * (2 * (2 * (2 * (r / 16)))) = 16 * (r / 16) := by omega
    rw [this]
    omega
  unfold stp4
  conv => lhs; rw [e]
  rw [stp_xor, stp_xor, stp_xor, stp_xor, stp_even, stp_even, stp_even, stp_even, crcT_all _ (Nat.mod_lt _ (by decide))]

/-- The register behind a byte. -/
def crcB (r c : Nat) : Nat := stp4 (stp4 (r ^^^ c))
/-- The register behind some bytes. -/
def crcR (r : Nat) (l : List UInt8) : Nat := l.foldl (fun r c => crcB r c.toNat) r
/-- The check sum of bytes that go on from a sum. -/
def crcOn (s : Nat) (l : List UInt8) : Nat := crcR (s ^^^ 4294967295) l ^^^ 4294967295
def crc (l : List UInt8) : Nat := crcOn 0 l

theorem stp_lt (r : Nat) (h : r < 4294967296) : stp r < 4294967296 := by
  unfold stp
  have : r / 2 < 2 ^ 32 := by omega
  split
  · exact Nat.xor_lt_two_pow this (by decide)
  · rw [Nat.xor_zero]; omega
theorem stp4_lt (r : Nat) (h : r < 4294967296) : stp4 r < 4294967296 := stp_lt _ (stp_lt _ (stp_lt _ (stp_lt _ h)))
theorem xor_lt {a b : Nat} (ha : a < 4294967296) (hb : b < 4294967296) : a ^^^ b < 4294967296 := Nat.xor_lt_two_pow (n := 32) ha hb
theorem crcB_lt (r c : Nat) (h : r < 4294967296) (hc : c < 4294967296) : crcB r c < 4294967296 := stp4_lt _ (stp4_lt _ (xor_lt h hc))
theorem crcR_lt : ∀ (l : List UInt8) (r : Nat), r < 4294967296 → crcR r l < 4294967296
  | [], r, h => h
  | c :: l, r, h => crcR_lt l _ (crcB_lt r c.toNat h (by have := c.toNat_lt; omega))
theorem crcOn_lt (s : Nat) (l : List UInt8) (h : s < 4294967296) : crcOn s l < 4294967296 := xor_lt (crcR_lt l _ (xor_lt h (by decide))) (by decide)
theorem crcR_snoc (r : Nat) (l : List UInt8) (c : UInt8) : crcR r (l ++ [c]) = crcB (crcR r l) c.toNat := by unfold crcR; rw [List.foldl_append]; rfl
end Go.Proofs.YtifkhjihgnnpfaaGreatDoor.Sl
