/- The check sum tells a byte that was changed; frames cut off or changed are no frames. No conditions but each theorem's own. -/
import Derived.Test.YtdhnkcfmjibibaaGreatDoorPv
namespace Go.Proofs.YtdhnkcfmjibibaaGreatDoor.Sl
set_option linter.unusedVariables false

theorem xor_zero_eq {a b : Nat} (h : a ^^^ b = 0) : a = b := by
  have := congrArg (· ^^^ b) h
  simpa [Nat.xor_assoc] using this
theorem stp_zero (x : Nat) (h : x < 4294967296) (h0 : stp x = 0) : x = 0 := by
  unfold stp at h0
  by_cases h1 : x % 2 = 1
  · rw [if_pos h1] at h0
    have : x / 2 = 2197175160 := xor_zero_eq h0
    omega
  · rw [if_neg h1, Nat.xor_zero] at h0
    omega
theorem stp4_zero (x : Nat) (h : x < 4294967296) (h0 : stp4 x = 0) : x = 0 :=
  stp_zero _ h (stp_zero _ (stp_lt _ h) (stp_zero _ (stp_lt _ (stp_lt _ h)) (stp_zero _ (stp_lt _ (stp_lt _ (stp_lt _ h))) h0)))
theorem stp4_xor (a b : Nat) : stp4 (a ^^^ b) = stp4 a ^^^ stp4 b := by
  unfold stp4
  rw [stp_xor, stp_xor, stp_xor, stp_xor]
/-- Registers that agree behind a byte agreed ahead of it (the byte xored in). -/
theorem crcB_inj {r c r' c' : Nat} (h : r < 4294967296) (h' : r' < 4294967296) (hc : c < 256) (hc' : c' < 256) (e : crcB r c = crcB r' c') : r ^^^ c = r' ^^^ c' := by
  unfold crcB at e
  have hx := xor_lt (xor_lt h (show c < 4294967296 by omega)) (xor_lt h' (show c' < 4294967296 by omega))
  have e2 : stp4 (stp4 ((r ^^^ c) ^^^ (r' ^^^ c'))) = 0 := by
    rw [stp4_xor, stp4_xor, e, Nat.xor_self]
  exact xor_zero_eq (stp4_zero _ hx (stp4_zero _ (stp4_lt _ hx) e2))
theorem crcR_inj : ∀ (l : List UInt8) (r r' : Nat), r < 4294967296 → r' < 4294967296 → crcR r l = crcR r' l → r = r'
  | [], r, r', _, _, e => e
  | c :: l, r, r', h, h', e => by
    have h2 := crcR_inj l (crcB r c.toNat) (crcB r' c.toNat) (crcB_lt _ _ h (by have := c.toNat_lt; omega)) (crcB_lt _ _ h' (by have := c.toNat_lt; omega)) e
    have h3 := crcB_inj h h' c.toNat_lt c.toNat_lt h2
    have h4 := congrArg (· ^^^ c.toNat) h3
    simpa [Nat.xor_assoc] using h4
theorem crcR_append (r : Nat) (a b : List UInt8) : crcR r (a ++ b) = crcR (crcR r a) b := List.foldl_append
/-- One byte changed: another sum. -/
theorem crc_one (a b : List UInt8) (c c' : UInt8) (e : crc (a ++ c :: b) = crc (a ++ c' :: b)) : c = c' := by
  unfold crc crcOn at e
  have e1 := congrArg (· ^^^ 4294967295) e
  simp only [Nat.xor_assoc, Nat.xor_self, Nat.xor_zero] at e1
  rw [crcR_append, crcR_append] at e1
  have hr := crcR_lt a (0 ^^^ 4294967295) (by decide)
  have e2 := crcR_inj b _ _ (crcB_lt _ _ hr (by have := c.toNat_lt; omega)) (crcB_lt _ _ hr (by have := c'.toNat_lt; omega)) e1
  have e3 := crcB_inj hr hr c.toNat_lt c'.toNat_lt e2
  have e4 := congrArg (crcR (0 ^^^ 4294967295) a ^^^ ·) e3
  simp only [← Nat.xor_assoc, Nat.xor_self, Nat.zero_xor] at e4
  exact UInt8.toNat_inj.1 e4
theorem crc_lt' (l : List UInt8) : crc l < 4294967296 := by
  unfold crc crcOn
  exact xor_lt (crcR_lt l _ (by decide)) (by decide)
theorem le4_inj {a b : Nat} (ha : a < 4294967296) (hb : b < 4294967296) (e : le4 a = le4 b) : a = b := by
  unfold le4 at e
  simp only [List.cons.injEq, and_true] at e
  obtain ⟨e0, e1, e2, e3⟩ := e
  have f0 := congrArg UInt8.toNat e0
  have f1 := congrArg UInt8.toNat e1
  have f2 := congrArg UInt8.toNat e2
  have f3 := congrArg UInt8.toNat e3
  rw [ofNat_toNat _ (by omega), ofNat_toNat _ (by omega)] at f0 f1 f2 f3
  omega
theorem summed_inj {a b : List UInt8} (e : summed a = summed b) : crc a = crc b := le4_inj (crc_lt' a) (crc_lt' b) e

/-- A frame of a kind: the first six bytes tell its length. -/
theorem frame_six (k : Nat) (p : List UInt8) : (frame k p).take 6 = head k p.length := by
  unfold frame
  rw [List.append_assoc, List.append_assoc, List.take_left' (head_len k p.length)]
theorem be4_inj {a b : Nat} (ha : a ≤ 65536) (hb : b ≤ 65536) (e : be 4 a = be 4 b) : a = b := by
  rw [← beNum_be4 a (by omega), e, beNum_be4 b (by omega)]
theorem head_inj {k a b : Nat} (ha : a ≤ 65536) (hb : b ≤ 65536) (e : head k a = head k b) : a = b := by
  unfold head at e
  exact be4_inj ha hb (List.append_cancel_left e)
/-- Cut off: no frame is left. -/
theorem frame_cut (k : Nat) (p q : List UInt8) (n : Nat) (hp : p.length ≤ 65536) (hq : q.length ≤ 65536) (hn : n < (frame k p).length) (e : (frame k p).take n = frame k q) : False := by
  have hl := congrArg List.length e
  rw [List.length_take, frame_len, frame_len] at hl
  rw [frame_len] at hn
  have h6 := congrArg (List.take 6) e
  rw [List.take_take, Nat.min_eq_left (by omega), frame_six, frame_six] at h6
  have := head_inj hp hq h6
  omega
theorem split_at {p x a b : List UInt8} {c : UInt8} (e : p ++ x = a ++ c :: b) (h : a.length < p.length) : ∃ p2, p = a ++ c :: p2 := by
  rcases List.append_eq_append_iff.1 e with ⟨r, h1, _⟩ | ⟨r, h1, h2⟩
  · have := congrArg List.length h1
    rw [List.length_append] at this
    omega
  · cases r with
    | nil =>
      rw [List.append_nil] at h1
      rw [h1] at h
      omega
    | cons d r =>
      injection h2 with h3 _
      subst h3
      exact ⟨r, h1⟩
/-- One byte changed: no frame. -/
theorem frame_one (k : Nat) (p q a b : List UInt8) (c c' : UInt8) (hp : p.length ≤ 65536) (hq : q.length ≤ 65536) (e : frame k p = a ++ c :: b) (e' : frame k q = a ++ c' :: b) : c = c' := by
  have hl := congrArg List.length e
  have hl' := congrArg List.length e'
  rw [frame_len, List.length_append, List.length_cons] at hl hl'
  have hpq : p.length = q.length := by omega
  obtain ⟨n, hn⟩ : ∃ n, p.length = n := ⟨_, rfl⟩
  have hqn : q.length = n := by omega
  obtain ⟨h, hh⟩ : ∃ h, head k n = h := ⟨_, rfl⟩
  have hhl : h.length = 6 := by rw [← hh]; exact head_len k n
  unfold frame at e e'
  rw [hn, hh] at e
  rw [hqn, hh] at e'
  have hsl : (summed h).length = 4 := rfl
  obtain ⟨H, hH⟩ : ∃ H, h ++ summed h = H := ⟨_, rfl⟩
  have hHl : H.length = 10 := by rw [← hH, List.length_append]; omega
  rw [hH, List.append_assoc] at e e'
  by_cases hc1 : a.length < 10
  · have g := congrArg (fun l => l[a.length]?) e
    have g' := congrArg (fun l => l[a.length]?) e'
    rw [List.getElem?_append_left (by omega), List.getElem?_append_right (Nat.le_refl _), Nat.sub_self] at g g'
    rw [g] at g'
    exact Option.some.inj g'
  · obtain ⟨a2, ha2⟩ : ∃ a2, a = H ++ a2 := by
      refine ⟨a.drop 10, ?_⟩
      have t := congrArg (List.take 10) e
      rw [List.take_left' hHl, List.take_append_of_le_length (by omega)] at t
      rw [t, List.take_append_drop]
    subst ha2
    rw [List.append_assoc] at e e'
    have e1 := List.append_cancel_left e
    have e1' := List.append_cancel_left e'
    by_cases hc2 : a2.length < n
    · obtain ⟨p2, hp2⟩ : ∃ p2, p = a2 ++ c :: p2 := split_at e1 (by omega)
      obtain ⟨q2, hq2⟩ : ∃ q2, q = a2 ++ c' :: q2 := split_at e1' (by omega)
      have l1 : p2.length = q2.length := by
        have := congrArg List.length hp2
        have := congrArg List.length hq2
        simp only [List.length_append, List.length_cons] at *
        omega
      rw [hp2] at e1
      rw [hq2] at e1'
      rw [List.append_assoc, List.cons_append] at e1 e1'
      have e3 := List.append_cancel_left e1
      have e3' := List.append_cancel_left e1'
      injection e3 with _ e4
      injection e3' with _ e4'
      rw [← e4'] at e4
      obtain ⟨e5, e6⟩ := List.append_inj e4 l1
      subst e5
      have e7 := summed_inj e6
      rw [← List.append_assoc, ← List.append_assoc] at e7
      exact crc_one _ _ _ _ e7
    · have t := congrArg (List.take n) e1
      have t' := congrArg (List.take n) e1'
      rw [List.take_left' hn, List.take_append_of_le_length (by omega)] at t
      rw [List.take_left' hqn, List.take_append_of_le_length (by omega)] at t'
      have hpq2 : p = q := t.trans t'.symm
      subst hpq2
      rw [e1] at e1'
      have := List.append_cancel_left e1'
      injection this
end Go.Proofs.YtdhnkcfmjibibaaGreatDoor.Sl
