/- Contracts of journal.goes and journal.stored. Conditions: each theorem's own hypotheses. -/
import Derived.Test.YthhkebkpophkiaaDoorJnN
import Derived.Test.YthhkebkpophkiaaDoorJnB
import Derived.Test.YthhkebkpophkiaaDoorJlA
import Derived.Test.YthhkebkpophkiaaDoorDkH
namespace Go.Proofs.YthhkebkpophkiaaDoor
open Go.RowKit
set_option linter.unusedVariables false

/-- Is it a width? -/
def Jn.wideB (l : Int) : Bool := decide (64 ≤ l) && decide (l ≤ 1024) && (((l.toNat % 64 : Nat) : Int) == 0)
theorem wide_any (l : Int) (w : World) :
    Calls Tryd.prog 69 #[.int .i64 l] w fun e w' => e = .returned (.bool (Jn.wideB l)) ∧ w = w' := by
  unfold Jn.wideB
  by_cases h1 : 64 ≤ l
  rotate_left
  · rw [decide_eq_false h1]
    exact wide_low l w (by omega)
  by_cases h2 : l ≤ 1024
  rotate_left
  · rw [decide_eq_false h2, Bool.and_false]
    exact wide_high l w (by omega)
  obtain ⟨n, rfl⟩ := Int.eq_ofNat_of_zero_le (show 0 ≤ l by omega)
  rw [decide_eq_true h1, decide_eq_true h2]
  exact wide_mid n w (by omega) (by omega) _ rfl
/-- Why there can be no such journal. -/
def Jn.goesE (n sq l : Int) : Int := if n < 1 ∨ 1099511627776 < n then 13 else if Jn.wideB l = false then 10 else if sq < 0 ∨ 1152921504606846976 < sq then 51 else 0
theorem Jn.goesE_zero {n sq l : Int} (h : Jn.goesE n sq l = 0) : (1 ≤ n ∧ n ≤ 1099511627776) ∧ Jn.wideB l = true ∧ (0 ≤ sq ∧ sq ≤ 1152921504606846976) := by
  unfold Jn.goesE at h
  split at h
  · omega
  · split at h
    · omega
    · rename_i h2
      split at h
      · omega
      · exact ⟨by omega, by cases hb : Jn.wideB l with | true => rfl | false => exact absurd hb h2, by omega⟩
theorem Jn.wideB_true {l : Int} (h : Jn.wideB l = true) : 64 ≤ l ∧ l ≤ 1024 ∧ l.toNat % 64 = 0 := by
  unfold Jn.wideB at h
  rw [Bool.and_eq_true, Bool.and_eq_true, decide_eq_true_iff, decide_eq_true_iff, beq_iff_eq] at h
  exact ⟨h.1.1, h.1.2, by omega⟩

set_option maxRecDepth 100000 in
theorem Jl.goes_any (n sq l : Int) (w : World) (hT : PowT w) :
    Calls Tryd.prog 43 #[.int .i64 n, .int .i64 sq, .int .i64 l] w fun e w' => e = .returned (.int .i64 (Jn.goesE n sq l)) ∧ Below w.heap.size w w' := by
  obtain ⟨S, hS, hSd, hSs⟩ := str_of (Jn.name n)
  have k1 := name_any n w hT S hS
  have k2 := fun w => wide_any l w
  unfold Jn.goesE
  by_cases h1 : n < 1 ∨ 1099511627776 < n
  · rw [if_pos h1]
    have q1 : S.toList.isEmpty = true := by
      unfold Jn.name at hSd
      rw [if_pos h1] at hSd
      rw [ByteArray.toList_eq, hSd]
      rfl
    clear hS hSd hSs h1
    go_enter Tryd.func43, Tryd.ntmps43
    go_wp2_with (go_at_call 45; refine k1.mono ?_; rintro e w' ⟨rfl, hB⟩)
    go_ret
    exact ⟨rfl, hB⟩
  rw [if_neg h1]
  have q1 : S.toList.isEmpty = false := by
    unfold Jn.name at hSd
    rw [if_neg h1] at hSd
    rw [ByteArray.toList_eq, hSd]
    rfl
  clear hS hSd hSs h1
  cases hw : Jn.wideB l with
  | false =>
    rw [hw] at k2
    rw [if_pos rfl]
    clear hw
    go_enter Tryd.func43, Tryd.ntmps43
    go_wp2_with (first
      | (go_at_call 45; refine k1.mono ?_; rintro e w' ⟨rfl, hB⟩)
      | (go_at_call 69; refine (k2 _).mono ?_; rintro e w' ⟨rfl, rfl⟩))
    go_ret
    exact ⟨rfl, hB⟩
  | true =>
    rw [hw] at k2
    rw [if_neg (by decide)]
    clear hw
    by_cases h2 : sq < 0
    · have q2 : decide (sq < 0) = true := decide_eq_true h2
      rw [if_pos (.inl h2)]
      go_enter Tryd.func43, Tryd.ntmps43
      go_wp2_with (first
        | (go_at_call 45; refine k1.mono ?_; rintro e w' ⟨rfl, hB⟩)
        | (go_at_call 69; refine (k2 _).mono ?_; rintro e w' ⟨rfl, rfl⟩))
      go_ret
      exact ⟨rfl, hB⟩
    have q2 : decide (sq < 0) = false := decide_eq_false h2
    by_cases h3 : 1152921504606846976 < sq
    · have q3 : decide (1152921504606846976 < sq) = true := decide_eq_true h3
      rw [if_pos (.inr h3)]
      go_enter Tryd.func43, Tryd.ntmps43
      go_wp2_with (first
        | (go_at_call 45; refine k1.mono ?_; rintro e w' ⟨rfl, hB⟩)
        | (go_at_call 69; refine (k2 _).mono ?_; rintro e w' ⟨rfl, rfl⟩))
      go_ret
      exact ⟨rfl, hB⟩
    have q3 : decide (1152921504606846976 < sq) = false := decide_eq_false h3
    rw [if_neg (by omega)]
    go_enter Tryd.func43, Tryd.ntmps43
    go_wp2_with (first
      | (go_at_call 45; refine k1.mono ?_; rintro e w' ⟨rfl, hB⟩)
      | (go_at_call 69; refine (k2 _).mono ?_; rintro e w' ⟨rfl, rfl⟩))
    go_ret
    exact ⟨rfl, hB⟩

/-- What a file's bytes are told as. -/
def Jl.storedV (m : Dk.M) (nm : List UInt8) : Value := if Dk.code m nm = 0 then .tuple #[Tx.v (Dk.data m nm), .int .i64 0] else .tuple #[Tx.v [], .int .i64 (Dk.code m nm)]
theorem Jl.data_len {m : Dk.M} (hG : Dk.Good m) (nm : List UInt8) : (Dk.data m nm).length ≤ 268435456 := by
  unfold Dk.data
  cases hg : Dk.get Dk.F.name nm m.files with
  | none => exact Nat.zero_le _
  | some f => exact (hG.file f (Dk.get_mem hg).1).2.1
set_option maxRecDepth 100000 in
theorem Jl.stored_any {W : World} {d : Nat} {m : Dk.M} {F : Nat → Prop} (h : Dk.At W d m F) (hG : Dk.Good m) (s : ByteArray) (hs : s.size ≤ 9223372036854775807) :
    Calls Tryd.prog 44 #[.pointer (some ⟨d, 0, none⟩), .string s] W fun e W' => e = .returned (Jl.storedV m s.data.toList) ∧ W = W' := by
  have k1 := Dk.size_any h s hs
  have hl := Jl.data_len hG s.data.toList
  have k2 := Dk.read_any h hG s hs 0 (Dk.data m s.data.toList).length (by omega) (by omega)
  unfold Dk.sizeV at k1
  unfold Dk.readV at k2
  unfold Jl.storedV
  obtain ⟨c, hc⟩ : ∃ c, Dk.code m s.data.toList = c := ⟨_, rfl⟩
  rw [hc] at k1 k2 ⊢
  by_cases h0 : c = 0
  · subst h0
    rw [if_pos rfl] at k1 k2 ⊢
    rw [if_neg (by omega), Int.toNat_zero, List.drop_zero, Int.toNat_natCast, List.take_length] at k2
    obtain ⟨n, hn⟩ : ∃ n, (Dk.data m s.data.toList).length = n := ⟨_, rfl⟩
    obtain ⟨D, hD, _⟩ := Tx.of (Dk.data m s.data.toList)
    rw [hn] at k1 k2
    rw [Tx.v_eq hD] at k2 ⊢
    clear hc hl hn hD
    go_enter Tryd.func44, Tryd.ntmps44
    go_wp2_with (first
      | (go_at_call 20; refine k1.mono ?_; rintro e w' ⟨rfl, rfl⟩)
      | (go_at_call 70; refine k2.mono ?_; rintro e w' ⟨rfl, rfl⟩))
    go_ret2
    exact ⟨rfl, rfl⟩
  · rw [if_neg h0] at k1 k2 ⊢
    have q1 : (c != 0) = true := bne_iff_ne.2 h0
    clear hc hl k2 h0
    go_enter Tryd.func44, Tryd.ntmps44
    go_wp2_with (go_at_call 20; refine k1.mono ?_; rintro e w' ⟨rfl, rfl⟩)
    go_ret2
    exact ⟨rfl, rfl⟩
#print axioms Jl.goes_any
#print axioms Jl.stored_any
end Go.Proofs.YthhkebkpophkiaaDoor
