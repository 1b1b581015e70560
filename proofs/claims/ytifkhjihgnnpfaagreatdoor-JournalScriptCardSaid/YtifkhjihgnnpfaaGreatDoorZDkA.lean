/- Texts: lists of bytes as strings, and comparisons. No conditions but each theorem's own. -/
import Derived.Test.YtifkhjihgnnpfaaGreatDoorProg
import Derived.WalkKit
import Derived.Lib.Hide
import Derived.LoopTactic
import Derived.IntWalk
import Derived.Below
namespace Go.Proofs.YtifkhjihgnnpfaaGreatDoor
open Go.RowKit

theorem Tx.of (l : List UInt8) : ∃ b : ByteArray, b.data.toList = l ∧ b.size = l.length := ⟨⟨l.toArray⟩, rfl, by simp [ByteArray.size]⟩
theorem Tx.size (b : ByteArray) : b.size = b.data.toList.length := (Array.length_toList).symm
theorem Tx.ext {a b : ByteArray} (h : a.data.toList = b.data.toList) : a = b := by
  obtain ⟨⟨a⟩⟩ := a
  obtain ⟨⟨b⟩⟩ := b
  simp at h
  subst h
  rfl
theorem Tx.append (a b : ByteArray) : (a ++ b).data.toList = a.data.toList ++ b.data.toList := by simp [ByteArray.data_append]
theorem Tx.extract (a : ByteArray) (i j : Nat) : (a.extract i j).data.toList = (a.data.toList.drop i).take (j - i) := by
  rw [ByteArray.data_extract, Array.toList_extract, List.extract]
theorem Tx.beq (a b : ByteArray) : (a.toList == b.toList) = decide (a.data.toList = b.data.toList) := by
  rw [ByteArray.toList_eq, ByteArray.toList_eq]
  by_cases h : a.data.toList = b.data.toList
  · rw [h]; simp
  · rw [decide_eq_false h]; simpa using h
/-- A list of bytes as a value. -/
def Tx.v (l : List UInt8) : Value := .string ⟨l.toArray⟩
theorem Tx.v_eq {b : ByteArray} {l : List UInt8} (h : b.data.toList = l) : Tx.v l = .string b := by
  subst h
  exact congrArg Value.string (Tx.ext rfl)
end Go.Proofs.YtifkhjihgnnpfaaGreatDoor
/- Disks: names of files; contracts of isName and of the document's named. Conditions: each theorem's own hypotheses. -/
namespace Go.Proofs.YtifkhjihgnnpfaaGreatDoor
open Go.RowKit
set_option linter.unusedVariables false

/-- May this byte stand in a name? -/
def Dk.ch (c : UInt8) : Bool := decide (c.toNat = 46 ∨ (97 ≤ c.toNat ∧ c.toNat ≤ 122) ∨ (48 ≤ c.toNat ∧ c.toNat ≤ 57))
/-- Is it a name? -/
def Dk.named (l : List UInt8) : Bool := l.all Dk.ch && decide (1 ≤ l.length ∧ l.length ≤ 32)
theorem Dk.take_snoc (s : ByteArray) (k : Nat) (h : k < s.size) : s.data.toList.take (k + 1) = s.data.toList.take k ++ [s[k]] := by
  rw [List.take_succ_eq_append_getElem (by simpa using h)]; rfl
theorem Dk.named_bad {s : ByteArray} {k : Nat} (h : k < s.size) (hc : Dk.ch s[k] = false) : Dk.named s.data.toList = false := by
  have hm : s[k] ∈ s.data.toList := List.getElem_mem (l := s.data.toList) (by rw [← Tx.size]; exact h)
  have : s.data.toList.all Dk.ch = false := by
    rw [List.all_eq_false]
    exact ⟨_, hm, by rw [hc]; decide⟩
  unfold Dk.named
  rw [this]; rfl

set_option maxRecDepth 100000 in
set_option maxHeartbeats 2000000 in
theorem Dk.isName_any (s : ByteArray) (hs : s.size ≤ 9223372036854775807) (q : Bool) (hq : Dk.named s.data.toList = q) (W : World) :
    Calls Tryz.prog 93 #[.string s] W fun e W' => e = .returned (.bool q) ∧ W = W' := by
  have HQ := Lib.hid hq
  clear hq
  go_enter Tryz.func93, Tryz.ntmps93
  go_wp2_with fail
  go_loop [3] (fun i => ∃ k : Nat, k ≤ s.size ∧ i = .int .i64 k ∧ Hid ((s.data.toList.take k).all Dk.ch = true)) (fun i => s.size - (intOf i).toNat)
  case atStart => exact ⟨0, Nat.zero_le _, rfl, Lib.hid rfl⟩
  case round =>
    obtain ⟨k, hk, rfl, HA⟩ := hrel
    by_cases hlt : k < s.size
    · obtain ⟨c, hc⟩ : ∃ c, s[k] = c := ⟨_, rfl⟩
      have HC := Lib.hid hc
      by_cases p1 : c.toNat = 46 <;> by_cases p2 : c.toNat < 97 <;> by_cases p3 : 122 < c.toNat <;> by_cases p4 : c.toNat < 48 <;> by_cases p5 : 57 < c.toNat
      all_goals (first | (exfalso; omega) | skip)
      all_goals
        have HP := Lib.hid (show Dk.ch c = decide (c.toNat = 46 ∨ (97 ≤ c.toNat ∧ c.toNat ≤ 122) ∨ (48 ≤ c.toNat ∧ c.toNat ≤ 57)) from rfl)
        first | have u1 : ((c.toNat : Int) != 46) = true := by rw [bne_iff_ne]; omega
              | have u1 : ((c.toNat : Int) != 46) = false := by rw [bne_eq_false_iff_eq]; omega
        first | have u2 : decide ((c.toNat : Int) < 97) = true := by simp; omega
              | have u2 : decide ((c.toNat : Int) < 97) = false := by simp; omega
        first | have u3 : decide (122 < (c.toNat : Int)) = true := by simp; omega
              | have u3 : decide (122 < (c.toNat : Int)) = false := by simp; omega
        first | have u4 : decide ((c.toNat : Int) < 48) = true := by simp; omega
              | have u4 : decide ((c.toNat : Int) < 48) = false := by simp; omega
        first | have u5 : decide (57 < (c.toNat : Int)) = true := by simp; omega
              | have u5 : decide (57 < (c.toNat : Int)) = false := by simp; omega
        have hch : Hid (Dk.ch c = true) ∨ Hid (Dk.ch c = false) := by
          rw [HP.out]
          first | exact .inl (Lib.hid (decide_eq_true (by omega))) | exact .inr (Lib.hid (decide_eq_false (by omega)))
        clear HP
        rcases hch with H | H
        · first
            | (exfalso; have h := of_decide_eq_true H.out; omega)
            | (clear p1 p2 p3 p4 p5
               go_wp2_with fail
               go_round
               case rel => exact ⟨k + 1, by omega, by go_num, Lib.hid (by rw [Dk.take_snoc s k hlt, List.all_append, HA.out, HC.out]; simp [H.out])⟩
               case measure => simp [intOf]; omega)
        · first
            | (exfalso; have h := of_decide_eq_false H.out; omega)
            | (have hb := Dk.named_bad hlt (by rw [HC.out]; exact H.out)
               rw [HQ.out] at hb
               subst hb
               clear p1 p2 p3 p4 p5
               go_wp2_with fail
               go_ret
               exact ⟨rfl, rfl⟩)
    · obtain rfl : k = s.size := by omega
      have ha := HA.out
      rw [Tx.size, List.take_length] at ha
      have hq := HQ.out
      unfold Dk.named at hq
      rw [ha, Bool.true_and, ← Tx.size] at hq
      clear ha HA HQ
      have HQ := Lib.hid hq
      clear hq
      by_cases l1 : 1 ≤ s.size
      · go_wp2_with fail
        go_ret
        refine ⟨?_, rfl⟩
        have hq := HQ.out
        subst hq
        refine congrArg (fun z => Ending.returned (Value.bool z)) ?_
        rw [decide_eq_decide]
        omega
      · have hq := HQ.out
        rw [decide_eq_false (fun h => l1 h.1)] at hq
        subst hq
        clear HQ
        have l2 : s.size = 0 := by omega
        clear l1
        have L2 := Lib.hid l2
        have v1 : decide ((1 : Int) ≤ (s.size : Int)) = false := decide_eq_false (by omega)
        clear l2
        go_wp2_with fail
        go_ret
        exact ⟨rfl, rfl⟩
set_option maxRecDepth 100000 in
set_option maxHeartbeats 2000000 in
theorem Dk.refNamed_any (s : ByteArray) (hs : s.size ≤ 9223372036854775807) (q : Bool) (hq : Dk.named s.data.toList = q) (W : World) :
    Calls Tryz.prog 94 #[.string s] W fun e W' => e = .returned (.bool q) ∧ W = W' := by
  have HQ := Lib.hid hq
  clear hq
  go_enter Tryz.func94, Tryz.ntmps94
  by_cases l1 : 1 ≤ s.size
  · by_cases l2 : s.size ≤ 32
    · have u1 : decide ((s.size : Int) < 1) = false := decide_eq_false (by omega)
      have u2 : decide (32 < (s.size : Int)) = false := decide_eq_false (by omega)
      go_wp2_with fail
      go_loop [3] (fun i => ∃ k : Nat, k ≤ s.size ∧ i = .int .i64 k ∧ Hid ((s.data.toList.take k).all Dk.ch = true)) (fun i => s.size - (intOf i).toNat)
      case atStart => exact ⟨0, Nat.zero_le _, rfl, Lib.hid rfl⟩
      case round =>
        obtain ⟨k, hk, rfl, HA⟩ := hrel
        by_cases hlt : k < s.size
        · obtain ⟨c, hc⟩ : ∃ c, s[k] = c := ⟨_, rfl⟩
          have HC := Lib.hid hc
          by_cases p1 : c.toNat = 46 <;> by_cases p2 : c.toNat < 97 <;> by_cases p3 : 122 < c.toNat <;> by_cases p4 : c.toNat < 48 <;> by_cases p5 : 57 < c.toNat
          all_goals (first | (exfalso; omega) | skip)
          all_goals
            have HP := Lib.hid (show Dk.ch c = decide (c.toNat = 46 ∨ (97 ≤ c.toNat ∧ c.toNat ≤ 122) ∨ (48 ≤ c.toNat ∧ c.toNat ≤ 57)) from rfl)
            first | have u1 : ((c.toNat : Int) != 46) = true := by rw [bne_iff_ne]; omega
                  | have u1 : ((c.toNat : Int) != 46) = false := by rw [bne_eq_false_iff_eq]; omega
            first | have u2 : decide ((c.toNat : Int) < 97) = true := by simp; omega
                  | have u2 : decide ((c.toNat : Int) < 97) = false := by simp; omega
            first | have u3 : decide (122 < (c.toNat : Int)) = true := by simp; omega
                  | have u3 : decide (122 < (c.toNat : Int)) = false := by simp; omega
            first | have u4 : decide ((c.toNat : Int) < 48) = true := by simp; omega
                  | have u4 : decide ((c.toNat : Int) < 48) = false := by simp; omega
            first | have u5 : decide (57 < (c.toNat : Int)) = true := by simp; omega
                  | have u5 : decide (57 < (c.toNat : Int)) = false := by simp; omega
            have hch : Hid (Dk.ch c = true) ∨ Hid (Dk.ch c = false) := by
              rw [HP.out]
              first | exact .inl (Lib.hid (decide_eq_true (by omega))) | exact .inr (Lib.hid (decide_eq_false (by omega)))
            clear HP
            rcases hch with H | H
            · first
                | (exfalso; have h := of_decide_eq_true H.out; omega)
                | (clear p1 p2 p3 p4 p5
                   go_wp2_with fail
                   go_round
                   case rel => exact ⟨k + 1, by omega, by go_num, Lib.hid (by rw [Dk.take_snoc s k hlt, List.all_append, HA.out, HC.out]; simp [H.out])⟩
                   case measure => simp [intOf]; omega)
            · first
                | (exfalso; have h := of_decide_eq_false H.out; omega)
                | (have hb := Dk.named_bad hlt (by rw [HC.out]; exact H.out)
                   rw [HQ.out] at hb
                   subst hb
                   clear p1 p2 p3 p4 p5
                   go_wp2_with fail
                   go_ret
                   exact ⟨rfl, rfl⟩)
        · obtain rfl : k = s.size := by omega
          have ha := HA.out
          rw [Tx.size, List.take_length] at ha
          have hq := HQ.out
          unfold Dk.named at hq
          rw [ha, Bool.true_and, ← Tx.size, decide_eq_true ⟨l1, l2⟩] at hq
          clear ha HA HQ
          subst hq
          go_wp2_with fail
          go_ret
          exact ⟨rfl, rfl⟩
    · have hq := HQ.out
      unfold Dk.named at hq
      rw [← Tx.size, decide_eq_false (fun h => l2 h.2), Bool.and_false] at hq
      subst hq
      have u1 : decide ((s.size : Int) < 1) = false := decide_eq_false (by omega)
      have u2 : decide (32 < (s.size : Int)) = true := decide_eq_true (by omega)
      clear HQ l1 l2
      go_wp2_with fail
      go_ret
      exact ⟨rfl, rfl⟩
  · have hq := HQ.out
    unfold Dk.named at hq
    rw [← Tx.size, decide_eq_false (fun h => l1 h.1), Bool.and_false] at hq
    subst hq
    have u1 : decide ((s.size : Int) < 1) = true := decide_eq_true (by omega)
    clear HQ l1
    go_wp2_with fail
    go_ret
    exact ⟨rfl, rfl⟩
end Go.Proofs.YtifkhjihgnnpfaaGreatDoor
