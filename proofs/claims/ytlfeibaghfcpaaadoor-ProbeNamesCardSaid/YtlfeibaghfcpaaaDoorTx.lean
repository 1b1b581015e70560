/- Texts: lists of bytes as strings, and comparisons. No conditions but each theorem's own. -/
import Derived.Test.YtlfeibaghfcpaaaDoorProg
import Derived.WalkKit
import Derived.Lib.Hide
namespace Go.Proofs.YtlfeibaghfcpaaaDoor
open Go.RowKit

theorem Tx.of (l : List UInt8) : ∃ b : ByteArray, b.data.toList = l ∧ b.size = l.length := ⟨⟨l.toArray⟩, rfl, by simp [ByteArray.size]⟩
theorem Tx.size (b : ByteArray) : b.size = b.data.toList.length := (Array.length_toList).symm
theorem Tx.ext {a b : ByteArray} (h : a.data.toList = b.data.toList) : a = b := by
  obtain ⟨⟨a⟩⟩ := a
  obtain ⟨⟨b⟩⟩ := b
  simp at h
  subst h
  rfl
theorem Tx.append (a b : ByteArray) : (a ++ b).data.toList = a.data.toList ++ b.data.toList := by simp [ByteArray.data_append]
theorem Tx.extract (a : ByteArray) (i j : Nat) : (a.extract i j).data.toList = (a.data.toList.drop i).take (j - i) := by
  rw [ByteArray.data_extract, Array.toList_extract, List.extract]
theorem Tx.beq (a b : ByteArray) : (a.toList == b.toList) = decide (a.data.toList = b.data.toList) := by
  rw [ByteArray.toList_eq, ByteArray.toList_eq]
  by_cases h : a.data.toList = b.data.toList
  · rw [h]; simp
  · rw [decide_eq_false h]; simpa using h
/-- A list of bytes as a value. -/
def Tx.v (l : List UInt8) : Value := .string ⟨l.toArray⟩
theorem Tx.v_eq {b : ByteArray} {l : List UInt8} (h : b.data.toList = l) : Tx.v l = .string b := by
  subst h
  exact congrArg Value.string (Tx.ext rfl)
end Go.Proofs.YtlfeibaghfcpaaaDoor
