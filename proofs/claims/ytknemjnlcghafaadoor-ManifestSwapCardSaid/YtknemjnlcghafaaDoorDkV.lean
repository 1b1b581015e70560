/- Disks: Cut. Conditions: each theorem's own hypotheses. -/
import Derived.Test.YtknemjnlcghafaaDoorDkT
namespace Go.Proofs.YtknemjnlcghafaaDoor
open Go.RowKit Go.Maps Go.Sort
set_option linter.unusedVariables false

def Dk.cutF (f : Dk.F) (n : Nat) : Dk.F := ⟨f.name, f.data.take n, min f.sure n⟩
/-- What Cut does and answers. -/
def Dk.cut (m : Dk.M) (nm : List UInt8) (n : Int) : Dk.M × Int :=
  if Dk.code m nm ≠ 0 then (m, Dk.code m nm)
  else if n < 0 ∨ (Dk.file m nm).data.length < n then (m, 13)
  else Dk.acc m m.done (Dk.upd nm (Dk.cutF (Dk.file m nm) n.toNat) m.files)
theorem Dk.cut_good {m : Dk.M} (hG : Dk.Good m) (nm : List UInt8) (n : Int) : Dk.Good (Dk.cut m nm n).1 := by
  unfold Dk.cut
  split
  · exact hG
  · rename_i hc
    obtain ⟨h1, h2, h3, h4, h5⟩ := Dk.code_zero (Decidable.not_not.1 hc)
    obtain ⟨f1, f2, f3⟩ := hG.file _ h5
    split
    · exact hG
    · rename_i hn
      have hu := Dk.used_upd (Dk.cutF (Dk.file m nm) n.toNat) hG.up h3
      have hl : (Dk.cutF (Dk.file m nm) n.toNat).data.length = n.toNat := by
        unfold Dk.cutF
        show ((Dk.file m nm).data.take n.toNat).length = _
        rw [List.length_take]; omega
      have := hG.used
      exact Dk.upd_good (f := Dk.cutF (Dk.file m nm) n.toNat) hG h4 h2 (by omega) (by rw [hl]; exact Nat.min_le_right _ _) m.done (by omega)
theorem Dk.Row.cut {W : World} {a : Option Addr} {k c : Nat} {l : List UInt8} (h : Dk.Row W (.slice a k c) l) (n : Nat) (hn : n ≤ l.length) : Dk.Row W (.slice a n c) (l.take n) := by
  rcases h with ⟨h1, rfl⟩ | ⟨g, cap, cur, fz, h1, hg, hf, h2, h3, h4, h5⟩
  · have hn0 : n = 0 := by simpa using hn
    subst hn0
    injection h1 with e1 e2 e3
    exact .inl ⟨by rw [e1, e3], rfl⟩
  · injection h1 with e1 e2 e3
    have hl : (l.take n).length = n := by rw [List.length_take]; omega
    refine .inr ⟨g, cap, cur, fz, by rw [e1, e3, hl], hg, hf, by rw [hl]; omega, h3, h4, ?_⟩
    rw [hl]
    have h6 := congrArg (List.take n) h5
    rw [List.take_take, Nat.min_eq_left hn] at h6
    rw [h6]
    unfold Lib.byteCells
    rw [List.map_take]
theorem Dk.own_len (a : Option Addr) (n m c : Nat) : (Value.slice a n c).ownBlock = (Value.slice a m c).ownBlock := by cases a <;> rfl
theorem Dk.four_set {w : World} {xb bf bn : Nat} {P Q : Value} (h : w.frozen? ⟨xb, 0, none⟩ = false ∧ w.frozen? ⟨xb, 1, none⟩ = false ∧ w.cell? ⟨bf, 0, none⟩ = some P ∧ w.cell? ⟨bn, 0, none⟩ = some Q) (h1 : bf ≠ xb) (h2 : bn ≠ xb) (i : Nat) (v : Value) :
    (w.setCell ⟨xb, i, none⟩ v).frozen? ⟨xb, 0, none⟩ = false ∧ (w.setCell ⟨xb, i, none⟩ v).frozen? ⟨xb, 1, none⟩ = false ∧ (w.setCell ⟨xb, i, none⟩ v).cell? ⟨bf, 0, none⟩ = some P ∧ (w.setCell ⟨xb, i, none⟩ v).cell? ⟨bn, 0, none⟩ = some Q :=
  ⟨by rw [World.frozen?_setCell]; exact h.1, by rw [World.frozen?_setCell]; exact h.2.1, (World.cell?_of_block (Below.heap_setCell w ⟨xb, i, none⟩ v bf h1)).trans h.2.2.1, (World.cell?_of_block (Below.heap_setCell w ⟨xb, i, none⟩ v bn h2)).trans h.2.2.2⟩
def Dk.o6 : Op := Op.load 3 (Operand.tmp 5)
attribute [go_sem] Dk.o6
def Dk.o22 : Op := Op.load 57 (Operand.tmp 21)
attribute [go_sem] Dk.o22
def Dk.o28 : Op := Op.load 3 (Operand.tmp 27)
attribute [go_sem] Dk.o28
end Go.Proofs.YtknemjnlcghafaaDoor
