/- The walk of the law JournalRead. Conditions: the theorem's own hypotheses; the program's table of 16 numbers holds what its initialiser lays. -/
import Derived.Test.YtffdplmnjlcmnaaDoorJnD
namespace Go.Proofs.YtffdplmnjlcmnaaDoor
set_option linter.unusedVariables false
open Go.RowKit

theorem num_nat (x : Nat) (w : World) (hx : x < 9223372036854775808) :
    Calls Tryd.prog 21 #[.int .i64 x] w fun e w' => e = .returned (.int .i64 x) ∧ w = w' := by
  go_enter Tryd.func21, Tryd.ntmps21
  go_wp2_with fail
  go_ret
  exact ⟨rfl, rfl⟩

theorem pay_err (k : Nat) (b : List UInt8) (w : Nat) : (Jn.pay k b w).err ≤ 60 := by
  unfold Jn.pay
  have h1 := Jn.var_code _ _ (rfl : Sl.var b = _)
  have h2 := Jn.var_code _ _ (rfl : Sl.var (b.drop (Sl.var b).len) = _)
  repeat' split
  all_goals try simp only [Jn.no]
  all_goals omega

theorem read_err (b : List UInt8) (n : Int) (U : Jn.Upd) (h : Jn.read b n = U) : U.err ≤ 60 := by
  subst h
  unfold Jn.read
  have h1 := (parse_pay_len b _ rfl).2
  have h2 := pay_err (Sl.parse b).kind (Sl.parse b).pay n.toNat
  repeat' split
  all_goals try simp only [Jn.no]
  all_goals omega

set_option maxRecDepth 100000 in
theorem journalRead_walk (a0 : ByteArray) (a1 : Int) (w0 : a0.size ≤ maxLen) (w : World) (hT : TabS w) :
    Calls Tryd.prog 4 #[.string a0, .int .i64 a1] w fun e w' => e = .returned (.bool true) ∧ Below w.heap.size w w' := by
  obtain ⟨U, hU⟩ : ∃ U, Jn.read a0.data.toList a1 = U := ⟨_, rfl⟩
  have hx := read_err _ _ _ hU
  obtain ⟨q, kk, i, cd, x⟩ := U
  simp only at hx
  obtain ⟨C, hC, _, _⟩ := str_of cd
  have hs0 : a0.size ≤ 9223372036854775807 := by unfold maxLen at w0; omega
  have HU := Lib.hid hU
  have HC := Lib.hid hC
  have HT := Lib.hid hT
  clear hU hC hT
  go_enter Tryd.func4, Tryd.ntmps4
  go_wp2_with fail
  refine (read_tell a0 C a1 q kk i x cd _ hs0 HT.out HU.out HC.out).mono ?_
  rintro e x1 ⟨rfl, hB1⟩
  have hz1 : w.heap.size ≤ x1.heap.size := hB1.size
  go_wp2_with fail
  refine (refRead_tell a0 C a1 q kk i x cd _ hs0 (HT.out.below (hB1.alloc hz1 _)) HU.out HC.out).mono ?_
  rintro e x2 ⟨rfl, hB2⟩
  have hz2 : x1.heap.size < x2.heap.size := by have := hB2.size; simp at this; omega
  have hc : ∀ (j : Nat) (v : Value) (o : Obj), x2.cell? ⟨x1.heap.size, j, none⟩ = some v → (x2.alloc o).cell? ⟨x1.heap.size, j, none⟩ = some v := fun j v o h =>
    (((Below.refl x2.heap.size x2).alloc (Nat.le_refl _) o).cell (p := ⟨x1.heap.size, j, none⟩) hz2).trans h
  have hc0 := fun o => hc 0 (.int .i64 q) o ((hB2.cell (p := ⟨x1.heap.size, 0, none⟩) (by simp)).trans (World.cell?_alloc_at _ _ _ _ rfl))
  have hc1 := fun o => hc 1 (.int .i64 kk) o ((hB2.cell (p := ⟨x1.heap.size, 1, none⟩) (by simp)).trans (World.cell?_alloc_at _ _ _ _ rfl))
  have hc2 := fun o => hc 2 (.int .i64 i) o ((hB2.cell (p := ⟨x1.heap.size, 2, none⟩) (by simp)).trans (World.cell?_alloc_at _ _ _ _ rfl))
  have hc3 := fun o => hc 3 (.string C) o ((hB2.cell (p := ⟨x1.heap.size, 3, none⟩) (by simp)).trans (World.cell?_alloc_at _ _ _ _ rfl))
  have hB : Below w.heap.size w x2 := (hB1.alloc hz1 _).trans (hB2.mono (by simp; omega))
  have hz3 : w.heap.size ≤ x2.heap.size := hB.size
  clear hB1 hB2 hc
  go_wp2_with fail
  refine (num_nat x _ (by omega)).mono ?_
  rintro e x3 ⟨rfl, rfl⟩
  go_wp2_with fail
  go_ret
  exact ⟨rfl, hB.alloc hz3 _⟩
end Go.Proofs.YtffdplmnjlcmnaaDoor
