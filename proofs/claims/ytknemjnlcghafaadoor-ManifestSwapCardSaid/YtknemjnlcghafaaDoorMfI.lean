/- Manifests: the reference's numbers. Conditions: each theorem's own hypotheses. -/
import Derived.Test.YtknemjnlcghafaaDoorMfG
import Derived.Laws.AppendOwn
import Derived.Test.YtknemjnlcghafaaDoorSealB
namespace Go.Proofs.YtknemjnlcghafaaDoor
open Go.RowKit Go.Maps
set_option linter.unusedVariables false

theorem addLit (b off j : Nat) : (⟨b, off, none⟩ : Addr).add j = ⟨b, off + j, none⟩ := by
  simp [Addr.add]
theorem Blk.news {w : World} {g : Nat} {t : TypeId} {cs : Array Value} (h : Blk w g t cs) : ∀ j u, cs.toList[j]? = some u → w.cell? ((⟨g, 0, none⟩ : Addr).add j) = some u := by
  intro j u hu
  rw [addLit, h.cell]
  simpa using hu
theorem infoInt : (Tryd.prog.info? 3).map (fun i => (i.zero, i.size, i.bytes)) = some (some (.int .i64 0), 1, 8) := by kernel_rfl
theorem Mf.cells_list (zs : List Nat) : (Mf.cells zs).toList = zs.map fun z : Nat => Value.int .i64 (z : Int) := by simp [Mf.cells]
theorem Mf.cells_one (zs : List Nat) : ∀ u ∈ (Mf.cells zs).toList, u.oneCell' = true := by
  intro u hu
  rw [Mf.cells_list] at hu
  obtain ⟨z, _, rfl⟩ := List.mem_map.1 hu
  rfl
theorem Mf.nums_len' (M : Man) (k : Nat) (hk : k ≤ M.runs.length) : (Mf.nums M k).length = 7 + 4 * k := by
  unfold Mf.nums Mf.heads
  have : ∀ l : List Run, (l.flatMap Mf.row).length = 4 * l.length := fun l => by
    induction l with
    | nil => rfl
    | cons x xs ih => rw [List.flatMap_cons, List.length_append, ih, List.length_cons]; show 4 + _ = _; omega
  rw [List.length_append, this, List.length_take, Nat.min_eq_left hk]
  rfl
theorem Blk.row {w : World} {g : Nat} {zs : List Nat} {n : Nat} (h : Blk w g 3 (Mf.cells zs)) (hn : zs.length = n) (hm : n ≤ 1099511627776) (B : Nat) (hB : B ≤ g) : w.ownsRow B 3 1 (.slice (some ⟨g, 0, none⟩) n n) n (Mf.cells zs).toList := by
  subst hn
  have hl : (Mf.cells zs).toList.length = zs.length := by rw [Mf.cells_list, List.length_map]
  refine ⟨by rw [hl]; omega, Or.inr ⟨g, zs.length, Mf.cells zs, rfl, hB, h, Nat.le_refl _, by unfold maxLen; omega, by rw [← Array.length_toList, hl]; omega, ?_⟩⟩
  exact List.take_of_length_le (by rw [hl]; omega)

theorem World.ownsRow.lower {w : World} {B B' : Nat} {e : TypeId} {size n : Nat} {v : Value} {xs : List Value} (h : w.ownsRow B e size v n xs) (hB : B' ≤ B) : w.ownsRow B' e size v n xs :=
  ⟨h.1, h.2.imp id fun ⟨g, cap, cur, h1, h2, h3⟩ => ⟨g, cap, cur, h1, Nat.le_trans hB h2, h3⟩⟩
def NmRel (M : Man) (A : Option Addr) (cap : Nat) (w : World) (l i : Value) (wr : World) : Prop :=
  ∃ k : Nat, k ≤ M.runs.length ∧ i = .int .i64 k ∧ wr.ownsRow (w.heap.size + 1) 3 1 l (7 + 4 * k) (Mf.cells (Mf.nums M k)).toList ∧ Blk wr w.heap.size 26 (manCells M A cap) ∧ Below w.heap.size w wr

end Go.Proofs.YtknemjnlcghafaaDoor
/- Manifests: the reference's Encode. Conditions: each theorem's own hypotheses. -/
namespace Go.Proofs.YtknemjnlcghafaaDoor
open Go.RowKit Go.Maps
set_option linter.unusedVariables false

def EcRel (zs : List Nat) (B : Nat) (w0 : World) (p i : Value) (wr : World) : Prop :=
  ∃ (k : Nat) (P : ByteArray), k ≤ zs.length ∧ i = .int .i64 k ∧ p = .string P ∧ P.data.toList = Mf.enc (zs.take k) ∧ Below B w0 wr

end Go.Proofs.YtknemjnlcghafaaDoor
