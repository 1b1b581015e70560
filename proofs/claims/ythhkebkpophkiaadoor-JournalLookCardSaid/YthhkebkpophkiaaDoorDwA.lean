/- Laws of disks: helpers that compare. Conditions: each theorem's own hypotheses. -/
import Derived.Test.YthhkebkpophkiaaDoorDrD
namespace Go.Proofs.YthhkebkpophkiaaDoor
open Go.RowKit Go.Maps Go.Sort
set_option linter.unusedVariables false

/-- A row of names. -/
def Dw.Txs (W : World) (B : Nat) (v : Value) (l : List (List UInt8)) : Prop := W.ownsRow B 9 1 v l.length (l.map encStr)
theorem Dw.Txs.form {W : World} {B : Nat} {v : Value} {l : List (List UInt8)} (h : Dw.Txs W B v l) : ∃ a c, v = .slice a l.length c := by
  rcases h.2 with ⟨h1, h2⟩ | ⟨g, cap, cur, h1, _⟩
  · exact ⟨none, 0, by rw [h1, h2]⟩
  · exact ⟨_, _, h1⟩
theorem Dw.Txs.at_ {W : World} {B : Nat} {v : Value} {l : List (List UInt8)} (h : Dw.Txs W B v l) {k : Nat} {x : List UInt8} (hk : l[k]? = some x) : ∃ g c, v = .slice (some ⟨g, 0, none⟩) l.length c ∧ W.cell? ⟨g, k, none⟩ = some (Tx.v x) := by
  have hlt := (List.getElem?_eq_some_iff.1 hk).1
  obtain ⟨g, c, rfl, _⟩ := World.ownsRow.form h (by omega)
  refine ⟨g, c, rfl, ?_⟩
  rw [World.ownsRow.cellAt h k (by omega), List.getElem?_map, hk]; rfl
theorem Dw.Txs.keep {W W' : World} {B : Nat} {v : Value} {l : List (List UInt8)} (h : Dw.Txs W B v l) (hk : ∀ k, v.ownBlock = some k → W'.heap[k]? = W.heap[k]?) : Dw.Txs W' B v l := by
  refine ⟨h.1, ?_⟩
  rcases h.2 with h | ⟨g, cap, cur, rfl, hb, hg, r⟩
  · exact .inl h
  · exact .inr ⟨g, cap, cur, rfl, hb, (hk g rfl).trans hg, r⟩
theorem Dw.Txs.below {W W' : World} {B : Nat} {v : Value} {l : List (List UInt8)} (h : Dw.Txs W B v l) (hB : Below W.heap.size W W') : Dw.Txs W' B v l := h.keep fun k hk => hB.block k (World.ownsRow.lt h k hk).2

section
variable {W : World} {d r : Nat} {m : Dk.M} {F G : Nat → Prop}
end
end Go.Proofs.YthhkebkpophkiaaDoor
