/- A disk and blocks beside it. Conditions: each theorem's own hypotheses. -/
import Derived.Test.YtifkhjihgnnpfaaGreatDoorZDkW
namespace Go.Proofs.YtifkhjihgnnpfaaGreatDoor
open Go.RowKit
set_option linter.unusedVariables false

/-- A disk that was made since; these blocks stand beside it. -/
def Jl.Sit (B : Nat) (W0 w : World) (d : Nat) (m : Dk.M) (K : Nat → Prop) : Prop :=
  ∃ F, Dk.At w d m F ∧ (∀ k, F k → B ≤ k) ∧ (∀ k, K k → B ≤ k ∧ k < w.heap.size ∧ ¬ F k) ∧ Dk.Good m ∧ Below B W0 w
def Jl.Kept (K : Nat → Prop) (w w' : World) : Prop := w.heap.size ≤ w'.heap.size ∧ ∀ k, K k → w'.heap[k]? = w.heap[k]?
section
variable {B d : Nat} {W0 w w' : World} {m m' : Dk.M} {K K' : Nat → Prop}
theorem Jl.Sit.good (h : Jl.Sit B W0 w d m K) : Dk.Good m := by obtain ⟨F, h1, h2, h3, h4, h5⟩ := h; exact h4
theorem Jl.Sit.below (h : Jl.Sit B W0 w d m K) : Below B W0 w := by obtain ⟨F, h1, h2, h3, h4, h5⟩ := h; exact h5
theorem Jl.Sit.size (h : Jl.Sit B W0 w d m K) : B ≤ w.heap.size := by
  obtain ⟨F, h1, h2, h3, h4, h5⟩ := h
  exact Nat.le_of_lt (Nat.lt_of_le_of_lt (h2 d h1.self) (h1.lt h1.self))
theorem Jl.Sit.sub (h : Jl.Sit B W0 w d m K) (hs : ∀ k, K' k → K k) : Jl.Sit B W0 w d m K' := by
  obtain ⟨F, h1, h2, h3, h4, h5⟩ := h
  exact ⟨F, h1, h2, fun k hk => h3 k (hs k hk), h4, h5⟩
/-- Some of the blocks beside it have changed, others have come. -/
theorem Jl.Sit.only (h : Jl.Sit B W0 w d m K) {G : Nat → Prop} (ho : Dk.Only G w w') (hG : ∀ k, G k → K k) : Jl.Sit B W0 w' d m (fun k => K k ∨ (w.heap.size ≤ k ∧ k < w'.heap.size)) := by
  have hz := h.size
  have hsz := ho.size
  obtain ⟨F, h1, h2, h3, h4, h5⟩ := h
  refine ⟨F, h1.apart ho fun k hk hg => (h3 k (hG k hg)).2.2 hk, h2, fun k hk => ?_, h4, h5.trans (ho.below hz fun k hg => (h3 k (hG k hg)).1)⟩
  rcases hk with hk | hk
  · obtain ⟨a, b, c⟩ := h3 k hk
    exact ⟨a, by omega, c⟩
  · exact ⟨by omega, hk.2, fun hf => by have := h1.lt hf; omega⟩
theorem Jl.Sit.grow (h : Jl.Sit B W0 w d m K) (hB : Below w.heap.size w w') : Jl.Sit B W0 w' d m (fun k => K k ∨ (w.heap.size ≤ k ∧ k < w'.heap.size)) :=
  h.only (G := fun _ => False) (Dk.Only.of hB) fun k hk => hk.elim
theorem Jl.Sit.later (h : Jl.Sit B W0 w d m K) (hB : Below w.heap.size w w') : Jl.Sit B W0 w' d m K := (h.grow hB).sub fun k hk => .inl hk
theorem Jl.Sit.lt (h : Jl.Sit B W0 w d m K) {k : Nat} (hk : K k) : B ≤ k ∧ k < w.heap.size := by
  obtain ⟨F, h1, h2, h3, h4, h5⟩ := h
  exact ⟨(h3 k hk).1, (h3 k hk).2.1⟩
theorem Jl.Sit.kept (h : Jl.Sit B W0 w d m K) (hB : Below w.heap.size w w') : Jl.Kept K w w' := ⟨hB.size, fun k hk => hB.block k (h.lt hk).2⟩
theorem Jl.Sit.call (h : Jl.Sit B W0 w d m K) {g : FuncId} {args : Array Value} {r : Ending} (hG : Dk.Good m')
    (f : ∀ F, Dk.At w d m F → Dk.Good m → Calls Tryz.prog g args w fun e W' => e = r ∧ Dk.Moved w W' d F m') : Calls Tryz.prog g args w fun e W' => e = r ∧ Jl.Sit B W0 W' d m' K ∧ Jl.Kept K w W' := by
  have hz := h.size
  obtain ⟨F, h1, h2, h3, h4, h5⟩ := h
  refine (f F h1 h4).mono fun e W' ⟨he, hm⟩ => ⟨he, ?_⟩
  obtain ⟨F', q1, q2, q3⟩ := hm
  have hsz := q2.size
  refine ⟨⟨F', q1, fun k hk => ?_, fun k hk => ?_, hG, h5.trans (q2.below hz h2)⟩, hsz, fun k hk => q2.block k (h3 k hk).2.1 (h3 k hk).2.2⟩
  · rcases q3 k hk with x | x
    · exact h2 k x
    · omega
  · obtain ⟨a, b, c⟩ := h3 k hk
    refine ⟨a, by omega, fun x => ?_⟩
    rcases q3 k x with y | y
    · exact c y
    · omega
theorem Jl.Sit.ask (h : Jl.Sit B W0 w d m K) {g : FuncId} {args : Array Value} {R : Ending → World → Prop} (f : ∀ F, Dk.At w d m F → Dk.Good m → Calls Tryz.prog g args w R) : Calls Tryz.prog g args w R := by
  obtain ⟨F, h1, h2, h3, h4, h5⟩ := h
  exact f F h1 h4
theorem Jl.new_sit {n : Nat} (hn : n ≤ 1073741824) {w : World} (h : Below B W0 w) (hB : B ≤ w.heap.size) :
    Calls Tryz.prog 4 #[.int .i64 n] w fun e w' => ∃ d, e = .returned (.pointer (some ⟨d, 0, none⟩)) ∧ Jl.Sit B W0 w' d (Dk.fresh n) (fun _ => False) := by
  refine (Dk.new_any n hn w).mono ?_
  rintro e w' ⟨d, F, h1, h2, h3, h4⟩
  exact ⟨d, h1, F, h2, fun k hk => Nat.le_trans hB (h4 k hk), fun k hk => hk.elim, Dk.fresh_good n hn, h.trans (h3.mono hB)⟩
end
end Go.Proofs.YtifkhjihgnnpfaaGreatDoor
