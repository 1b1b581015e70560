/- The document's disk and blocks beside it. Conditions: each theorem's own hypotheses. -/
import Derived.Test.YtifkhjihgnnpfaaGreatDoorDkS
import Derived.Test.YtifkhjihgnnpfaaGreatDoorZDrN
namespace Go.Proofs.YtifkhjihgnnpfaaGreatDoor
open Go.RowKit
set_option linter.unusedVariables false

theorem Dr.At.self {W : World} {r : Nat} {m : Dk.M} {F : Nat → Prop} (h : Dr.At W r m F) : F r := by
  obtain ⟨v, hS, rfl⟩ := h
  exact .inl rfl
def Mt.Sit (B : Nat) (W0 w : World) (d : Nat) (m : Dk.M) (K : Nat → Prop) : Prop :=
  ∃ F, Dr.At w d m F ∧ (∀ k, F k → B ≤ k) ∧ (∀ k, K k → B ≤ k ∧ k < w.heap.size ∧ ¬ F k) ∧ Dk.Good m ∧ Below B W0 w
section
variable {B d : Nat} {W0 w w' : World} {m m' : Dk.M} {K K' : Nat → Prop}
theorem Mt.Sit.good (h : Mt.Sit B W0 w d m K) : Dk.Good m := by obtain ⟨F, h1, h2, h3, h4, h5⟩ := h; exact h4
theorem Mt.Sit.below (h : Mt.Sit B W0 w d m K) : Below B W0 w := by obtain ⟨F, h1, h2, h3, h4, h5⟩ := h; exact h5
theorem Mt.Sit.size (h : Mt.Sit B W0 w d m K) : B ≤ w.heap.size := by
  obtain ⟨F, h1, h2, h3, h4, h5⟩ := h
  exact Nat.le_of_lt (Nat.lt_of_le_of_lt (h2 d h1.self) (h1.lt h1.self))
theorem Mt.Sit.sub (h : Mt.Sit B W0 w d m K) (hs : ∀ k, K' k → K k) : Mt.Sit B W0 w d m K' := by
  obtain ⟨F, h1, h2, h3, h4, h5⟩ := h
  exact ⟨F, h1, h2, fun k hk => h3 k (hs k hk), h4, h5⟩
/-- Some of the blocks beside it have changed, others have come. -/
theorem Mt.Sit.only (h : Mt.Sit B W0 w d m K) {G : Nat → Prop} (ho : Dk.Only G w w') (hG : ∀ k, G k → K k) : Mt.Sit B W0 w' d m (fun k => K k ∨ (w.heap.size ≤ k ∧ k < w'.heap.size)) := by
  have hz := h.size
  have hsz := ho.size
  obtain ⟨F, h1, h2, h3, h4, h5⟩ := h
  refine ⟨F, h1.apart ho fun k hk hg => (h3 k (hG k hg)).2.2 hk, h2, fun k hk => ?_, h4, h5.trans (ho.below hz fun k hg => (h3 k (hG k hg)).1)⟩
  rcases hk with hk | hk
  · obtain ⟨a, b, c⟩ := h3 k hk
    exact ⟨a, by omega, c⟩
  · exact ⟨by omega, hk.2, fun hf => by have := h1.lt hf; omega⟩
theorem Mt.Sit.grow (h : Mt.Sit B W0 w d m K) (hB : Below w.heap.size w w') : Mt.Sit B W0 w' d m (fun k => K k ∨ (w.heap.size ≤ k ∧ k < w'.heap.size)) :=
  h.only (G := fun _ => False) (Dk.Only.of hB) fun k hk => hk.elim
theorem Mt.Sit.later (h : Mt.Sit B W0 w d m K) (hB : Below w.heap.size w w') : Mt.Sit B W0 w' d m K := (h.grow hB).sub fun k hk => .inl hk
theorem Mt.Sit.lt (h : Mt.Sit B W0 w d m K) {k : Nat} (hk : K k) : B ≤ k ∧ k < w.heap.size := by
  obtain ⟨F, h1, h2, h3, h4, h5⟩ := h
  exact ⟨(h3 k hk).1, (h3 k hk).2.1⟩
theorem Mt.Sit.kept (h : Mt.Sit B W0 w d m K) (hB : Below w.heap.size w w') : Jl.Kept K w w' := ⟨hB.size, fun k hk => hB.block k (h.lt hk).2⟩
theorem Mt.Sit.call (h : Mt.Sit B W0 w d m K) {g : FuncId} {args : Array Value} {r : Ending} (hG : Dk.Good m')
    (f : ∀ F, Dr.At w d m F → Dk.Good m → Calls Tryz.prog g args w fun e W' => e = r ∧ Dr.Moved w W' d F m') : Calls Tryz.prog g args w fun e W' => e = r ∧ Mt.Sit B W0 W' d m' K ∧ Jl.Kept K w W' := by
  have hz := h.size
  obtain ⟨F, h1, h2, h3, h4, h5⟩ := h
  refine (f F h1 h4).mono fun e W' ⟨he, hm⟩ => ⟨he, ?_⟩
  obtain ⟨F', q1, q2, q3⟩ := hm
  have hsz := q2.size
  refine ⟨⟨F', q1, fun k hk => ?_, fun k hk => ?_, hG, h5.trans (q2.below hz h2)⟩, hsz, fun k hk => q2.block k (h3 k hk).2.1 (h3 k hk).2.2⟩
  · rcases q3 k hk with x | x
    · exact h2 k x
    · omega
  · obtain ⟨a, b, c⟩ := h3 k hk
    refine ⟨a, by omega, fun x => ?_⟩
    rcases q3 k x with y | y
    · exact c y
    · omega
theorem Mt.Sit.ask (h : Mt.Sit B W0 w d m K) {g : FuncId} {args : Array Value} {R : Ending → World → Prop} (f : ∀ F, Dr.At w d m F → Dk.Good m → Calls Tryz.prog g args w R) : Calls Tryz.prog g args w R := by
  obtain ⟨F, h1, h2, h3, h4, h5⟩ := h
  exact f F h1 h4
end
end Go.Proofs.YtifkhjihgnnpfaaGreatDoor
