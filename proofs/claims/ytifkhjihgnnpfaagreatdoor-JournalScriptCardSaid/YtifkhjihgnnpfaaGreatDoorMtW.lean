/- Two disks side by side, and blocks beside them. Conditions: each theorem's own hypotheses. -/
import Derived.Test.YtifkhjihgnnpfaaGreatDoorMtS
import Derived.Test.YtifkhjihgnnpfaaGreatDoorDpA
namespace Go.Proofs.YtifkhjihgnnpfaaGreatDoor
open Go.RowKit Go.Maps
set_option linter.unusedVariables false

def Mt.Two (B : Nat) (W0 w : World) (d : Nat) (m : Dk.M) (r : Nat) (m' : Dk.M) (K : Nat → Prop) : Prop :=
  ∃ F G, Dk.At w d m F ∧ Dr.At w r m' G ∧ (∀ k, F k → B ≤ k ∧ ¬ G k) ∧ (∀ k, G k → B ≤ k) ∧ (∀ k, K k → B ≤ k ∧ k < w.heap.size ∧ ¬ F k ∧ ¬ G k) ∧ Dk.Good m ∧ Dk.Good m' ∧ Below B W0 w
section
variable {B d r : Nat} {W0 w w' : World} {m m' m2 : Dk.M} {K K' : Nat → Prop}
theorem Mt.Two.good1 (h : Mt.Two B W0 w d m r m' K) : Dk.Good m := by obtain ⟨F, G, h1, h2, h3, h4, h5, h6, h7, h8⟩ := h; exact h6
theorem Mt.Two.good2 (h : Mt.Two B W0 w d m r m' K) : Dk.Good m' := by obtain ⟨F, G, h1, h2, h3, h4, h5, h6, h7, h8⟩ := h; exact h7
theorem Mt.Two.below (h : Mt.Two B W0 w d m r m' K) : Below B W0 w := by obtain ⟨F, G, h1, h2, h3, h4, h5, h6, h7, h8⟩ := h; exact h8
theorem Mt.Two.size (h : Mt.Two B W0 w d m r m' K) : B ≤ w.heap.size := by
  obtain ⟨F, G, h1, h2, h3, h4, h5, h6, h7, h8⟩ := h
  exact Nat.le_of_lt (Nat.lt_of_le_of_lt (h3 d h1.self).1 (h1.lt h1.self))
theorem Mt.Two.lt (h : Mt.Two B W0 w d m r m' K) {k : Nat} (hk : K k) : B ≤ k ∧ k < w.heap.size := by
  obtain ⟨F, G, h1, h2, h3, h4, h5, h6, h7, h8⟩ := h
  exact ⟨(h5 k hk).1, (h5 k hk).2.1⟩
theorem Mt.Two.sub (h : Mt.Two B W0 w d m r m' K) (hs : ∀ k, K' k → K k) : Mt.Two B W0 w d m r m' K' := by
  obtain ⟨F, G, h1, h2, h3, h4, h5, h6, h7, h8⟩ := h
  exact ⟨F, G, h1, h2, h3, h4, fun k hk => h5 k (hs k hk), h6, h7, h8⟩
theorem Mt.Two.only (h : Mt.Two B W0 w d m r m' K) {G : Nat → Prop} (ho : Dk.Only G w w') (hG : ∀ k, G k → K k) : Mt.Two B W0 w' d m r m' (fun k => K k ∨ (w.heap.size ≤ k ∧ k < w'.heap.size)) := by
  have hz := h.size
  have hsz := ho.size
  obtain ⟨F, F2, h1, h2, h3, h4, h5, h6, h7, h8⟩ := h
  refine ⟨F, F2, h1.apart ho fun k hk hg => (h5 k (hG k hg)).2.2.1 hk, h2.apart ho fun k hk hg => (h5 k (hG k hg)).2.2.2 hk, h3, h4, fun k hk => ?_, h6, h7, h8.trans (ho.below hz fun k hg => (h5 k (hG k hg)).1)⟩
  rcases hk with hk | hk
  · obtain ⟨a, b, c⟩ := h5 k hk
    exact ⟨a, by omega, c⟩
  · exact ⟨by omega, hk.2, fun hf => by have := h1.lt hf; omega, fun hf => by have := h2.lt hf; omega⟩
theorem Mt.Two.grow (h : Mt.Two B W0 w d m r m' K) (hB : Below w.heap.size w w') : Mt.Two B W0 w' d m r m' (fun k => K k ∨ (w.heap.size ≤ k ∧ k < w'.heap.size)) :=
  h.only (G := fun _ => False) (Dk.Only.of hB) fun k hk => hk.elim
theorem Mt.Two.later (h : Mt.Two B W0 w d m r m' K) (hB : Below w.heap.size w w') : Mt.Two B W0 w' d m r m' K := (h.grow hB).sub fun k hk => .inl hk
theorem Mt.Two.kept (h : Mt.Two B W0 w d m r m' K) (hB : Below w.heap.size w w') : Jl.Kept K w w' := ⟨hB.size, fun k hk => hB.block k (h.lt hk).2⟩
/-- What is known of a call beside the program's disk alone. -/
theorem Mt.Two.one (h : Mt.Two B W0 w d m r m' K) {g : FuncId} {args : Array Value} {e : Ending}
    (f : ∀ K0, Jl.Sit B W0 w d m K0 → Calls Tryz.prog g args w fun x W' => x = e ∧ Jl.Sit B W0 W' d m2 K0 ∧ Jl.Kept K0 w W') : Calls Tryz.prog g args w fun x W' => x = e ∧ Mt.Two B W0 W' d m2 r m' K ∧ Jl.Kept K w W' := by
  obtain ⟨F, G, h1, h2, h3, h4, h5, h6, h7, h8⟩ := h
  refine (f (fun k => K k ∨ G k) ⟨F, h1, fun k hk => (h3 k hk).1, fun k hk => ?_, h6, h8⟩).mono fun x W' ⟨he, hs, hk⟩ => ⟨he, ?_, hk.1, fun k hK => hk.2 k (.inl hK)⟩
  · rcases hk with hk | hk
    · exact ⟨(h5 k hk).1, (h5 k hk).2.1, (h5 k hk).2.2.1⟩
    · exact ⟨h4 k hk, h2.lt hk, fun hf => (h3 k hf).2 hk⟩
  · obtain ⟨F', q1, q2, q3, q4, q5⟩ := hs
    refine ⟨F', G, q1, h2.keep fun k hG => hk.2 k (.inr hG), fun k hf => ⟨q2 k hf, fun hg => (q3 k (.inr hg)).2.2 hf⟩, h4, fun k hK => ?_, q4, h7, q5⟩
    exact ⟨(h5 k hK).1, Nat.lt_of_lt_of_le (h5 k hK).2.1 hk.1, (q3 k (.inl hK)).2.2, (h5 k hK).2.2.2⟩
theorem Mt.Two.two (h : Mt.Two B W0 w d m r m' K) {g : FuncId} {args : Array Value} {e : Ending}
    (f : ∀ K0, Mt.Sit B W0 w r m' K0 → Calls Tryz.prog g args w fun x W' => x = e ∧ Mt.Sit B W0 W' r m2 K0 ∧ Jl.Kept K0 w W') : Calls Tryz.prog g args w fun x W' => x = e ∧ Mt.Two B W0 W' d m r m2 K ∧ Jl.Kept K w W' := by
  obtain ⟨F, G, h1, h2, h3, h4, h5, h6, h7, h8⟩ := h
  refine (f (fun k => K k ∨ F k) ⟨G, h2, h4, fun k hk => ?_, h7, h8⟩).mono fun x W' ⟨he, hs, hk⟩ => ⟨he, ?_, hk.1, fun k hK => hk.2 k (.inl hK)⟩
  · rcases hk with hk | hk
    · exact ⟨(h5 k hk).1, (h5 k hk).2.1, (h5 k hk).2.2.2⟩
    · exact ⟨(h3 k hk).1, h1.lt hk, (h3 k hk).2⟩
  · obtain ⟨G', q1, q2, q3, q4, q5⟩ := hs
    refine ⟨F, G', h1.keep fun k hF => hk.2 k (.inr hF), q1, fun k hf => ⟨(h3 k hf).1, fun hg => (q3 k (.inr hf)).2.2 hg⟩, q2, fun k hK => ?_, h6, q4, q5⟩
    exact ⟨(h5 k hK).1, Nat.lt_of_lt_of_le (h5 k hK).2.1 hk.1, (h5 k hK).2.2.1, (q3 k (.inl hK)).2.2⟩
theorem Mt.Two.sit1 (h : Mt.Two B W0 w d m r m' K) : Jl.Sit B W0 w d m K := by
  obtain ⟨F, G, h1, h2, h3, h4, h5, h6, h7, h8⟩ := h
  exact ⟨F, h1, fun k hk => (h3 k hk).1, fun k hk => ⟨(h5 k hk).1, (h5 k hk).2.1, (h5 k hk).2.2.1⟩, h6, h8⟩
theorem Mt.Two.sit2 (h : Mt.Two B W0 w d m r m' K) : Mt.Sit B W0 w r m' K := by
  obtain ⟨F, G, h1, h2, h3, h4, h5, h6, h7, h8⟩ := h
  exact ⟨G, h2, h4, fun k hk => ⟨(h5 k hk).1, (h5 k hk).2.1, (h5 k hk).2.2.2⟩, h7, h8⟩
theorem Mt.Two.duo {L : List (Nat × Obj)} (h : Mt.Two B W0 w d m r m' K) (hL : ∀ p ∈ L, K p.1 ∧ w.heap[p.1]? = some p.2) : Dp.Duo B W0 w d m r m' L := by
  obtain ⟨F, G, h1, h2, h3, h4, h5, h6, h7, h8⟩ := h
  exact ⟨F, G, h1, h2, h3, h4, fun p hp => ⟨(h5 _ (hL p hp).1).1, (hL p hp).2, (h5 _ (hL p hp).1).2.2.1, (h5 _ (hL p hp).1).2.2.2⟩, h6, h7, h8⟩
theorem Mt.Two.of {L : List (Nat × Obj)} (h : Dp.Duo B W0 w d m r m' L) : Mt.Two B W0 w d m r m' (fun k => ∃ o, (k, o) ∈ L) := by
  obtain ⟨F, G, h1, h2, h3, h4, h5, h6, h7, h8⟩ := h
  exact ⟨F, G, h1, h2, h3, h4, fun k ⟨o, ho⟩ => ⟨(h5 _ ho).1, Dp.lt_of (h5 _ ho).2.1, (h5 _ ho).2.2.1, (h5 _ ho).2.2.2⟩, h6, h7, h8⟩
theorem Mt.Two.block_step (S : Mt.Two B W0 w d m r m' K) (o : Obj) : ∃ K' : Nat → Prop, (∀ k, K k → K' k) ∧ Mt.Two B W0 (w.alloc o) d m r m' K' ∧ K' w.heap.size ∧ Below w.heap.size w (w.alloc o) := by
  have hA : Below w.heap.size w (w.alloc o) := (Below.refl _ _).alloc (Nat.le_refl _) _
  exact ⟨_, fun k hk => .inl hk, S.grow hA, .inr ⟨Nat.le_refl _, by simp⟩, hA⟩
end
end Go.Proofs.YtifkhjihgnnpfaaGreatDoor
