/- A disk, what is known of its files, and blocks beside them. Conditions: each theorem's own hypotheses. -/
import Derived.Test.YtgbeeghdoilmkaaDsE
import Derived.Test.YtgbeeghdoilmkaaDsC
import Derived.Test.YtgbeeghdoilmkaaDpA
namespace Go.Proofs.Ytgbeeghdoilmkaa
open Go.RowKit Go.Maps Go.Sort
set_option linter.unusedVariables false

/-- A disk that was made since, a row of what is known, blocks beside them. -/
def Ds.St (B : Nat) (W0 w : World) (d : Nat) (m : Dk.M) (v : Value) (L : List Dk.F) (K : List (Nat × Obj)) : Prop :=
  ∃ F, Dk.At w d m F ∧ (∀ k, F k → B ≤ k ∧ v.ownBlock ≠ some k) ∧ Ds.Ls w B v L ∧ (∀ p ∈ K, B ≤ p.1 ∧ w.heap[p.1]? = some p.2 ∧ ¬ F p.1 ∧ v.ownBlock ≠ some p.1) ∧ Dk.Good m ∧ Below B W0 w
section
variable {B d : Nat} {W0 w w' : World} {m m' : Dk.M} {v v' : Value} {L L' : List Dk.F} {K K' : List (Nat × Obj)}
theorem Ds.St.good (h : Ds.St B W0 w d m v L K) : Dk.Good m := by obtain ⟨F, h1, h2, h3, h4, h5, h6⟩ := h; exact h5
theorem Ds.St.below (h : Ds.St B W0 w d m v L K) : Below B W0 w := by obtain ⟨F, h1, h2, h3, h4, h5, h6⟩ := h; exact h6
theorem Ds.St.row (h : Ds.St B W0 w d m v L K) : Ds.Ls w B v L := by obtain ⟨F, h1, h2, h3, h4, h5, h6⟩ := h; exact h3
theorem Ds.St.size (h : Ds.St B W0 w d m v L K) : B ≤ w.heap.size := by
  obtain ⟨F, h1, h2, h3, h4, h5, h6⟩ := h
  exact Nat.le_of_lt (Nat.lt_of_le_of_lt (h2 d h1.self).1 (h1.lt h1.self))
theorem Ds.St.blk (h : Ds.St B W0 w d m v L K) {p : Nat} {o : Obj} (hp : (p, o) ∈ K) : w.heap[p]? = some o := by
  obtain ⟨F, h1, h2, h3, h4, h5, h6⟩ := h
  exact (h4 _ hp).2.1
theorem Ds.St.sub (h : Ds.St B W0 w d m v L K) (hs : ∀ p ∈ K', p ∈ K) : Ds.St B W0 w d m v L K' := by
  obtain ⟨F, h1, h2, h3, h4, h5, h6⟩ := h
  exact ⟨F, h1, h2, h3, fun p hp => h4 p (hs p hp), h5, h6⟩
theorem Ds.St.later (h : Ds.St B W0 w d m v L K) (hB : Below w.heap.size w w') : Ds.St B W0 w' d m v L K := by
  have hz := h.size
  obtain ⟨F, h1, h2, h3, h4, h5, h6⟩ := h
  exact ⟨F, h1.later hB (Nat.le_refl _), h2, h3.below hB, fun p hp => by
    obtain ⟨a, b, c⟩ := h4 p hp
    exact ⟨a, (hB.block _ (Dp.lt_of b)).trans b, c⟩, h5, h6.trans (hB.mono hz)⟩
theorem Ds.St.push (h : Ds.St B W0 w d m v L K) (o : Obj) : Ds.St B W0 (w.alloc o) d m v L (K ++ [(w.heap.size, o)]) := by
  have hz := h.size
  have hB : Below w.heap.size w (w.alloc o) := (Below.refl _ _).alloc (Nat.le_refl _) o
  obtain ⟨F, h1, h2, h3, h4, h5, h6⟩ := h
  refine ⟨F, h1.later hB (Nat.le_refl _), h2, h3.below hB, fun p hp => ?_, h5, h6.trans (hB.mono hz)⟩
  rcases List.mem_append.1 hp with hp | hp
  · obtain ⟨a, b, c⟩ := h4 p hp
    exact ⟨a, (hB.block _ (Dp.lt_of b)).trans b, c⟩
  · obtain rfl := List.mem_singleton.1 hp
    exact ⟨hz, heap_alloc_new w o, fun hf => by have := h1.lt hf; simp at this, fun e => by have := (h3.lt e).2; simp at this⟩
theorem Ds.St.call (h : Ds.St B W0 w d m v L K) {g : FuncId} {args : Array Value} {e : Ending} (hG : Dk.Good m')
    (f : ∀ F, Dk.At w d m F → Dk.Good m → Calls Try.prog g args w fun x W' => x = e ∧ Dk.Moved w W' d F m') : Calls Try.prog g args w fun x W' => x = e ∧ Ds.St B W0 W' d m' v L K := by
  have hz := h.size
  obtain ⟨F, h1, h2, h3, h4, h5, h6⟩ := h
  refine (f F h1 h5).mono fun x W' ⟨he, hm⟩ => ⟨he, ?_⟩
  obtain ⟨F', q1, q2, q3⟩ := hm
  refine ⟨F', q1, fun k hk => ?_, h3.keep fun k hk => q2.block k (h3.lt hk).2 fun hf => (h2 k hf).2 hk, fun p hp => ?_, hG, h6.trans (q2.below hz fun k hk => (h2 k hk).1)⟩
  · rcases q3 k hk with a | a
    · exact h2 k a
    · exact ⟨by omega, fun e => by have := (h3.lt e).2; omega⟩
  · obtain ⟨a, b, c, e⟩ := h4 p hp
    have hlt := Dp.lt_of b
    refine ⟨a, (q2.block _ hlt c).trans b, fun hk => ?_, e⟩
    rcases q3 _ hk with x | x
    · exact c x
    · omega
theorem Ds.St.ask (h : Ds.St B W0 w d m v L K) {g : FuncId} {args : Array Value} {e : Ending} (f : ∀ F, Dk.At w d m F → Dk.Good m → Calls Try.prog g args w fun x W' => x = e ∧ w = W') : Calls Try.prog g args w fun x W' => x = e ∧ w = W' := by
  obtain ⟨F, h1, h2, h3, h4, h5, h6⟩ := h
  exact f F h1 h5
/-- The row has become another. -/
theorem Ds.St.list (h : Ds.St B W0 w d m v L K) (ht : Ds.Toldly w w' B v v' L') : Ds.St B W0 w' d m v' L' K := by
  have hz := h.size
  obtain ⟨t1, t2, t3⟩ := ht
  obtain ⟨F, h1, h2, h3, h4, h5, h6⟩ := h
  refine ⟨F, h1.apart t2 fun k hk => (h2 k hk).2, fun k hk => ⟨(h2 k hk).1, fun e => ?_⟩, t1, fun p hp => ?_, h5, h6.trans (t2.below hz fun k hk => (h3.lt hk).1)⟩
  · rcases t3 k e with x | x
    · exact (h2 k hk).2 x
    · have := h1.lt hk; omega
  · obtain ⟨a, b, c, e⟩ := h4 p hp
    have hlt := Dp.lt_of b
    refine ⟨a, (t2.block _ hlt e).trans b, c, fun x => ?_⟩
    rcases t3 _ x with y | y
    · exact e y
    · omega
theorem Ds.St.told (h : Ds.St B W0 w d m v L K) (s : Dw.S) (hs : Dw.Fit w s) (hp : L.Perm m'.files) (hG : Dk.Good m') (hT : Ds.To s L L') :
    Calls Try.prog 21 #[v, .agg (Dw.cells s)] w fun e W' => ∃ v', e = .returned (.tuple #[v', .bool true]) ∧ Ds.St B W0 W' d m v' L' K :=
  (Ds.told_any h.row (by rw [hp.length_eq]; exact Nat.le_trans hG.many (by decide)) (fun f hf => (hG.file f (hp.mem_iff.1 hf)).2) h.size s hs hT).mono fun e W' ⟨v', a, b⟩ => ⟨v', a, h.list b⟩
theorem Ds.St.holds (h : Ds.St B W0 w d m v L K) (ho : m.off = false) (hp : L.Perm m.files) :
    Calls Try.prog 22 #[.pointer (some ⟨d, 0, none⟩), v] w fun e W' => e = .returned (.bool true) ∧ Ds.St B W0 W' d m v L K := by
  have h0 := h
  obtain ⟨F, h1, h2, h3, h4, h5, h6⟩ := h
  exact (Ds.holds_any h1 h5 ho h3 hp).mono fun e W' ⟨a, b⟩ => ⟨a, h0.later b⟩
theorem Ds.St.down (h : Ds.St B W0 w d m v L K) {o : Bool} (ho : m.off = o) : Calls Try.prog 17 #[.pointer (some ⟨d, 0, none⟩)] w fun e W' => e = .returned (.bool o) ∧ w = W' :=
  h.ask fun F hA hG => ho ▸ Dk.down_any hA
end
/-- Is it armed, and how? -/
def Ds.Arm (m : Dk.M) (a b : Bool) : Prop := if a = true then m.left = 1 ∧ m.off = false ∧ m.done = b else m.left = 0
#print axioms Ds.St.told
end Go.Proofs.Ytgbeeghdoilmkaa
