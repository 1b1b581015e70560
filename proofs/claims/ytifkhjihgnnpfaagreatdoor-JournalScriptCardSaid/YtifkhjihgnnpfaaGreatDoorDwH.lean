/- A disk of one's own and a step in memory: questions and steps. Conditions: each theorem's own hypotheses. -/
import Derived.Test.YtifkhjihgnnpfaaGreatDoorDwF
import Derived.Test.YtifkhjihgnnpfaaGreatDoorDwG
namespace Go.Proofs.YtifkhjihgnnpfaaGreatDoor
open Go.RowKit Go.Maps Go.Sort
set_option linter.unusedVariables false

/-- A disk that was made since, and a block beside it. -/
def Dw.Sit (B : Nat) (W0 w : World) (d : Nat) (m : Dk.M) (b : Nat) (t : TypeId) (cs : Array Value) : Prop :=
  ∃ F, Dk.At w d m F ∧ (∀ k, F k → B ≤ k ∧ k ≠ b) ∧ Dk.Good m ∧ Below B W0 w ∧ B ≤ b ∧ Blk w b t cs
section
variable {B d b : Nat} {W0 w w' : World} {m m' : Dk.M} {t : TypeId} {cs : Array Value}
theorem Dw.On.sit (h : Dw.On B W0 w d m) (t : TypeId) (cs : Array Value) : Dw.Sit B W0 (w.alloc (.cells cs t)) d m w.heap.size t cs := by
  have hz := h.size
  have hB : Below w.heap.size w (w.alloc (.cells cs t)) := (Below.refl _ _).alloc (Nat.le_refl _) _
  obtain ⟨F, h1, h2, h3, h4⟩ := h
  exact ⟨F, h1.later hB (Nat.le_refl _), fun k hk => ⟨h2 k hk, fun e => by have := h1.lt hk; omega⟩, h3, h4.trans (hB.mono hz), hz, Blk.new _ _ _⟩
theorem Dw.Sit.on (h : Dw.Sit B W0 w d m b t cs) : Dw.On B W0 w d m := by
  obtain ⟨F, h1, h2, h3, h4, h5, h6⟩ := h
  exact ⟨F, h1, fun k hk => (h2 k hk).1, h3, h4⟩
theorem Dw.Sit.blk (h : Dw.Sit B W0 w d m b t cs) : Blk w b t cs := by
  obtain ⟨F, h1, h2, h3, h4, h5, h6⟩ := h
  exact h6
theorem Dw.Sit.cell (h : Dw.Sit B W0 w d m b t cs) (i : Nat) : w.cell? ⟨b, i, none⟩ = cs[i]? := h.blk.cell i
theorem Dw.Sit.later (h : Dw.Sit B W0 w d m b t cs) (hB : Below w.heap.size w w') : Dw.Sit B W0 w' d m b t cs := by
  have hz := h.on.size
  obtain ⟨F, h1, h2, h3, h4, h5, h6⟩ := h
  exact ⟨F, h1.later hB (Nat.le_refl _), h2, h3, h4.trans (hB.mono hz), h5, (hB.block b h6.lt).trans h6⟩
theorem Dw.Sit.call (h : Dw.Sit B W0 w d m b t cs) {g : FuncId} {args : Array Value} {r : Ending} (hG : Dk.Good m')
    (f : ∀ F, Dk.At w d m F → Dk.Good m → Calls Tryz.prog g args w fun e W' => e = r ∧ Dk.Moved w W' d F m') : Calls Tryz.prog g args w fun e W' => e = r ∧ Dw.Sit B W0 W' d m' b t cs := by
  have hz := h.on.size
  obtain ⟨F, h1, h2, h3, h4, h5, h6⟩ := h
  refine (f F h1 h3).mono fun e W' ⟨he, hm⟩ => ⟨he, ?_⟩
  obtain ⟨F', q1, q2, q3⟩ := hm
  have hlt := h6.lt
  refine ⟨F', q1, fun k hk => ?_, hG, h4.trans (q2.below hz fun k hk => (h2 k hk).1), h5, (q2.block b hlt fun e => (h2 b e).2 rfl).trans h6⟩
  rcases q3 k hk with e | e
  · exact h2 k e
  · exact ⟨by omega, by omega⟩
theorem Dw.Sit.image (h : Dw.Sit B W0 w d m b t cs) {ib : ByteArray} (hib : ib.data.toList = Dk.image m) :
    Calls Tryz.prog 19 #[.pointer (some ⟨d, 0, none⟩)] w fun e W' => e = .returned (.string ib) ∧ Dw.Sit B W0 W' d m b t cs := by
  have h0 := h
  obtain ⟨F, h1, h2, h3, h4, h5, h6⟩ := h
  refine (Dk.image_any h1 h3).mono fun e W' ⟨he, hm⟩ => ⟨?_, h0.later hm⟩
  rw [he, Tx.v_eq hib]
theorem Dw.On.image (h : Dw.On B W0 w d m) {ib : ByteArray} (hib : ib.data.toList = Dk.image m) :
    Calls Tryz.prog 19 #[.pointer (some ⟨d, 0, none⟩)] w fun e W' => e = .returned (.string ib) ∧ Dw.On B W0 W' d m := by
  have h0 := h
  obtain ⟨F, h1, h2, h3, h4⟩ := h
  refine (Dk.image_any h1 h3).mono fun e W' ⟨he, hm⟩ => ⟨?_, h0.later hm⟩
  rw [he, Tx.v_eq hib]
theorem Dw.On.used (h : Dw.On B W0 w d m) {u : Nat} (hu : Dk.used m.files = u) : Calls Tryz.prog 13 #[.pointer (some ⟨d, 0, none⟩)] w fun e W' => e = .returned (.int .i64 u) ∧ w = W' :=
  h.ask fun F hA hG => hu ▸ Dk.used_any hA
theorem Dw.On.writes (h : Dw.On B W0 w d m) {u : Int} (hu : m.writes = u) : Calls Tryz.prog 15 #[.pointer (some ⟨d, 0, none⟩)] w fun e W' => e = .returned (.int .i64 u) ∧ w = W' :=
  h.ask fun F hA hG => hu ▸ Dk.writes_any hA
theorem Dw.On.age (h : Dw.On B W0 w d m) {u : Int} (hu : m.age = u) : Calls Tryz.prog 81 #[.pointer (some ⟨d, 0, none⟩)] w fun e W' => e = .returned (.int .i64 u) ∧ w = W' :=
  h.ask fun F hA hG => hu ▸ Dk.age_any hA
theorem Dw.On.down (h : Dw.On B W0 w d m) {o : Bool} (ho : m.off = o) : Calls Tryz.prog 17 #[.pointer (some ⟨d, 0, none⟩)] w fun e W' => e = .returned (.bool o) ∧ w = W' :=
  h.ask fun F hA hG => ho ▸ Dk.down_any hA
theorem Dw.On.crash (h : Dw.On B W0 w d m) {v : Value} {l : List Dk.Cut} (hc : Dk.Cts w v l) (hn : l.length ≤ 140737488355328) (hm : ∀ c ∈ l, c.name.length ≤ 9223372036854775807) {m' : Dk.M} (hm' : Dk.crash m l = m') :
    Calls Tryz.prog 33 #[.pointer (some ⟨d, 0, none⟩), v] w fun e W' => e = .returned (.tuple #[]) ∧ Dw.On B W0 W' d m' := by
  subst hm'
  exact h.call (Dk.crash_good h.good _) fun F hA hG => Dk.crash_any hA hG hc hn hm
theorem Dw.new_on {n : Nat} (hn : n ≤ 1073741824) {w : World} (h : Below B W0 w) (hB : B ≤ w.heap.size) :
    Calls Tryz.prog 4 #[.int .i64 n] w fun e w' => ∃ d, e = .returned (.pointer (some ⟨d, 0, none⟩)) ∧ Dw.On B W0 w' d (Dk.fresh n) := by
  refine (Dk.new_any n hn w).mono ?_
  rintro e w' ⟨d, F, h1, h2, h3, h4⟩
  exact ⟨d, h1, F, h2, fun k hk => Nat.le_trans hB (h4 k hk), Dk.fresh_good n hn, h.trans (h3.mono hB)⟩
end
#print axioms Dw.new_on
end Go.Proofs.YtifkhjihgnnpfaaGreatDoor
