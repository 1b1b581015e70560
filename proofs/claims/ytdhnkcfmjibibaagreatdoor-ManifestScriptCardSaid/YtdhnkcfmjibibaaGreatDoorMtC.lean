/- Two disks side by side, and blocks beside them; a row of runs of the call's own there. Conditions: each theorem's own hypotheses. -/
import Derived.Test.YtdhnkcfmjibibaaGreatDoorMtB
import Derived.Test.YtdhnkcfmjibibaaGreatDoorMtOpen
import Derived.Test.YtdhnkcfmjibibaaGreatDoorDpA
import Derived.Test.YtdhnkcfmjibibaaGreatDoorMsD
import Derived.Test.YtdhnkcfmjibibaaGreatDoorMfO
import Derived.Deep.RegionHeld3
namespace Go.Proofs.YtdhnkcfmjibibaaGreatDoor
open Go.RowKit Go.Maps
set_option linter.unusedVariables false

def Mt.Two (B : Nat) (W0 w : World) (d : Nat) (m : Dk.M) (r : Nat) (m' : Dk.M) (K : Nat → Prop) : Prop :=
  ∃ F G, Dk.At w d m F ∧ Dr.At w r m' G ∧ (∀ k, F k → B ≤ k ∧ ¬ G k) ∧ (∀ k, G k → B ≤ k) ∧ (∀ k, K k → B ≤ k ∧ k < w.heap.size ∧ ¬ F k ∧ ¬ G k) ∧ Dk.Good m ∧ Dk.Good m' ∧ Below B W0 w
section
variable {B d r : Nat} {W0 w w' : World} {m m' m2 : Dk.M} {K K' : Nat → Prop}
theorem Mt.Two.good1 (h : Mt.Two B W0 w d m r m' K) : Dk.Good m := by obtain ⟨F, G, h1, h2, h3, h4, h5, h6, h7, h8⟩ := h; exact h6
theorem Mt.Two.good2 (h : Mt.Two B W0 w d m r m' K) : Dk.Good m' := by obtain ⟨F, G, h1, h2, h3, h4, h5, h6, h7, h8⟩ := h; exact h7
theorem Mt.Two.below (h : Mt.Two B W0 w d m r m' K) : Below B W0 w := by obtain ⟨F, G, h1, h2, h3, h4, h5, h6, h7, h8⟩ := h; exact h8
theorem Mt.Two.size (h : Mt.Two B W0 w d m r m' K) : B ≤ w.heap.size := by
  obtain ⟨F, G, h1, h2, h3, h4, h5, h6, h7, h8⟩ := h
  exact Nat.le_of_lt (Nat.lt_of_le_of_lt (h3 d h1.self).1 (h1.lt h1.self))
theorem Mt.Two.lt (h : Mt.Two B W0 w d m r m' K) {k : Nat} (hk : K k) : B ≤ k ∧ k < w.heap.size := by
  obtain ⟨F, G, h1, h2, h3, h4, h5, h6, h7, h8⟩ := h
  exact ⟨(h5 k hk).1, (h5 k hk).2.1⟩
theorem Mt.Two.sub (h : Mt.Two B W0 w d m r m' K) (hs : ∀ k, K' k → K k) : Mt.Two B W0 w d m r m' K' := by
  obtain ⟨F, G, h1, h2, h3, h4, h5, h6, h7, h8⟩ := h
  exact ⟨F, G, h1, h2, h3, h4, fun k hk => h5 k (hs k hk), h6, h7, h8⟩
theorem Mt.Two.only (h : Mt.Two B W0 w d m r m' K) {G : Nat → Prop} (ho : Dk.Only G w w') (hG : ∀ k, G k → K k) : Mt.Two B W0 w' d m r m' (fun k => K k ∨ (w.heap.size ≤ k ∧ k < w'.heap.size)) := by
  have hz := h.size
  have hsz := ho.size
  obtain ⟨F, F2, h1, h2, h3, h4, h5, h6, h7, h8⟩ := h
  refine ⟨F, F2, h1.apart ho fun k hk hg => (h5 k (hG k hg)).2.2.1 hk, h2.apart ho fun k hk hg => (h5 k (hG k hg)).2.2.2 hk, h3, h4, fun k hk => ?_, h6, h7, h8.trans (ho.below hz fun k hg => (h5 k (hG k hg)).1)⟩
  rcases hk with hk | hk
  · obtain ⟨a, b, c⟩ := h5 k hk
    exact ⟨a, by omega, c⟩
  · exact ⟨by omega, hk.2, fun hf => by have := h1.lt hf; omega, fun hf => by have := h2.lt hf; omega⟩
theorem Mt.Two.grow (h : Mt.Two B W0 w d m r m' K) (hB : Below w.heap.size w w') : Mt.Two B W0 w' d m r m' (fun k => K k ∨ (w.heap.size ≤ k ∧ k < w'.heap.size)) :=
  h.only (G := fun _ => False) (Dk.Only.of hB) fun k hk => hk.elim
theorem Mt.Two.later (h : Mt.Two B W0 w d m r m' K) (hB : Below w.heap.size w w') : Mt.Two B W0 w' d m r m' K := (h.grow hB).sub fun k hk => .inl hk
theorem Mt.Two.kept (h : Mt.Two B W0 w d m r m' K) (hB : Below w.heap.size w w') : Jl.Kept K w w' := ⟨hB.size, fun k hk => hB.block k (h.lt hk).2⟩
/-- What is known of a call beside the program's disk alone. -/
theorem Mt.Two.one (h : Mt.Two B W0 w d m r m' K) {g : FuncId} {args : Array Value} {e : Ending}
    (f : ∀ K0, Jl.Sit B W0 w d m K0 → Calls Tryz.prog g args w fun x W' => x = e ∧ Jl.Sit B W0 W' d m2 K0 ∧ Jl.Kept K0 w W') : Calls Tryz.prog g args w fun x W' => x = e ∧ Mt.Two B W0 W' d m2 r m' K ∧ Jl.Kept K w W' := by
  obtain ⟨F, G, h1, h2, h3, h4, h5, h6, h7, h8⟩ := h
  refine (f (fun k => K k ∨ G k) ⟨F, h1, fun k hk => (h3 k hk).1, fun k hk => ?_, h6, h8⟩).mono fun x W' ⟨he, hs, hk⟩ => ⟨he, ?_, hk.1, fun k hK => hk.2 k (.inl hK)⟩
  · rcases hk with hk | hk
    · exact ⟨(h5 k hk).1, (h5 k hk).2.1, (h5 k hk).2.2.1⟩
    · exact ⟨h4 k hk, h2.lt hk, fun hf => (h3 k hf).2 hk⟩
  · obtain ⟨F', q1, q2, q3, q4, q5⟩ := hs
    refine ⟨F', G, q1, h2.keep fun k hG => hk.2 k (.inr hG), fun k hf => ⟨q2 k hf, fun hg => (q3 k (.inr hg)).2.2 hf⟩, h4, fun k hK => ?_, q4, h7, q5⟩
    exact ⟨(h5 k hK).1, Nat.lt_of_lt_of_le (h5 k hK).2.1 hk.1, (q3 k (.inl hK)).2.2, (h5 k hK).2.2.2⟩
theorem Mt.Two.two (h : Mt.Two B W0 w d m r m' K) {g : FuncId} {args : Array Value} {e : Ending}
    (f : ∀ K0, Mt.Sit B W0 w r m' K0 → Calls Tryz.prog g args w fun x W' => x = e ∧ Mt.Sit B W0 W' r m2 K0 ∧ Jl.Kept K0 w W') : Calls Tryz.prog g args w fun x W' => x = e ∧ Mt.Two B W0 W' d m r m2 K ∧ Jl.Kept K w W' := by
  obtain ⟨F, G, h1, h2, h3, h4, h5, h6, h7, h8⟩ := h
  refine (f (fun k => K k ∨ F k) ⟨G, h2, h4, fun k hk => ?_, h7, h8⟩).mono fun x W' ⟨he, hs, hk⟩ => ⟨he, ?_, hk.1, fun k hK => hk.2 k (.inl hK)⟩
  · rcases hk with hk | hk
    · exact ⟨(h5 k hk).1, (h5 k hk).2.1, (h5 k hk).2.2.2⟩
    · exact ⟨(h3 k hk).1, h1.lt hk, (h3 k hk).2⟩
  · obtain ⟨G', q1, q2, q3, q4, q5⟩ := hs
    refine ⟨F, G', h1.keep fun k hF => hk.2 k (.inr hF), q1, fun k hf => ⟨(h3 k hf).1, fun hg => (q3 k (.inr hf)).2.2 hg⟩, q2, fun k hK => ?_, h6, q4, q5⟩
    exact ⟨(h5 k hK).1, Nat.lt_of_lt_of_le (h5 k hK).2.1 hk.1, (h5 k hK).2.2.1, (q3 k (.inl hK)).2.2⟩
theorem Mt.Two.sit1 (h : Mt.Two B W0 w d m r m' K) : Jl.Sit B W0 w d m K := by
  obtain ⟨F, G, h1, h2, h3, h4, h5, h6, h7, h8⟩ := h
  exact ⟨F, h1, fun k hk => (h3 k hk).1, fun k hk => ⟨(h5 k hk).1, (h5 k hk).2.1, (h5 k hk).2.2.1⟩, h6, h8⟩
theorem Mt.Two.sit2 (h : Mt.Two B W0 w d m r m' K) : Mt.Sit B W0 w r m' K := by
  obtain ⟨F, G, h1, h2, h3, h4, h5, h6, h7, h8⟩ := h
  exact ⟨G, h2, h4, fun k hk => ⟨(h5 k hk).1, (h5 k hk).2.1, (h5 k hk).2.2.2⟩, h7, h8⟩
theorem Mt.Two.duo {L : List (Nat × Obj)} (h : Mt.Two B W0 w d m r m' K) (hL : ∀ p ∈ L, K p.1 ∧ w.heap[p.1]? = some p.2) : Dp.Duo B W0 w d m r m' L := by
  obtain ⟨F, G, h1, h2, h3, h4, h5, h6, h7, h8⟩ := h
  exact ⟨F, G, h1, h2, h3, h4, fun p hp => ⟨(h5 _ (hL p hp).1).1, (hL p hp).2, (h5 _ (hL p hp).1).2.2.1, (h5 _ (hL p hp).1).2.2.2⟩, h6, h7, h8⟩
theorem Mt.Two.of {L : List (Nat × Obj)} (h : Dp.Duo B W0 w d m r m' L) : Mt.Two B W0 w d m r m' (fun k => ∃ o, (k, o) ∈ L) := by
  obtain ⟨F, G, h1, h2, h3, h4, h5, h6, h7, h8⟩ := h
  exact ⟨F, G, h1, h2, h3, h4, fun k ⟨o, ho⟩ => ⟨(h5 _ ho).1, Dp.lt_of (h5 _ ho).2.1, (h5 _ ho).2.2.1, (h5 _ ho).2.2.2⟩, h6, h7, h8⟩
theorem Mt.Two.block_step (S : Mt.Two B W0 w d m r m' K) (o : Obj) : ∃ K' : Nat → Prop, (∀ k, K k → K' k) ∧ Mt.Two B W0 (w.alloc o) d m r m' K' ∧ K' w.heap.size ∧ Below w.heap.size w (w.alloc o) := by
  have hA : Below w.heap.size w (w.alloc o) := (Below.refl _ _).alloc (Nat.le_refl _) _
  exact ⟨_, fun k hk => .inl hk, S.grow hA, .inr ⟨Nat.le_refl _, by simp⟩, hA⟩
theorem Mt.Two.fresh_step {w1 : World} {A : Option Addr} {cap : Nat} {X : Man} (S : Mt.Two B W0 w d m r m' K) (hr : Runs w1 w.heap.size A cap X.runs) (hb : Below w.heap.size w w1) :
    ∃ K' : Nat → Prop, (∀ k, K k → K' k) ∧ Mt.Two B W0 (w1.alloc (.cells (manCells X A cap) 31)) d m r m' K' ∧ Ms.Mb (w1.alloc (.cells (manCells X A cap) 31)) K' w1.heap.size X A cap ∧ (∀ g off, A = some ⟨g, off, none⟩ → w.heap.size ≤ g ∧ g < w1.heap.size ∧ K' g) ∧ Runs (w1.alloc (.cells (manCells X A cap) 31)) w.heap.size A cap X.runs ∧ Below w.heap.size w (w1.alloc (.cells (manCells X A cap) 31)) ∧ w.heap.size ≤ w1.heap.size ∧ (w1.alloc (.cells (manCells X A cap) 31)).heap.size = w1.heap.size + 1 := by
  have hA : Below w1.heap.size w1 (w1.alloc (.cells (manCells X A cap) 31)) := (Below.refl _ _).alloc (Nat.le_refl _) _
  have h2 := hb.trans (hA.mono hb.size)
  have hz : (w1.alloc (.cells (manCells X A cap) 31)).heap.size = w1.heap.size + 1 := by simp
  have hs := hb.size
  have hg : ∀ g off, A = some ⟨g, off, none⟩ → w.heap.size ≤ g ∧ g < w1.heap.size := fun g off e => by
    subst e
    exact World.ownsRow.lt hr g rfl
  refine ⟨_, fun k hk => .inl hk, S.grow h2, ⟨Blk.new _ _ _, (hr.rs.below hA).more hA.size, .inr ⟨hs, by rw [hz]; omega⟩, fun h0 g off e => .inr ?_⟩, fun g off e => ⟨(hg g off e).1, (hg g off e).2, .inr ?_⟩, own_keep hr (Nat.le_refl _) fun k _ hk => hA.block k hk, h2, hs, hz⟩
  · have := hg g off e; rw [hz]; omega
  · have := hg g off e; rw [hz]; omega
end
/-- A row of runs of the call's own, whatever they are; the others' blocks are as they were. -/
structure Mt.Ro (B : Nat) (W0 : World) (d : Nat) (m : Dk.M) (r : Nat) (m' : Dk.M) (KA : Nat → Prop) (w0 : World) (n : Nat) (v : Value) (w : World) : Prop where
  two : Mt.Two B W0 w d m r m' (fun k => KA k ∨ v.ownBlock = some k)
  own : ∃ xs, w.ownsRow B 42 4 v n xs
  apart : ∀ g, v.ownBlock = some g → ¬ KA g
  kept : Jl.Kept KA w0 w
section
variable {B d r n : Nat} {W0 w w0 w' : World} {m m' m2 : Dk.M} {K KA : Nat → Prop} {v : Value}
theorem Mt.Ro.start (T : Mt.Two B W0 w d m r m' K) {xs : List Value} (ho : w.ownsRow B 42 4 v n xs) (hv : ∀ g, v.ownBlock = some g → K g) : Mt.Ro B W0 d m r m' (fun k => K k ∧ v.ownBlock ≠ some k) w n v w :=
  ⟨T.sub fun k hk => hk.elim (fun h => h.1) (hv k), ⟨xs, ho⟩, fun g e h => h.2 e, Nat.le_refl _, fun _ _ => rfl⟩
theorem Mt.shut {W : World} {g cap : Nat} {cur : Array Value} (hb : Blk W g 42 cur) (hl : B ≤ g) (h1 : n ≤ cap) (h2 : cap ≤ maxLen) (h3 : cur.size = cap * 4) : ∃ xs, W.ownsRow B 42 4 (.slice (some ⟨g, 0, none⟩) n cap) n xs :=
  (Own4.shut (top := 0) (hi := g + 1) (show Mine B (g + 1) 0 g from .inl ⟨hl, Nat.lt_succ_self _⟩) hb hl h1 h2 h3).1
theorem Mt.Ro.open_ {A : Option Addr} {cap : Nat} (h : Mt.Ro B W0 d m r m' KA w0 n (.slice A n cap) w) (h0 : 0 < n) : ∃ g cur, A = some ⟨g, 0, none⟩ ∧ ¬ KA g ∧ Blk w g 42 cur ∧ B ≤ g ∧ n ≤ cap ∧ cap ≤ maxLen ∧ cur.size = cap * 4 := by
  obtain ⟨xs, ho⟩ := h.own
  obtain ⟨g, cur, h1, _, h2⟩ := Own4.open_ (lo := B) (hi := w.heap.size) (top := 0) ⟨⟨xs, ho⟩, fun g e => .inl (World.ownsRow.lt ho g e)⟩ h0
  exact ⟨g, cur, h1, h.apart g (by rw [h1]; rfl), h2⟩
theorem Mt.Ro.set_ {g cap : Nat} (h : Mt.Ro B W0 d m r m' KA w0 n (.slice (some ⟨g, 0, none⟩) n cap) w) (h0 : 0 < n) (i : Nat) (u : Value) : Mt.Ro B W0 d m r m' KA w0 n (.slice (some ⟨g, 0, none⟩) n cap) (w.setCell ⟨g, i, none⟩ u) := by
  obtain ⟨g', cur, e, h1, h2, h3, h4, h5, h6⟩ := h.open_ h0
  injection e with e
  injection e with e
  subst e
  refine ⟨(h.two.only (G := fun k => k = g) (Dk.Only.setCell (F := fun k => k = g) (Dk.Only.refl _ w) (p := ⟨g, i, none⟩) (.inl rfl) u) fun k hk => .inr (by rw [hk]; rfl)).sub fun k hk => .inl hk, Mt.shut (h2.set_ i u) h3 h4 h5 (by simp [h6]), h.apart, by simpa [World.setCell] using h.kept.1, fun k hk => ?_⟩
  exact (Below.heap_setCell w ⟨g, i, none⟩ u k fun e => h1 (by have e' : k = g := e; rw [← e']; exact hk)).trans (h.kept.2 k hk)
theorem Mt.Ro.put4 {g cap j0 j1 j2 j3 : Nat} {u0 u1 u2 u3 : Value} (h : Mt.Ro B W0 d m r m' KA w0 n (.slice (some ⟨g, 0, none⟩) n cap) w) (h0 : 0 < n) : Mt.Ro B W0 d m r m' KA w0 n (.slice (some ⟨g, 0, none⟩) n cap) ((((w.setCell ⟨g, j0, none⟩ u0).setCell ⟨g, j1, none⟩ u1).setCell ⟨g, j2, none⟩ u2).setCell ⟨g, j3, none⟩ u3) :=
  (((h.set_ h0 _ _).set_ h0 _ _).set_ h0 _ _).set_ h0 _ _
theorem Mt.Ro.later (h : Mt.Ro B W0 d m r m' KA w0 n v w) (hB : Below w.heap.size w w') : Mt.Ro B W0 d m r m' KA w0 n v w' := by
  obtain ⟨xs, ho⟩ := h.own
  refine ⟨h.two.later hB, ⟨xs, own_keep ho (Nat.le_refl _) fun k _ hk => hB.block k hk⟩, h.apart, Nat.le_trans h.kept.1 hB.size, fun k hk => (hB.block k (h.two.lt (.inl hk)).2).trans (h.kept.2 k hk)⟩
theorem Mt.Ro.grown {n' g2 cap2 : Nat} {o : Obj} {xs : List Value} (h : Mt.Ro B W0 d m r m' KA w0 n v w) (ho : w'.ownsRow B 42 4 (.slice (some ⟨g2, 0, none⟩) n' cap2) n' xs) (hg : (w.alloc o).grownBy w' v.ownBlock) (hat : v.ownBlock = some g2 ∨ g2 = (w.alloc o).heap.size) : Mt.Ro B W0 d m r m' KA w0 n' (.slice (some ⟨g2, 0, none⟩) n' cap2) w' := by
  have hO : Dk.Only (fun k => v.ownBlock = some k) w w' := ((Dk.Only.refl _ w).alloc o).grown hg fun k e => .inl e
  have hlt := World.ownsRow.lt ho g2 rfl
  have hz : (w.alloc o).heap.size = w.heap.size + 1 := by simp
  refine ⟨(h.two.only hO fun k hk => .inr hk).sub fun k hk => ?_, ⟨_, ho⟩, fun g e hk => ?_, Nat.le_trans h.kept.1 hO.size, fun k hk => (hO.block k (h.two.lt (.inl hk)).2 fun e => h.apart k e hk).trans (h.kept.2 k hk)⟩
  · rcases hk with hk | hk
    · exact .inl (.inl hk)
    · obtain rfl : g2 = k := Option.some.inj hk
      rcases hat with e | e
      · exact .inl (.inr e)
      · exact .inr ⟨by omega, hlt.2⟩
  · obtain rfl : g2 = g := Option.some.inj e
    rcases hat with e | e
    · exact h.apart _ e hk
    · have := (h.two.lt (.inl hk)).2
      omega
end
/-- Steps, whole, in a block. -/
def Mt.opCells : List Mt.Op → List Value
  | [] => []
  | t :: l => t.cells ++ Mt.opCells l
theorem Mt.cells_len (t : Mt.Op) : t.cells.length = 13 := rfl
theorem Mt.opCells_len : ∀ l, (Mt.opCells l).length = l.length * 13
  | [] => rfl
  | t :: l => by rw [Mt.opCells, List.length_append, Mt.opCells_len l, Mt.cells_len, List.length_cons]; omega
theorem Mt.opCells_append : ∀ a b, Mt.opCells (a ++ b) = Mt.opCells a ++ Mt.opCells b
  | [], _ => rfl
  | t :: a, b => by rw [List.cons_append, Mt.opCells, Mt.opCells, Mt.opCells_append a b, List.append_assoc]
theorem Mt.opCells_get : ∀ (l : List Mt.Op) (j : Nat) (t : Mt.Op), l[j]? = some t → ∀ i v, t.cells[i]? = some v → (Mt.opCells l)[j * 13 + i]? = some v
  | [], j, t, h => by simp at h
  | x :: l, 0, t, h => fun i v hi => by
    obtain rfl := Option.some.inj h
    have hl := (List.getElem?_eq_some_iff.1 hi).1
    rw [Mt.opCells, Nat.zero_mul, Nat.zero_add, List.getElem?_append_left hl]
    exact hi
  | x :: l, j + 1, t, h => fun i v hi => by
    have ih := Mt.opCells_get l j t h i v hi
    rw [Mt.opCells, List.getElem?_append_right (by rw [Mt.cells_len]; omega), Mt.cells_len, show (j + 1) * 13 + i - 13 = j * 13 + i by omega]
    exact ih
theorem Mt.opCells_of : ∀ (l : List Mt.Op) (q : Nat) (u : Value), (Mt.opCells l)[q]? = some u → ∃ j t i, l[j]? = some t ∧ t.cells[i]? = some u ∧ q = j * 13 + i
  | [], q, u, h => by simp [Mt.opCells] at h
  | x :: l, q, u, h => by
    rw [Mt.opCells] at h
    by_cases hq : q < 13
    · rw [List.getElem?_append_left (by rw [Mt.cells_len]; exact hq)] at h
      exact ⟨0, x, q, rfl, h, by omega⟩
    · rw [List.getElem?_append_right (by rw [Mt.cells_len]; omega), Mt.cells_len] at h
      obtain ⟨j, t, i, h1, h2, h3⟩ := Mt.opCells_of l _ u h
      exact ⟨j + 1, t, i, h1, h2, by omega⟩
theorem Mt.opCells_one : ∀ (l : List Mt.Op), (∀ t ∈ l, t.cv.oneCell' = true) → ∀ u ∈ Mt.opCells l, u.oneCell' = true
  | [], _, u, hu => by cases hu
  | t :: l, h, u, hu => by
    rw [Mt.opCells] at hu
    rcases List.mem_append.1 hu with hu | hu
    · have hc := h t (List.mem_cons_self ..)
      unfold Mt.Op.cells at hu
      simp only [List.mem_cons, List.not_mem_nil, or_false] at hu
      rcases hu with rfl | rfl | rfl | rfl | rfl | rfl | rfl | rfl | rfl | rfl | rfl | rfl | rfl
      iterate 10 rfl
      · exact hc
      · rfl
      · rfl
    · exact Mt.opCells_one l (fun t ht => h t (List.mem_cons_of_mem _ ht)) u hu
theorem Mt.opInfo : (Tryz.prog.info? 34).map (fun i => (i.zero, i.size, i.bytes)) = some (some (.agg #[.int .i64 0, .int .i64 0, .int .i64 0, .int .i64 0, .int .i64 0, .int .i64 0, .int .i64 0, .slice none 0 0, .int .i64 0, .bool false, .slice none 0 0, .string ⟨#[]⟩, .string ⟨#[]⟩]), 13, 152) := by kernel_rfl
theorem Mt.Ops.cells {W : World} {B : Nat} {ad : Addr} {L : List Mt.Op} (H : Mt.Ops W B (some ad) L) : ∀ j u, (Mt.opCells L)[j]? = some u → W.cell? (ad.add j) = some u := by
  intro j u hj
  obtain ⟨k, t, i, h1, h2, rfl⟩ := Mt.opCells_of L j u hj
  have h0 : 0 < L.length := Nat.lt_of_le_of_lt (Nat.zero_le _) (List.getElem?_eq_some_iff.1 h1).1
  obtain ⟨b, off, e, hb, hc⟩ := H h0
  obtain rfl := Option.some.inj e
  rw [addLit]
  exact hc k t h1 i u h2
/-- The last step of a script. -/
def Mt.last : Mt.Op := ⟨2, ⟨0, 0, 0, 0, 0, 0, []⟩, none, 0, 0, false, .slice none 0 0, [], ⟨#[]⟩, ⟨#[]⟩⟩
/-- A script that lies in a block of its own, from cell 0 on. -/
def Mt.Scr (lb : Nat) (L : List Mt.Op) (w : World) : Prop := ∀ j t, L[j]? = some t → ∀ i v, t.cells[i]? = some v → w.cell? ⟨lb, j * 13 + i, none⟩ = some v
theorem Mt.Scr.kept {lb : Nat} {L : List Mt.Op} {w w' : World} {K : Nat → Prop} (h : Mt.Scr lb L w) (hk : Jl.Kept K w w') (hK : K lb) : Mt.Scr lb L w' := fun j t hj i v hi =>
  (World.cell?_of_block (hk.2 lb hK)).trans (h j t hj i v hi)
theorem Mt.Scr.later {lb : Nat} {L : List Mt.Op} {w w' : World} (h : Mt.Scr lb L w) (hB : Below w.heap.size w w') (hlt : lb < w.heap.size) : Mt.Scr lb L w' := fun j t hj i v hi =>
  (World.cell?_of_block (hB.block lb hlt)).trans (h j t hj i v hi)
end Go.Proofs.YtdhnkcfmjibibaaGreatDoor
