/- The law's helper twin, for manifests. Conditions: each theorem's own hypotheses. -/
import Derived.Test.YtffdplmnjlcmnaaDoorMfJ
import Derived.Laws.AppendOwnNone
import Derived.Deep.AppendLies
namespace Go.Proofs.YtffdplmnjlcmnaaDoor
open Go.RowKit Go.Maps
set_option linter.unusedVariables false

theorem infoRun : (Tryd.prog.info? 38).map (fun i => (i.zero, i.size, i.bytes)) = some (some (.agg #[.int .i64 0, .int .i64 0, .int .i64 0, .int .i64 0]), 4, 32) := by kernel_rfl

/-- The runs' cells. -/
def cellsOf : List Run → List Value
  | [] => []
  | h :: l => .int .i64 h.num :: .int .i64 h.lo :: .int .i64 h.hi :: .int .i64 h.cnt :: cellsOf l
theorem cellsOf_len : ∀ l, (cellsOf l).length = l.length * 4
  | [] => rfl
  | h :: l => by rw [cellsOf, List.length_cons, List.length_cons, List.length_cons, List.length_cons, cellsOf_len l, List.length_cons]; omega
theorem cellsOf_append : ∀ a b, cellsOf (a ++ b) = cellsOf a ++ cellsOf b
  | [], _ => rfl
  | h :: a, b => by rw [List.cons_append, cellsOf, cellsOf, cellsOf_append a b]; rfl
theorem cellsOf_one : ∀ (l : List Run), ∀ u ∈ cellsOf l, u.oneCell' = true
  | [], u, hu => by cases hu
  | h :: l, u, hu => by
    rw [cellsOf] at hu
    rcases List.mem_cons.1 hu with rfl | hu
    · rfl
    rcases List.mem_cons.1 hu with rfl | hu
    · rfl
    rcases List.mem_cons.1 hu with rfl | hu
    · rfl
    rcases List.mem_cons.1 hu with rfl | hu
    · rfl
    exact cellsOf_one l u hu
theorem cellsOf_get : ∀ (l : List Run) (q : Nat) (h : Run), l[q]? = some h → (cellsOf l)[q * 4]? = some (.int .i64 h.num) ∧ (cellsOf l)[q * 4 + 1]? = some (.int .i64 h.lo) ∧ (cellsOf l)[q * 4 + 2]? = some (.int .i64 h.hi) ∧ (cellsOf l)[q * 4 + 3]? = some (.int .i64 h.cnt)
  | [], q, h, hq => by simp at hq
  | x :: l, 0, h, hq => by
    obtain rfl := Option.some.inj hq
    exact ⟨rfl, rfl, rfl, rfl⟩
  | x :: l, q + 1, h, hq => by
    have := cellsOf_get l q h hq
    rw [show (q + 1) * 4 = q * 4 + 1 + 1 + 1 + 1 from by omega, cellsOf]
    exact this
theorem cellsOf_of : ∀ (l : List Run) (j : Nat) (u : Value), (cellsOf l)[j]? = some u → ∃ q h, l[q]? = some h ∧ (j = q * 4 ∧ u = .int .i64 h.num ∨ j = q * 4 + 1 ∧ u = .int .i64 h.lo ∨ j = q * 4 + 2 ∧ u = .int .i64 h.hi ∨ j = q * 4 + 3 ∧ u = .int .i64 h.cnt)
  | [], j, u, hu => by simp [cellsOf] at hu
  | x :: l, 0, u, hu => ⟨0, x, rfl, Or.inl ⟨rfl, (Option.some.inj hu).symm⟩⟩
  | x :: l, 1, u, hu => ⟨0, x, rfl, Or.inr (Or.inl ⟨rfl, (Option.some.inj hu).symm⟩)⟩
  | x :: l, 2, u, hu => ⟨0, x, rfl, Or.inr (Or.inr (Or.inl ⟨rfl, (Option.some.inj hu).symm⟩))⟩
  | x :: l, 3, u, hu => ⟨0, x, rfl, Or.inr (Or.inr (Or.inr ⟨rfl, (Option.some.inj hu).symm⟩))⟩
  | x :: l, j + 4, u, hu => by
    rw [cellsOf] at hu
    obtain ⟨q, h, hq, hh⟩ := cellsOf_of l j u hu
    refine ⟨q + 1, h, hq, ?_⟩
    rcases hh with ⟨rfl, hh⟩ | ⟨rfl, hh⟩ | ⟨rfl, hh⟩ | ⟨rfl, hh⟩
    · exact Or.inl ⟨by omega, hh⟩
    · exact Or.inr (Or.inl ⟨by omega, hh⟩)
    · exact Or.inr (Or.inr (Or.inl ⟨by omega, hh⟩))
    · exact Or.inr (Or.inr (Or.inr ⟨by omega, hh⟩))

/-- Where the cells lie the runs lie. -/
theorem Rs.of_cells {W : World} {B b off : Nat} {hs : List Run} (hb : b < B) (hc : ∀ j u, (cellsOf hs)[j]? = some u → W.cell? ⟨b, off + j, none⟩ = some u) : Rs W B (some ⟨b, off, none⟩) hs := by
  intro _
  refine ⟨b, off, rfl, hb, fun j h hj => ?_⟩
  obtain ⟨h0, h1, h2, h3⟩ := cellsOf_get hs j h hj
  exact ⟨hc _ _ h0, hc _ _ h1, hc _ _ h2, hc _ _ h3⟩
theorem Rs.cells {W : World} {B : Nat} {ad : Addr} {hs : List Run} (H : Rs W B (some ad) hs) : ∀ j u, (cellsOf hs)[j]? = some u → W.cell? (ad.add j) = some u := by
  intro j u hu
  obtain ⟨q, h, hq, hh⟩ := cellsOf_of hs j u hu
  have hl : q < hs.length := (List.getElem?_eq_some_iff.1 hq).1
  obtain ⟨b, off, hA, hb, hc⟩ := H (by omega)
  obtain rfl := Option.some.inj hA
  obtain ⟨h0, h1, h2, h3⟩ := hc q h hq
  rw [addLit]
  rcases hh with ⟨rfl, rfl⟩ | ⟨rfl, rfl⟩ | ⟨rfl, rfl⟩ | ⟨rfl, rfl⟩
  · exact h0
  · exact h1
  · exact h2
  · exact h3

/-- The mark behind a twin. -/
def mark : Run := ⟨-7, 0, 0, 0⟩

/-- A row of the call's own that holds these runs. -/
def Own (W : World) (base : Nat) (g cap : Nat) (hs : List Run) : Prop := W.ownsRow base 38 4 (.slice (some ⟨g, 0, none⟩) hs.length cap) hs.length (cellsOf hs)
theorem Own.lt {W : World} {base g cap : Nat} {hs : List Run} (h : Own W base g cap hs) : base ≤ g ∧ g < W.heap.size := World.ownsRow.lt h g rfl
theorem Own.rs {W : World} {base g cap : Nat} {hs : List Run} (h : Own W base g cap hs) : Rs W W.heap.size (some ⟨g, 0, none⟩) hs :=
  Rs.of_cells h.lt.2 fun j u hu => by have := World.ownsRow.cells h (g := g) rfl j u hu; rwa [addLit] at this

theorem mark_cells (w : World) : ∀ j u, (cellsOf [mark])[j]? = some u → (w.alloc (.cells #[.int .i64 (-7), .int .i64 0, .int .i64 0, .int .i64 0] 38)).cell? ((⟨w.heap.size, 0, none⟩ : Addr).add j) = some u := by
  intro j u hu
  rw [addLit]
  obtain ⟨q, h, hq, hh⟩ := cellsOf_of _ j u hu
  have hq0 : q = 0 := by have := (List.getElem?_eq_some_iff.1 hq).1; simp at this; omega
  subst hq0
  obtain rfl := Option.some.inj hq
  rcases hh with ⟨rfl, rfl⟩ | ⟨rfl, rfl⟩ | ⟨rfl, rfl⟩ | ⟨rfl, rfl⟩
  · exact World.cell?_alloc_at _ _ _ _ rfl
  · exact World.cell?_alloc_at _ _ _ _ rfl
  · exact World.cell?_alloc_at _ _ _ _ rfl
  · exact World.cell?_alloc_at _ _ _ _ rfl

def zeroMan : Array Value := #[.int .i64 0, .int .i64 0, .int .i64 0, .int .i64 0, .int .i64 0, .int .i64 0, .slice none 0 0]

end Go.Proofs.YtffdplmnjlcmnaaDoor
