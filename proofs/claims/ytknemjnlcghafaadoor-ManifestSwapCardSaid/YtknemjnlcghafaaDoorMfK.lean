/- The law's helper twin, for manifests. Conditions: each theorem's own hypotheses. -/
import Derived.Test.YtknemjnlcghafaaDoorMfI
import Derived.Laws.AppendOwnNone
import Derived.Deep.AppendLies
namespace Go.Proofs.YtknemjnlcghafaaDoor
open Go.RowKit Go.Maps
set_option linter.unusedVariables false

theorem infoRun : (Tryd.prog.info? 54).map (fun i => (i.zero, i.size, i.bytes)) = some (some (.agg #[.int .i64 0, .int .i64 0, .int .i64 0, .int .i64 0]), 4, 32) := by kernel_rfl

/-- The runs' cells. -/
def cellsOf : List Run → List Value
  | [] => []
  | h :: l => .int .i64 h.num :: .int .i64 h.lo :: .int .i64 h.hi :: .int .i64 h.cnt :: cellsOf l
theorem cellsOf_len : ∀ l, (cellsOf l).length = l.length * 4
  | [] => rfl
  | h :: l => by rw [cellsOf, List.length_cons, List.length_cons, List.length_cons, List.length_cons, cellsOf_len l, List.length_cons]; omega
theorem cellsOf_append : ∀ a b, cellsOf (a ++ b) = cellsOf a ++ cellsOf b
  | [], _ => rfl
  | h :: a, b => by rw [List.cons_append, cellsOf, cellsOf, cellsOf_append a b]; rfl
theorem cellsOf_one : ∀ (l : List Run), ∀ u ∈ cellsOf l, u.oneCell' = true
  | [], u, hu => by cases hu
  | h :: l, u, hu => by
    rw [cellsOf] at hu
    rcases List.mem_cons.1 hu with rfl | hu
    · rfl
    rcases List.mem_cons.1 hu with rfl | hu
    · rfl
    rcases List.mem_cons.1 hu with rfl | hu
    · rfl
    rcases List.mem_cons.1 hu with rfl | hu
    · rfl
    exact cellsOf_one l u hu
theorem cellsOf_get : ∀ (l : List Run) (q : Nat) (h : Run), l[q]? = some h → (cellsOf l)[q * 4]? = some (.int .i64 h.num) ∧ (cellsOf l)[q * 4 + 1]? = some (.int .i64 h.lo) ∧ (cellsOf l)[q * 4 + 2]? = some (.int .i64 h.hi) ∧ (cellsOf l)[q * 4 + 3]? = some (.int .i64 h.cnt)
  | [], q, h, hq => by simp at hq
  | x :: l, 0, h, hq => by
    obtain rfl := Option.some.inj hq
    exact ⟨rfl, rfl, rfl, rfl⟩
  | x :: l, q + 1, h, hq => by
    have := cellsOf_get l q h hq
    rw [show (q + 1) * 4 = q * 4 + 1 + 1 + 1 + 1 from by omega, cellsOf]
    exact this
theorem cellsOf_of : ∀ (l : List Run) (j : Nat) (u : Value), (cellsOf l)[j]? = some u → ∃ q h, l[q]? = some h ∧ (j = q * 4 ∧ u = .int .i64 h.num ∨ j = q * 4 + 1 ∧ u = .int .i64 h.lo ∨ j = q * 4 + 2 ∧ u = .int .i64 h.hi ∨ j = q * 4 + 3 ∧ u = .int .i64 h.cnt)
  | [], j, u, hu => by simp [cellsOf] at hu
  | x :: l, 0, u, hu => ⟨0, x, rfl, Or.inl ⟨rfl, (Option.some.inj hu).symm⟩⟩
  | x :: l, 1, u, hu => ⟨0, x, rfl, Or.inr (Or.inl ⟨rfl, (Option.some.inj hu).symm⟩)⟩
  | x :: l, 2, u, hu => ⟨0, x, rfl, Or.inr (Or.inr (Or.inl ⟨rfl, (Option.some.inj hu).symm⟩))⟩
  | x :: l, 3, u, hu => ⟨0, x, rfl, Or.inr (Or.inr (Or.inr ⟨rfl, (Option.some.inj hu).symm⟩))⟩
  | x :: l, j + 4, u, hu => by
    rw [cellsOf] at hu
    obtain ⟨q, h, hq, hh⟩ := cellsOf_of l j u hu
    refine ⟨q + 1, h, hq, ?_⟩
    rcases hh with ⟨rfl, hh⟩ | ⟨rfl, hh⟩ | ⟨rfl, hh⟩ | ⟨rfl, hh⟩
    · exact Or.inl ⟨by omega, hh⟩
    · exact Or.inr (Or.inl ⟨by omega, hh⟩)
    · exact Or.inr (Or.inr (Or.inl ⟨by omega, hh⟩))
    · exact Or.inr (Or.inr (Or.inr ⟨by omega, hh⟩))

/-- Where the cells lie the runs lie. -/
theorem Rs.of_cells {W : World} {B b off : Nat} {hs : List Run} (hb : b < B) (hc : ∀ j u, (cellsOf hs)[j]? = some u → W.cell? ⟨b, off + j, none⟩ = some u) : Rs W B (some ⟨b, off, none⟩) hs := by
  intro _
  refine ⟨b, off, rfl, hb, fun j h hj => ?_⟩
  obtain ⟨h0, h1, h2, h3⟩ := cellsOf_get hs j h hj
  exact ⟨hc _ _ h0, hc _ _ h1, hc _ _ h2, hc _ _ h3⟩
theorem Rs.cells {W : World} {B : Nat} {ad : Addr} {hs : List Run} (H : Rs W B (some ad) hs) : ∀ j u, (cellsOf hs)[j]? = some u → W.cell? (ad.add j) = some u := by
  intro j u hu
  obtain ⟨q, h, hq, hh⟩ := cellsOf_of hs j u hu
  have hl : q < hs.length := (List.getElem?_eq_some_iff.1 hq).1
  obtain ⟨b, off, hA, hb, hc⟩ := H (by omega)
  obtain rfl := Option.some.inj hA
  obtain ⟨h0, h1, h2, h3⟩ := hc q h hq
  rw [addLit]
  rcases hh with ⟨rfl, rfl⟩ | ⟨rfl, rfl⟩ | ⟨rfl, rfl⟩ | ⟨rfl, rfl⟩
  · exact h0
  · exact h1
  · exact h2
  · exact h3

/-- The mark behind a twin. -/
def mark : Run := ⟨-7, 0, 0, 0⟩

/-- A row of the call's own that holds these runs. -/
def Own (W : World) (base : Nat) (g cap : Nat) (hs : List Run) : Prop := W.ownsRow base 54 4 (.slice (some ⟨g, 0, none⟩) hs.length cap) hs.length (cellsOf hs)
theorem Own.lt {W : World} {base g cap : Nat} {hs : List Run} (h : Own W base g cap hs) : base ≤ g ∧ g < W.heap.size := World.ownsRow.lt h g rfl
theorem Own.rs {W : World} {base g cap : Nat} {hs : List Run} (h : Own W base g cap hs) : Rs W W.heap.size (some ⟨g, 0, none⟩) hs :=
  Rs.of_cells h.lt.2 fun j u hu => by have := World.ownsRow.cells h (g := g) rfl j u hu; rwa [addLit] at this

theorem mark_cells (w : World) : ∀ j u, (cellsOf [mark])[j]? = some u → (w.alloc (.cells #[.int .i64 (-7), .int .i64 0, .int .i64 0, .int .i64 0] 54)).cell? ((⟨w.heap.size, 0, none⟩ : Addr).add j) = some u := by
  intro j u hu
  rw [addLit]
  obtain ⟨q, h, hq, hh⟩ := cellsOf_of _ j u hu
  have hq0 : q = 0 := by have := (List.getElem?_eq_some_iff.1 hq).1; simp at this; omega
  subst hq0
  obtain rfl := Option.some.inj hq
  rcases hh with ⟨rfl, rfl⟩ | ⟨rfl, rfl⟩ | ⟨rfl, rfl⟩ | ⟨rfl, rfl⟩
  · exact World.cell?_alloc_at _ _ _ _ rfl
  · exact World.cell?_alloc_at _ _ _ _ rfl
  · exact World.cell?_alloc_at _ _ _ _ rfl
  · exact World.cell?_alloc_at _ _ _ _ rfl

def zeroMan : Array Value := #[.int .i64 0, .int .i64 0, .int .i64 0, .int .i64 0, .int .i64 0, .int .i64 0, .slice none 0 0]

end Go.Proofs.YtknemjnlcghafaaDoor
/- The law's helper twin, for manifests: its contract. Conditions: each theorem's own hypotheses. -/
namespace Go.Proofs.YtknemjnlcghafaaDoor
open Go.RowKit Go.Maps
set_option linter.unusedVariables false

theorem own_keep {w w' : World} {base base' n size : Nat} {e : TypeId} {v : Value} {xs : List Value} (h : w.ownsRow base e size v n xs) (hb : base' ≤ base) (hk : ∀ k, base ≤ k → k < w.heap.size → w'.heap[k]? = w.heap[k]?) : w'.ownsRow base' e size v n xs := by
  refine ⟨h.1, h.2.imp id ?_⟩
  rintro ⟨g, cap, cur, h1, h2, h3, h4⟩
  refine ⟨g, cap, cur, h1, Nat.le_trans hb h2, (hk g h2 ?_).trans h3, h4⟩
  rcases Nat.lt_or_ge g w.heap.size with h' | h'
  · exact h'
  · rw [Array.getElem?_eq_none h'] at h3; cases h3
theorem own_cap {w : World} {base g n cap size : Nat} {e : TypeId} {xs : List Value} (h : w.ownsRow base e size (.slice (some ⟨g, 0, none⟩) (n + 1) cap) (n + 1) xs) : n ≤ cap := by
  rcases h.2 with ⟨h, _⟩ | ⟨g', cap', cur, hv, _, _, hc, _⟩
  · cases h
  · cases hv; omega
end Go.Proofs.YtknemjnlcghafaaDoor
/- The law's helper same, of a manifest and its copy. Conditions: each theorem's own hypotheses. -/
namespace Go.Proofs.YtknemjnlcghafaaDoor
open Go.RowKit Go.Maps
set_option linter.unusedVariables false

theorem num_any (e : Int) (w : World) : Calls Tryd.prog 7 #[.int .i64 e] w fun r w' => r = .returned (.int .i64 e) ∧ w' = w := by
  go_enter Tryd.func7, Tryd.ntmps7
  go_wp2_with fail
  go_ret
  exact ⟨rfl, rfl⟩

def SmRel (M : Man) (A A' : Option Addr) (cap cap' : Nat) (w : World) (i : Value) (wr : World) : Prop :=
  ∃ k : Nat, k ≤ M.runs.length ∧ i = .int .i64 k ∧ Blk wr w.heap.size 26 (manCells M A cap) ∧ Blk wr (w.heap.size + 1) 26 (manCells M A' cap') ∧ Below w.heap.size w wr

set_option maxRecDepth 100000 in
set_option maxHeartbeats 1000000 in
theorem same_any (M : Man) (A A' : Option Addr) (cap cap' : Nat) (w : World) (H : Rs w w.heap.size A M.runs) (H' : Rs w w.heap.size A' M.runs) (hm : M.runs.length ≤ 4398046511104) :
    Calls Tryd.prog 14 #[manV M A cap, manV M A' cap'] w fun e w' => e = .returned (.bool true) ∧ Below w.heap.size w w' := by
  unfold manV
  go_enter Tryd.func14, Tryd.ntmps14
  have hk1 : ∀ o : Obj, (w.alloc o).heap.size = w.heap.size + 1 := fun o => by simp
  have hb0 : Blk ((w.alloc (.cells (manCells M A cap) 26)).alloc (.cells (manCells M A' cap') 26)) w.heap.size 26 (manCells M A cap) := (Blk.new w _ _).alloc _
  have hb1 : Blk ((w.alloc (.cells (manCells M A cap) 26)).alloc (.cells (manCells M A' cap') 26)) (w.heap.size + 1) 26 (manCells M A' cap') := by rw [← hk1]; exact Blk.new _ _ _
  have BW : Below w.heap.size w ((w.alloc (.cells (manCells M A cap) 26)).alloc (.cells (manCells M A' cap') 26)) := ((Below.refl _ _).alloc (Nat.le_refl _) _).alloc (by simp) _
  have HB0 := Lib.hid hb0
  have HB1 := Lib.hid hb1
  clear hb0 hb1
  go_wp2_with fail
  go_loopw [5] (fun i wr => SmRel M A A' cap cap' w i wr) (fun i _ => M.runs.length - (intOf i).toNat)
  case atStart => exact ⟨0, Nat.zero_le _, rfl, HB0.out, HB1.out, BW⟩
  case round =>
    obtain ⟨k, hk, rfl, hb, hb', hB⟩ := hrel
    have c6 : wr.cell? ⟨w.heap.size, 6, none⟩ = some (.slice A M.runs.length cap) := hb.cell 6
    have c6' : wr.cell? ⟨w.heap.size + 1, 6, none⟩ = some (.slice A' M.runs.length cap') := hb'.cell 6
    by_cases hlt : k < M.runs.length
    · obtain ⟨b, off, r, rfl, hbb, hj, e0, e1, e2, e3⟩ := (H.below hB).at_ hlt
      obtain ⟨b', off', r', rfl, hbb', hj', f0, f1, f2, f3⟩ := (H'.below hB).at_ hlt
      obtain rfl := Option.some.inj (hj.symm.trans hj')
      have HJ := Lib.hid hj
      clear hj hj'
      have hj0 : (0 : Int) ≤ (k : Int) := by omega
      have hj1 : (k : Int) < (M.runs.length : Int) := by omega
      go_wp2_with fail
      go_quiet (fail)
      all_goals go_wp2_with fail
      go_roundw
      case rel => exact ⟨k + 1, by omega, by go_num, hb, hb', below_dn hB _⟩
      case measure => simp [intOf]; omega
    · obtain rfl : k = M.runs.length := by omega
      go_wp2_with fail
      go_ret
      exact ⟨rfl, hB⟩
end Go.Proofs.YtknemjnlcghafaaDoor
