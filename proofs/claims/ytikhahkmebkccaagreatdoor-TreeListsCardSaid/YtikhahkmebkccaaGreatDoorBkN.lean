/- Contracts of slices.IndexFunc and slices.DeleteFunc of a row of hits. Conditions: each theorem's own hypotheses. -/
import Derived.Test.YtikhahkmebkccaaGreatDoorBkM
import Derived.Lib.SliceRun
namespace Go.Proofs.YtikhahkmebkccaaGreatDoor
open Go.RowKit Go.Maps Go.Sort Go.Shelf
set_option linter.unusedVariables false
set_option linter.unusedSimpArgs false

theorem Bk.hcs_get : ∀ (F : List Bk.H) (j : Nat) (h : Bk.H), F[j]? = some h → (Bk.hcs F)[j * 3]? = some (.int .i64 (h.d : Nat)) ∧ (Bk.hcs F)[j * 3 + 1]? = some (.int .i64 0) ∧ (Bk.hcs F)[j * 3 + 2]? = some (Tx.v h.c)
  | [], _, _, e => by simp at e
  | x :: F, 0, h, e => by
    have e' : x = h := by simpa using e
    subst e'
    exact ⟨rfl, rfl, rfl⟩
  | x :: F, j + 1, h, e => by
    have ih := Bk.hcs_get F j h (by simpa using e)
    have e1 : Bk.hcs (x :: F) = .int .i64 (x.d : Nat) :: .int .i64 0 :: Tx.v x.c :: Bk.hcs F := rfl
    rw [e1, show (j + 1) * 3 = j * 3 + 3 by omega]
    exact ih
theorem Bk.hcs_set : ∀ (F : List Bk.H) (j : Nat) (h : Bk.H), Bk.hcs (F.set j h) = (((Bk.hcs F).set (j * 3) (.int .i64 (h.d : Nat))).set (j * 3 + 1) (.int .i64 0)).set (j * 3 + 2) (Tx.v h.c)
  | [], _, _ => rfl
  | x :: F, 0, h => rfl
  | x :: F, j + 1, h => by
    have ih := Bk.hcs_set F j h
    have e1 : ∀ (x : Bk.H) F, Bk.hcs (x :: F) = .int .i64 (x.d : Nat) :: .int .i64 0 :: Tx.v x.c :: Bk.hcs F := fun _ _ => rfl
    rw [List.set_cons_succ, e1, e1, ih, show (j + 1) * 3 = j * 3 + 3 by omega]
    rfl
theorem Bk.hcs_take : ∀ (F : List Bk.H) (j : Nat), (Bk.hcs F).take (j * 3) = Bk.hcs (F.take j)
  | [], j => by simp [Bk.hcs]
  | x :: F, 0 => by simp [Bk.hcs]
  | x :: F, j + 1 => by
    have e1 : ∀ (x : Bk.H) F, Bk.hcs (x :: F) = .int .i64 (x.d : Nat) :: .int .i64 0 :: Tx.v x.c :: Bk.hcs F := fun _ _ => rfl
    rw [List.take_succ_cons, e1, e1, ← Bk.hcs_take F j, show (j + 1) * 3 = j * 3 + 3 by omega]
    rfl
theorem Bk.addr_add (g j : Nat) : (⟨g, 0, none⟩ : Addr).add j = ⟨g, j, none⟩ := by
  unfold Addr.add; split
  · subst_vars; rfl
  · simp
theorem Bk.row3 {w : World} {B g n cap : Nat} {C : List Bk.H} (h : w.ownsRow B 61 3 (.slice (some ⟨g, 0, none⟩) n cap) n (Bk.hcs C)) {j : Nat} {x : Bk.H} (hj : C[j]? = some x) :
    w.cell? ⟨g, j * 3, none⟩ = some (.int .i64 (x.d : Nat)) ∧ w.cell? ⟨g, j * 3 + 1, none⟩ = some (.int .i64 0) ∧ w.cell? ⟨g, j * 3 + 2, none⟩ = some (Tx.v x.c) := by
  obtain ⟨a, b, c⟩ := Bk.hcs_get C j x hj
  have h1 := h.cells (g := g) rfl _ _ a
  have h2 := h.cells (g := g) rfl _ _ b
  have h3 := h.cells (g := g) rfl _ _ c
  rw [Bk.addr_add] at h1 h2 h3
  exact ⟨h1, h2, h3⟩
theorem Bk.row_put {w : World} {B g n cap : Nat} {C : List Bk.H} (h : w.ownsRow B 61 3 (.slice (some ⟨g, 0, none⟩) n cap) n (Bk.hcs C)) (j : Nat) (x : Bk.H) :
    (((w.setCell ⟨g, j * 3, none⟩ (.int .i64 (x.d : Nat))).setCell ⟨g, j * 3 + 1, none⟩ (.int .i64 0)).setCell ⟨g, j * 3 + 2, none⟩ (Tx.v x.c)).ownsRow B 61 3 (.slice (some ⟨g, 0, none⟩) n cap) n (Bk.hcs (C.set j x)) ∧
      w.grownBy (((w.setCell ⟨g, j * 3, none⟩ (.int .i64 (x.d : Nat))).setCell ⟨g, j * 3 + 1, none⟩ (.int .i64 0)).setCell ⟨g, j * 3 + 2, none⟩ (Tx.v x.c)) (some g) := by
  obtain ⟨a1, b1⟩ := h.stored (j * 3) (.int .i64 (x.d : Nat))
  obtain ⟨a2, b2⟩ := a1.stored (j * 3 + 1) (.int .i64 0)
  obtain ⟨a3, b3⟩ := a2.stored (j * 3 + 2) (Tx.v x.c)
  rw [Bk.hcs_set]
  exact ⟨a3, (b1.trans b2).trans b3⟩
/-- Cells behind a place of a row are written: what is ahead stays. -/
theorem Bk.row_wipe {B g n cap : Nat} : ∀ (vs : List Value) (o : Nat) (w : World) (xs : List Value), w.ownsRow B 61 3 (.slice (some ⟨g, 0, none⟩) n cap) n xs →
    ∃ xs', (w.setCells g o vs).ownsRow B 61 3 (.slice (some ⟨g, 0, none⟩) n cap) n xs' ∧ xs'.take o = xs.take o ∧ w.grownBy (w.setCells g o vs) (some g)
  | [], o, w, xs, h => ⟨xs, h, rfl, World.grownBy.refl _ _⟩
  | v :: vs, o, w, xs, h => by
    obtain ⟨a1, b1⟩ := h.stored o v
    obtain ⟨xs', h1, h2, h3⟩ := Bk.row_wipe vs (o + 1) (w.setCell ⟨g, o, none⟩ v) _ a1
    refine ⟨xs', h1, ?_, b1.trans h3⟩
    have h4 := congrArg (List.take o) h2
    rw [List.take_take, List.take_take, Nat.min_eq_left (by omega)] at h4
    rw [h4, List.take_set_of_le (Nat.le_refl _)]
theorem Bk.row_cut {w : World} {B g n cap i : Nat} {xs : List Value} (h : w.ownsRow B 61 3 (.slice (some ⟨g, 0, none⟩) n cap) n xs) (hi : i ≤ n) : w.ownsRow B 61 3 (.slice (some ⟨g, 0, none⟩) i cap) i (xs.take (i * 3)) := by
  rcases h.2 with ⟨h', _⟩ | ⟨g', cap', cur, h', hb, hg, hnc, hcm, hcs, htake⟩
  · simp at h'
  · simp only [Value.slice.injEq, Option.some.injEq, Addr.mk.injEq, and_true, true_and] at h'
    obtain ⟨rfl, rfl⟩ := h'
    refine ⟨?_, .inr ⟨g, cap, cur, rfl, hb, hg, by omega, hcm, hcs, ?_⟩⟩
    · rw [List.length_take, h.1]
      exact Nat.min_eq_left (Nat.mul_le_mul_right _ hi)
    · rw [← htake, List.take_take, Nat.min_eq_left (Nat.mul_le_mul_right _ hi)]
theorem Bk.zero_hit (w : World) : (zeroValue 61).run Tryz.prog w = .ok (.agg #[.int .i64 0, .int .i64 0, .string ⟨#[]⟩]) w := by kernel_rfl
/-- The built-in clear of a part of such a row. -/
theorem Bk.clear_any {w : World} {B g n cap : Nat} {C : List Bk.H} (h : w.ownsRow B 61 3 (.slice (some ⟨g, 0, none⟩) n cap) n (Bk.hcs C)) {i m c : Nat} (hm : i + m = n) (h0 : 0 < m) (ty : TypeId) :
    (Builtin.clear_ #[28] ty #[.slice (some ⟨g, i * 3, none⟩) m c]).run Tryz.prog w = .ok (.tuple #[]) (w.setCells g (i * 3) (Builtin.zeroCells #[.int .i64 0, .int .i64 0, .string ⟨#[]⟩] m).toList) := by
  have hlen : (Builtin.zeroCells #[.int .i64 0, .int .i64 0, .string ⟨#[]⟩] m).toList.length = m * 3 := by simp [Builtin.zeroCells]
  have hst := run_storeCells_cells (P := Tryz.prog) g (i * 3) (Builtin.zeroCells #[.int .i64 0, .int .i64 0, .string ⟨#[]⟩] m).toList 0 w (fun j hj => by
      rw [hlen] at hj
      have hl := h.1
      have h1 : (Bk.hcs C)[i * 3 + j]? = some ((Bk.hcs C)[i * 3 + j]'(by omega)) := List.getElem?_eq_getElem (by omega)
      have h2 := h.cells (g := g) rfl _ _ h1
      rw [Bk.addr_add] at h2
      rw [Nat.add_zero, h2]; rfl) (fun j hj => h.frozenAt _) (fun v hv => by
      simp only [Builtin.zeroCells, Array.toList_map, Array.toList_range, List.mem_map, List.mem_range] at hv
      obtain ⟨k, _, rfl⟩ := hv
      have h3 : k % 3 < 3 := Nat.mod_lt _ (by decide)
      have h4 : k % 3 = 0 ∨ k % 3 = 1 ∨ k % 3 = 2 := by omega
      show (#[Value.int .i64 0, .int .i64 0, .string ⟨#[]⟩][k % 3]!).oneCell' = true
      rcases h4 with e | e | e <;> rw [e] <;> rfl)
  simp only [Nat.add_zero] at hst
  obtain ⟨m, rfl⟩ : ∃ k, m = k + 1 := ⟨m - 1, by omega⟩
  have hz := Bk.zero_hit w
  simp [Builtin.clear_, run_underlying Tryz.underlying28, Bk.zero_hit, hst, Value.cells]
end Go.Proofs.YtikhahkmebkccaaGreatDoor
