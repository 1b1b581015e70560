/- Contracts of best.order and of the closure of best.newPile; rows of hits are sorted by order. Conditions: each theorem's own hypotheses. -/
import Derived.Test.YtlfeibaghfcpaaaDoorHpB
namespace Go.Proofs.YtlfeibaghfcpaaaDoor
open Go.RowKit Go.Maps Go.Sort Go.Shelf
set_option linter.unusedVariables false
set_option linter.unusedSimpArgs false

/-- A hit's cells. -/
def Hp.enc (h : Pb.H) : List Value := [.int .i64 h.d, .int .i64 h.id, Tx.v h.c]
theorem Hp.or3_cmp (x y : Pb.H) : Hp.or3 (Pb.cmpI x.d y.d) (Pb.cmpI x.id y.id) (Pb.cmpS x.c y.c) = Pb.cmp x y := rfl
set_option maxHeartbeats 2000000 in
theorem Hp.order_any (x y : Pb.H) (W : World) : Calls Tryd.prog 34 #[.agg (Hp.enc x).toArray, .agg (Hp.enc y).toArray] W fun e w' => e = .returned (.int .i64 (Pb.cmp x y)) ∧ ∃ q os', w' = grow (W.drewN q) os' := by
  rw [← Hp.or3_cmp]
  obtain ⟨dx, ix, cx⟩ := x
  obtain ⟨dy, iy, cy⟩ := y
  have hI := fun (a b : Int) WW => Hp.compareI_any a b WW
  have hS := fun WW => Hp.compareS_any ⟨cx.toArray⟩ ⟨cy.toArray⟩ WW
  simp only at hS
  unfold Hp.enc Tx.v
  simp only
  generalize (⟨cx.toArray⟩ : ByteArray) = bx at hS ⊢
  generalize (⟨cy.toArray⟩ : ByteArray) = by_ at hS ⊢
  generalize Pb.cmpS cx cy = r3 at hS ⊢
  have hI1 := fun WW => hI dx dy WW
  have hI2 := fun WW => hI ix iy WW
  clear hI
  generalize Pb.cmpI dx dy = r1 at hI1 ⊢
  generalize Pb.cmpI ix iy = r2 at hI2 ⊢
  have hO := fun g WW => Hp.or3_any g r1 r2 r3 WW
  generalize Hp.or3 r1 r2 r3 = r at hO ⊢
  have a1 : Blk ((W.alloc (.cells #[.int .i64 dx, .int .i64 ix, .string bx] 50)).alloc (.cells #[.int .i64 dy, .int .i64 iy, .string by_] 50)) W.heap.size 50 #[.int .i64 dx, .int .i64 ix, .string bx] := (Blk.new W _ _).alloc _
  have a2 : Blk ((W.alloc (.cells #[.int .i64 dx, .int .i64 ix, .string bx] 50)).alloc (.cells #[.int .i64 dy, .int .i64 iy, .string by_] 50)) (W.heap.size + 1) 50 #[.int .i64 dy, .int .i64 iy, .string by_] := by
    have := Blk.new (W.alloc (.cells #[.int .i64 dx, .int .i64 ix, .string bx] 50)) 50 #[.int .i64 dy, .int .i64 iy, .string by_]
    rwa [World.size_alloc] at this
  have a3 : Blk (((W.alloc (.cells #[.int .i64 dx, .int .i64 ix, .string bx] 50)).alloc (.cells #[.int .i64 dy, .int .i64 iy, .string by_] 50)).alloc (.cells #[.int .i64 r1, .int .i64 r2, .int .i64 r3] 3)) (W.heap.size + 1 + 1) 3 #[.int .i64 r1, .int .i64 r2, .int .i64 r3] := by
    have := Blk.new ((W.alloc (.cells #[.int .i64 dx, .int .i64 ix, .string bx] 50)).alloc (.cells #[.int .i64 dy, .int .i64 iy, .string by_] 50)) 3 #[.int .i64 r1, .int .i64 r2, .int .i64 r3]
    rwa [World.size_alloc, World.size_alloc] at this
  have a4 : Blk (((W.alloc (.cells #[.int .i64 dx, .int .i64 ix, .string bx] 50)).alloc (.cells #[.int .i64 dy, .int .i64 iy, .string by_] 50)).alloc (.cells #[.int .i64 r1, .int .i64 r2, .int .i64 r3] 3)).drew (W.heap.size + 1 + 1) 3 #[.int .i64 r1, .int .i64 r2, .int .i64 r3] := a3
  go_enter Tryd.func34, Tryd.ntmps34
  go_wp2_with fail
  have c0 := a1.cell 0
  have c1 := a1.cell 1
  have c2 := a1.cell 2
  have c3 := a2.cell 0
  have c4 := a2.cell 1
  have c5 := a2.cell 2
  go_region_held3 (fun W' => W'.cell? ⟨W.heap.size, 0, none⟩ = some (.int .i64 dx) ∧ W'.cell? ⟨W.heap.size, 1, none⟩ = some (.int .i64 ix) ∧ W'.cell? ⟨W.heap.size, 2, none⟩ = some (.string bx) ∧ W'.cell? ⟨W.heap.size + 1, 0, none⟩ = some (.int .i64 dy) ∧ W'.cell? ⟨W.heap.size + 1, 1, none⟩ = some (.int .i64 iy) ∧ W'.cell? ⟨W.heap.size + 1, 2, none⟩ = some (.string by_))
    (first | (go_keep) | (simp [*]))
    (first
      | (go_at_call 47; refine (hS _).mono ?_; clear hS; rintro e w' ⟨rfl, rfl⟩)
      | (go_at_call 46; refine (hI1 _).mono ?_; clear hI1; rintro e w' ⟨rfl, rfl⟩)
      | (go_at_call 46; refine (hI2 _).mono ?_; clear hI2; rintro e w' ⟨rfl, rfl⟩)
      | (go_at_call 45; refine (hO _ _ (a4.cell 0) (a4.cell 1) (a4.cell 2)).mono ?_; clear hO; rintro e w' ⟨rfl, rfl⟩))
  all_goals go_wp2
  all_goals go_ret
  all_goals exact ⟨rfl, 1, _, by rw [alloc_eq_grow, alloc_eq_grow, alloc_eq_grow, grow_grow, grow_grow]; rfl⟩
end Go.Proofs.YtlfeibaghfcpaaaDoor
