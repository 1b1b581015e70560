/- The searches of sources that are none, from outside. Conditions: each theorem's own hypotheses. -/
import Derived.Test.YtlfeibaghfcpaaaDoorPgB
namespace Go.Proofs.YtlfeibaghfcpaaaDoor
open Go.RowKit Go.Maps Go.Shelf
set_option linter.unusedVariables false
set_option linter.unusedSimpArgs false

theorem Pg.set4 {w : World} {b : Nat} {t : TypeId} (h : Blk w b t #[.int .i64 0, .int .i64 0, .int .i64 0, .int .i64 0]) : Blk ((((w.setCell ⟨b, 0, none⟩ (.int .i64 0)).setCell ⟨b, 1, none⟩ (.int .i64 0)).setCell ⟨b, 2, none⟩ (.int .i64 0)).setCell ⟨b, 3, none⟩ (.int .i64 0)) b t #[.int .i64 0, .int .i64 0, .int .i64 0, .int .i64 0] := (((h.set_ 0 (.int .i64 0)).set_ 1 (.int .i64 0)).set_ 2 (.int .i64 0)).set_ 3 (.int .i64 0)
theorem Pg.below4 {B : Nat} {a w : World} (h : Below B a w) {b : Nat} (hb : B ≤ b) (v0 v1 v2 v3 : Value) : Below B a ((((w.setCell ⟨b, 0, none⟩ v0).setCell ⟨b, 1, none⟩ v1).setCell ⟨b, 2, none⟩ v2).setCell ⟨b, 3, none⟩ v3) :=
  (((h.setCell (p := ⟨b, 0, none⟩) hb _).setCell (p := ⟨b, 1, none⟩) hb _).setCell (p := ⟨b, 2, none⟩) hb _).setCell (p := ⟨b, 3, none⟩) hb _
set_option maxHeartbeats 2000000 in
theorem Pg.topK_no (x0 x1 x2 : Int) (fv fa : Value) (q : ByteArray) (k : Int) (c : Nat) (hc : 0 < c) (W : World) (hb : ∀ WW, Calls Tryd.prog 14 #[.agg #[.int .i64 x0, .int .i64 x1, .int .i64 x2, fv, fa], .string q] WW fun e W' => e = .returned (.tuple #[.pointer none, .int .i64 (c : Nat)]) ∧ Below WW.heap.size WW W') :
    Calls Tryd.prog 6 #[.agg #[.int .i64 x0, .int .i64 x1, .int .i64 x2, fv, fa], .string q, .int .i64 k] W fun e W' => e = .returned (Pg.no c) ∧ Below W.heap.size W W' := by
  have h1 : Blk ((W.alloc (.cells #[.int .i64 x0, .int .i64 x1, .int .i64 x2, fv, fa] 25)).alloc (.cells #[.int .i64 0, .int .i64 0, .int .i64 0, .int .i64 0] 28)) W.heap.size 25 #[.int .i64 x0, .int .i64 x1, .int .i64 x2, fv, fa] := (Blk.new W _ _).alloc _
  have h3 : Blk ((W.alloc (.cells #[.int .i64 x0, .int .i64 x1, .int .i64 x2, fv, fa] 25)).alloc (.cells #[.int .i64 0, .int .i64 0, .int .i64 0, .int .i64 0] 28)) (W.heap.size + 1) 28 #[.int .i64 0, .int .i64 0, .int .i64 0, .int .i64 0] := by
    have := Blk.new (W.alloc (.cells #[.int .i64 x0, .int .i64 x1, .int .i64 x2, fv, fa] 25)) 28 #[.int .i64 0, .int .i64 0, .int .i64 0, .int .i64 0]
    rwa [World.size_alloc] at this
  have B1 : Below W.heap.size W ((W.alloc (.cells #[.int .i64 x0, .int .i64 x1, .int .i64 x2, fv, fa] 25)).alloc (.cells #[.int .i64 0, .int .i64 0, .int .i64 0, .int .i64 0] 28)) := ((Below.refl _ W).alloc (Nat.le_refl _) _).alloc (by simp) _
  have ht := Pg.top_no x0 x1 x2 fv fa (.func (.func 11) #[] #[]) (.func 12) #[] #[.pointer (some ⟨W.heap.size, 0, none⟩)] q k c hc ((W.alloc (.cells #[.int .i64 x0, .int .i64 x1, .int .i64 x2, fv, fa] 25)).alloc (.cells #[.int .i64 0, .int .i64 0, .int .i64 0, .int .i64 0] 28)) hb
  unfold Pg.no at ht
  have HB := Lib.hid (And.intro ht (And.intro h3 B1))
  have k0 := h1.cell 0
  have k1 := h1.cell 1
  have k2 := h1.cell 2
  have k3 := h1.cell 3
  have k4 := h1.cell 4
  clear hb h1 h3 B1 ht
  go_enter Tryd.func6, Tryd.ntmps6
  go_wp2_with (go_at_call 10; refine HB.out.1.mono ?_; rintro e w1 ⟨rfl, hb1⟩; have h4 : Blk w1 (W.heap.size + 1) 28 #[.int .i64 0, .int .i64 0, .int .i64 0, .int .i64 0] := (hb1.block _ HB.out.2.1.lt).trans HB.out.2.1; have B2 := HB.out.2.2.trans (hb1.mono HB.out.2.2.size); have f0 := h4.frozen 0; have f1 := h4.frozen 1; have f2 := h4.frozen 2; have f3 := h4.frozen 3; have j0 := h4.cell 0; have j1 := h4.cell 1; have j2 := h4.cell 2; have j3 := h4.cell 3; have HZ := Lib.hid (And.intro (Pg.set4 h4) (Pg.below4 B2 (b := W.heap.size + 1) (by omega) (.int .i64 0) (.int .i64 0) (.int .i64 0) (.int .i64 0))); clear k0 k1 k2 k3 k4 hb1 h4 B2)
  have i0 := HZ.out.1.cell 0
  have i1 := HZ.out.1.cell 1
  have i2 := HZ.out.1.cell 2
  have i3 := HZ.out.1.cell 3
  exact bodyPost_ret (v := Pg.no c) (by unfold Pg.no; simp [results, Tryd.results6, go_sem, i0, i1, i2, i3]) rfl ⟨rfl, HZ.out.2⟩
set_option maxHeartbeats 2000000 in
theorem Pg.few_no (x0 x1 x2 : Int) (fv fa : Value) (q : ByteArray) (k n : Int) (c : Nat) (hc : 0 < c) (W : World) (hb : ∀ WW, Calls Tryd.prog 14 #[.agg #[.int .i64 x0, .int .i64 x1, .int .i64 x2, fv, fa], .string q] WW fun e W' => e = .returned (.tuple #[.pointer none, .int .i64 (c : Nat)]) ∧ Below WW.heap.size WW W') :
    Calls Tryd.prog 8 #[.agg #[.int .i64 x0, .int .i64 x1, .int .i64 x2, fv, fa], .string q, .int .i64 k, .int .i64 n] W fun e W' => e = .returned (Pg.no c) ∧ Below W.heap.size W W' := by
  have h1 : Blk (((W.alloc (.cells #[.int .i64 x0, .int .i64 x1, .int .i64 x2, fv, fa] 25)).alloc (.cells #[.int .i64 n] 3)).alloc (.cells #[.int .i64 0, .int .i64 0, .int .i64 0, .int .i64 0] 28)) W.heap.size 25 #[.int .i64 x0, .int .i64 x1, .int .i64 x2, fv, fa] := ((Blk.new W _ _).alloc _).alloc _
  have h3 : Blk (((W.alloc (.cells #[.int .i64 x0, .int .i64 x1, .int .i64 x2, fv, fa] 25)).alloc (.cells #[.int .i64 n] 3)).alloc (.cells #[.int .i64 0, .int .i64 0, .int .i64 0, .int .i64 0] 28)) (W.heap.size + 1 + 1) 28 #[.int .i64 0, .int .i64 0, .int .i64 0, .int .i64 0] := by
    have := Blk.new ((W.alloc (.cells #[.int .i64 x0, .int .i64 x1, .int .i64 x2, fv, fa] 25)).alloc (.cells #[.int .i64 n] 3)) 28 #[.int .i64 0, .int .i64 0, .int .i64 0, .int .i64 0]
    rwa [World.size_alloc, World.size_alloc] at this
  have B1 : Below W.heap.size W (((W.alloc (.cells #[.int .i64 x0, .int .i64 x1, .int .i64 x2, fv, fa] 25)).alloc (.cells #[.int .i64 n] 3)).alloc (.cells #[.int .i64 0, .int .i64 0, .int .i64 0, .int .i64 0] 28)) := (((Below.refl _ W).alloc (Nat.le_refl _) _).alloc (by simp) _).alloc (by simp; omega) _
  have ht := Pg.top_no x0 x1 x2 fv fa (.func (.func 21) #[] #[.pointer (some ⟨W.heap.size + 1, 0, none⟩)]) (.func 22) #[] #[.pointer (some ⟨W.heap.size + 1, 0, none⟩)] q k c hc (((W.alloc (.cells #[.int .i64 x0, .int .i64 x1, .int .i64 x2, fv, fa] 25)).alloc (.cells #[.int .i64 n] 3)).alloc (.cells #[.int .i64 0, .int .i64 0, .int .i64 0, .int .i64 0] 28)) hb
  unfold Pg.no at ht
  have HB := Lib.hid (And.intro ht (And.intro h3 B1))
  have k0 := h1.cell 0
  have k1 := h1.cell 1
  have k2 := h1.cell 2
  have k3 := h1.cell 3
  have k4 := h1.cell 4
  clear hb h1 h3 B1 ht
  go_enter Tryd.func8, Tryd.ntmps8
  go_wp2_with (go_at_call 10; refine HB.out.1.mono ?_; rintro e w1 ⟨rfl, hb1⟩; have h4 : Blk w1 (W.heap.size + 1 + 1) 28 #[.int .i64 0, .int .i64 0, .int .i64 0, .int .i64 0] := (hb1.block _ HB.out.2.1.lt).trans HB.out.2.1; have B2 := HB.out.2.2.trans (hb1.mono HB.out.2.2.size); have f0 := h4.frozen 0; have f1 := h4.frozen 1; have f2 := h4.frozen 2; have f3 := h4.frozen 3; have j0 := h4.cell 0; have j1 := h4.cell 1; have j2 := h4.cell 2; have j3 := h4.cell 3; have HZ := Lib.hid (And.intro (Pg.set4 h4) (Pg.below4 B2 (b := W.heap.size + 1 + 1) (by omega) (.int .i64 0) (.int .i64 0) (.int .i64 0) (.int .i64 0))); clear k0 k1 k2 k3 k4 hb1 h4 B2)
  have i0 := HZ.out.1.cell 0
  have i1 := HZ.out.1.cell 1
  have i2 := HZ.out.1.cell 2
  have i3 := HZ.out.1.cell 3
  exact bodyPost_ret (v := Pg.no c) (by unfold Pg.no; simp [results, Tryd.results8, go_sem, i0, i1, i2, i3]) rfl ⟨rfl, HZ.out.2⟩
set_option maxHeartbeats 2000000 in
theorem Pg.radius_no (x0 x1 x2 : Int) (fv fa : Value) (q : ByteArray) (r : Int) (c : Nat) (hc : 0 < c) (W : World) (hb : ∀ WW, Calls Tryd.prog 14 #[.agg #[.int .i64 x0, .int .i64 x1, .int .i64 x2, fv, fa], .string q] WW fun e W' => e = .returned (.tuple #[.pointer none, .int .i64 (c : Nat)]) ∧ Below WW.heap.size WW W') :
    Calls Tryd.prog 7 #[.agg #[.int .i64 x0, .int .i64 x1, .int .i64 x2, fv, fa], .string q, .int .i64 r] W fun e W' => e = .returned (Pg.no c) ∧ Below W.heap.size W W' := by
  have h1 : Blk (((W.alloc (.cells #[.int .i64 x0, .int .i64 x1, .int .i64 x2, fv, fa] 25)).alloc (.cells #[.int .i64 r] 3)).alloc (.cells #[.int .i64 0, .int .i64 0, .int .i64 0, .int .i64 0] 28)) W.heap.size 25 #[.int .i64 x0, .int .i64 x1, .int .i64 x2, fv, fa] := ((Blk.new W _ _).alloc _).alloc _
  have h3 : Blk (((W.alloc (.cells #[.int .i64 x0, .int .i64 x1, .int .i64 x2, fv, fa] 25)).alloc (.cells #[.int .i64 r] 3)).alloc (.cells #[.int .i64 0, .int .i64 0, .int .i64 0, .int .i64 0] 28)) (W.heap.size + 1 + 1) 28 #[.int .i64 0, .int .i64 0, .int .i64 0, .int .i64 0] := by
    have := Blk.new ((W.alloc (.cells #[.int .i64 x0, .int .i64 x1, .int .i64 x2, fv, fa] 25)).alloc (.cells #[.int .i64 r] 3)) 28 #[.int .i64 0, .int .i64 0, .int .i64 0, .int .i64 0]
    rwa [World.size_alloc, World.size_alloc] at this
  have B1 : Below W.heap.size W (((W.alloc (.cells #[.int .i64 x0, .int .i64 x1, .int .i64 x2, fv, fa] 25)).alloc (.cells #[.int .i64 r] 3)).alloc (.cells #[.int .i64 0, .int .i64 0, .int .i64 0, .int .i64 0] 28)) := (((Below.refl _ W).alloc (Nat.le_refl _) _).alloc (by simp) _).alloc (by simp; omega) _
  have HB := Lib.hid (And.intro (hb (((W.alloc (.cells #[.int .i64 x0, .int .i64 x1, .int .i64 x2, fv, fa] 25)).alloc (.cells #[.int .i64 r] 3)).alloc (.cells #[.int .i64 0, .int .i64 0, .int .i64 0, .int .i64 0] 28))) (And.intro h3 B1))
  have k0 := h1.cell 0
  have k1 := h1.cell 1
  have k2 := h1.cell 2
  have k3 := h1.cell 3
  have k4 := h1.cell 4
  have u0 : ((c : Int) != 0) = true := by rw [bne_iff_ne]; omega
  clear hb h1 h3 B1
  go_enter Tryd.func7, Tryd.ntmps7
  go_upto_region 3 with (go_at_call 14; refine HB.out.1.mono ?_; rintro e w1 ⟨rfl, hb1⟩)
  have h4 : Blk w1 (W.heap.size + 1 + 1) 28 #[.int .i64 0, .int .i64 0, .int .i64 0, .int .i64 0] := (hb1.block _ HB.out.2.1.lt).trans HB.out.2.1
  have B2 := HB.out.2.2.trans (hb1.mono HB.out.2.2.size)
  have f0 := h4.frozen 0
  have f1 := h4.frozen 1
  have f2 := h4.frozen 2
  have f3 := h4.frozen 3
  have j0 := h4.cell 0
  have j1 := h4.cell 1
  have j2 := h4.cell 2
  have j3 := h4.cell 3
  have HZ := Lib.hid (And.intro (Pg.set4 h4) (Pg.below4 B2 (b := W.heap.size + 1 + 1) (by omega) (.int .i64 0) (.int .i64 0) (.int .i64 0) (.int .i64 0)))
  have i0 := HZ.out.1.cell 0
  have i1 := HZ.out.1.cell 1
  have i2 := HZ.out.1.cell 2
  have i3 := HZ.out.1.cell 3
  clear k0 k1 k2 k3 k4 hb1 h4 B2
  go_wp2_with fail
  exact bodyPost_ret (v := Pg.no c) (by unfold Pg.no; simp [results, Tryd.results7, go_sem, i0, i1, i2, i3]) rfl ⟨rfl, HZ.out.2⟩
end Go.Proofs.YtlfeibaghfcpaaaDoor
