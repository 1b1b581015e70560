/- The searches of sources that are none. Conditions: each theorem's own hypotheses. -/
import Derived.Test.YtlfeibaghfcpaaaDoorPgA
namespace Go.Proofs.YtlfeibaghfcpaaaDoor
open Go.RowKit Go.Maps Go.Shelf
set_option linter.unusedVariables false
set_option linter.unusedSimpArgs false

/-- What a function of a source is: one, or none. -/
def Pg.isFn (v : Value) : Bool := match v with | .func _ _ _ => true | _ => false
set_option maxRecDepth 100000 in
set_option maxHeartbeats 4000000 in
theorem Pg.begin_no (w m : Nat) (codes : Int) (fv fa : Value) (hfv : fv = .nilFunc ∨ ∃ f x y, fv = .func f x y) (hfa : fa = .nilFunc ∨ ∃ f x y, fa = .func f x y) (q : ByteArray) (W : World) (hw : 64 ≤ w ∧ w ≤ 1024) (hm : 1 ≤ m ∧ m ≤ 128) (he : Bt.err w m = 0) (h0 : codes < 0 ∨ fv = .nilFunc ∨ fa = .nilFunc) :
    Calls Tryd.prog 14 #[.agg #[.int .i64 (w : Nat), .int .i64 (m : Nat), .int .i64 codes, fv, fa], .string q] W fun e W' => e = .returned (.tuple #[.pointer none, .int .i64 13]) ∧ Below W.heap.size W W' := by
  have hch := fun WW => Chunks_any w m WW hw hm he
  have hn1 := fun f x y WW => Pg.func_nil 22 _ _ _ Tryd.underlying22 f x y WW
  have hn2 := fun f x y WW => Pg.func_nil 23 _ _ _ Tryd.underlying23 f x y WW
  have hz1 := fun WW => Pg.nil_nil 22 _ _ _ Tryd.underlying22 WW
  have hz2 := fun WW => Pg.nil_nil 23 _ _ _ Tryd.underlying23 WW
  have h1 := Blk.new W 25 #[.int .i64 (w : Nat), .int .i64 (m : Nat), .int .i64 codes, fv, fa]
  have B1 : Below W.heap.size W (W.alloc (.cells #[.int .i64 (w : Nat), .int .i64 (m : Nat), .int .i64 codes, fv, fa] 25)) := (Below.refl _ _).alloc (Nat.le_refl _) _
  have c0 := h1.cell 0
  have c1 := h1.cell 1
  have HH := Lib.hid hch
  have HB := Lib.hid (And.intro h1 (And.intro B1 h0))
  clear hch he hw hm h1 B1 h0
  have fin : ∀ w1 : World, ∀ g1 cap1 : Nat, Below (W.alloc (.cells #[.int .i64 (w : Nat), .int .i64 (m : Nat), .int .i64 codes, fv, fa] 25)).heap.size (W.alloc (.cells #[.int .i64 (w : Nat), .int .i64 (m : Nat), .int .i64 codes, fv, fa] 25)) w1 → Below W.heap.size W w1 ∧ Blk w1 W.heap.size 25 #[.int .i64 (w : Nat), .int .i64 (m : Nat), .int .i64 codes, fv, fa] := fun w1 _ _ hb1 => ⟨HB.out.2.1.trans (hb1.mono HB.out.2.1.size), (hb1.block _ HB.out.1.lt).trans HB.out.1⟩
  have HF := Lib.hid fin
  clear fin
  rcases hfv with rfl | ⟨f1, x1, y1, rfl⟩ <;> rcases hfa with rfl | ⟨f2, x2, y2, rfl⟩ <;> by_cases hc : codes < 0
  all_goals
    first
      | (exfalso; (rcases HB.out.2.2 with h | h | h <;> first | exact hc h | cases h); done)
      | skip
  all_goals
    first
      | have u0 : decide (codes < 0) = true := decide_eq_true hc
      | have u0 : decide (codes < 0) = false := decide_eq_false hc
    go_enter Tryd.func14, Tryd.ntmps14
    go_upto_region 4 with (go_at_call 28; refine (HH.out _).mono ?_; rintro e w1 ⟨⟨g1, cap1, rfl, hr1⟩, hb1⟩)
    obtain ⟨B2, h2⟩ := HF.out w1 g1 cap1 hb1
    have k2 := h2.cell 2
    have k3 := h2.cell 3
    have k4 := h2.cell 4
    clear c0 c1 hb1 hr1
    go_wp2_with fail
    go_ret2
    exact ⟨rfl, B2⟩
/-- No answer: a refusal. -/
def Pg.no (c : Nat) : Value := .tuple #[.slice none 0 0, .agg #[.int .i64 0, .int .i64 0, .int .i64 0, .int .i64 0], .int .i64 (c : Nat)]
set_option maxHeartbeats 2000000 in
theorem Pg.top_no (x0 x1 x2 : Int) (fv fa fg : Value) (ef : Fn) (ea eb : Array Value) (q : ByteArray) (k : Int) (c : Nat) (hc : 0 < c) (W : World) (hb : ∀ WW, Calls Tryd.prog 14 #[.agg #[.int .i64 x0, .int .i64 x1, .int .i64 x2, fv, fa], .string q] WW fun e W' => e = .returned (.tuple #[.pointer none, .int .i64 (c : Nat)]) ∧ Below WW.heap.size WW W') :
    Calls Tryd.prog 10 #[.agg #[.int .i64 x0, .int .i64 x1, .int .i64 x2, fv, fa], .string q, .int .i64 k, fg, .func ef ea eb] W fun e W' => e = .returned (Pg.no c) ∧ Below W.heap.size W W' := by
  have h1 : Blk (((W.alloc (.cells #[.int .i64 x0, .int .i64 x1, .int .i64 x2, fv, fa] 25)).alloc (.cells #[.func ef ea eb] 42)).alloc (.cells #[.int .i64 0, .int .i64 0, .int .i64 0, .int .i64 0] 28)) W.heap.size 25 #[.int .i64 x0, .int .i64 x1, .int .i64 x2, fv, fa] := ((Blk.new W _ _).alloc _).alloc _
  have h3 : Blk (((W.alloc (.cells #[.int .i64 x0, .int .i64 x1, .int .i64 x2, fv, fa] 25)).alloc (.cells #[.func ef ea eb] 42)).alloc (.cells #[.int .i64 0, .int .i64 0, .int .i64 0, .int .i64 0] 28)) (W.heap.size + 1 + 1) 28 #[.int .i64 0, .int .i64 0, .int .i64 0, .int .i64 0] := by
    have := Blk.new ((W.alloc (.cells #[.int .i64 x0, .int .i64 x1, .int .i64 x2, fv, fa] 25)).alloc (.cells #[.func ef ea eb] 42)) 28 #[.int .i64 0, .int .i64 0, .int .i64 0, .int .i64 0]
    rwa [World.size_alloc, World.size_alloc] at this
  have B1 : Below W.heap.size W (((W.alloc (.cells #[.int .i64 x0, .int .i64 x1, .int .i64 x2, fv, fa] 25)).alloc (.cells #[.func ef ea eb] 42)).alloc (.cells #[.int .i64 0, .int .i64 0, .int .i64 0, .int .i64 0] 28)) := (((Below.refl _ W).alloc (Nat.le_refl _) _).alloc (by simp) _).alloc (by simp; omega) _
  have HB := Lib.hid (And.intro (hb (((W.alloc (.cells #[.int .i64 x0, .int .i64 x1, .int .i64 x2, fv, fa] 25)).alloc (.cells #[.func ef ea eb] 42)).alloc (.cells #[.int .i64 0, .int .i64 0, .int .i64 0, .int .i64 0] 28))) (And.intro h3 B1))
  have k0 := h1.cell 0
  have k1 := h1.cell 1
  have k2 := h1.cell 2
  have k3 := h1.cell 3
  have k4 := h1.cell 4
  have u0 : ((c : Int) != 0) = true := by rw [bne_iff_ne]; omega
  clear hb h1 h3 B1
  go_enter Tryd.func10, Tryd.ntmps10
  go_upto_region 3 with (go_at_call 14; refine HB.out.1.mono ?_; rintro e w1 ⟨rfl, hb1⟩)
  have h4 : Blk w1 (W.heap.size + 1 + 1) 28 #[.int .i64 0, .int .i64 0, .int .i64 0, .int .i64 0] := (hb1.block _ HB.out.2.1.lt).trans HB.out.2.1
  have B2 := HB.out.2.2.trans (hb1.mono HB.out.2.2.size)
  have f0 := h4.frozen 0
  have f1 := h4.frozen 1
  have f2 := h4.frozen 2
  have f3 := h4.frozen 3
  have j0 := h4.cell 0
  have j1 := h4.cell 1
  have j2 := h4.cell 2
  have j3 := h4.cell 3
  have h5 := (((h4.set_ 0 (.int .i64 0)).set_ 1 (.int .i64 0)).set_ 2 (.int .i64 0)).set_ 3 (.int .i64 0)
  have hB5 : Below W.heap.size W ((((w1.setCell ⟨W.heap.size + 1 + 1, 0, none⟩ (.int .i64 0)).setCell ⟨W.heap.size + 1 + 1, 1, none⟩ (.int .i64 0)).setCell ⟨W.heap.size + 1 + 1, 2, none⟩ (.int .i64 0)).setCell ⟨W.heap.size + 1 + 1, 3, none⟩ (.int .i64 0)) := (((B2.setCell (p := ⟨W.heap.size + 1 + 1, 0, none⟩) (by simp; omega) _).setCell (p := ⟨W.heap.size + 1 + 1, 1, none⟩) (by simp; omega) _).setCell (p := ⟨W.heap.size + 1 + 1, 2, none⟩) (by simp; omega) _).setCell (p := ⟨W.heap.size + 1 + 1, 3, none⟩) (by simp; omega) _
  have i0 := h5.cell 0
  have i1 := h5.cell 1
  have i2 := h5.cell 2
  have i3 := h5.cell 3
  have HZ := Lib.hid hB5
  clear k0 k1 k2 k3 k4 hb1 h4 B2 h5 hB5
  go_wp2_with fail
  refine bodyPost_ret (v := Pg.no c) (by unfold Pg.no; simp [results, Tryd.results10, go_sem, i0, i1, i2, i3]) rfl ⟨rfl, HZ.out⟩
end Go.Proofs.YtlfeibaghfcpaaaDoor
