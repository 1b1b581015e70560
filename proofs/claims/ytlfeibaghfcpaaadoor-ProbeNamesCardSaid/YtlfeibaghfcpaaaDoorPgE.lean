/- The walk of the law ProbeNames. Conditions: each theorem's own hypotheses. -/
import Derived.Test.YtlfeibaghfcpaaaDoorPgD
namespace Go.Proofs.YtlfeibaghfcpaaaDoor
open Go.RowKit Go.Maps Go.Shelf
set_option linter.unusedVariables false
set_option linter.unusedSimpArgs false

theorem Pg.num_any (e : Int) (w : World) : Calls Tryd.prog 9 #[.int .i64 e] w fun r w' => r = .returned (.int .i64 e) ∧ w = w' := by
  go_enter Tryd.func9, Tryd.ntmps9
  go_wp2_with fail
  go_ret
  exact ⟨rfl, rfl⟩
theorem Pg.err64 : Bt.err ((64 : Nat) : Int) ((2 : Nat) : Int) = 0 := by decide
theorem Pg.begin64_no (codes : Int) (fv fa : Value) (hfv : fv = .nilFunc ∨ ∃ f x y, fv = .func f x y) (hfa : fa = .nilFunc ∨ ∃ f x y, fa = .func f x y) (h0 : codes < 0 ∨ fv = .nilFunc ∨ fa = .nilFunc) (q : ByteArray) (W : World) :
    Calls Tryd.prog 14 #[.agg #[.int .i64 64, .int .i64 2, .int .i64 codes, fv, fa], .string q] W fun e W' => e = .returned (.tuple #[.pointer none, .int .i64 (13 : Nat)]) ∧ Below W.heap.size W W' :=
  Pg.begin_no 64 2 codes fv fa hfv hfa q W (by decide) (by decide) Pg.err64 h0
theorem Pg.set5 {w : World} {b : Nat} {t : TypeId} {u0 u1 u2 u3 u4 : Value} (h : Blk w b t #[u0, u1, u2, u3, u4]) (v0 v1 v2 v3 v4 : Value) : Blk (((((w.setCell ⟨b, 0, none⟩ v0).setCell ⟨b, 1, none⟩ v1).setCell ⟨b, 2, none⟩ v2).setCell ⟨b, 3, none⟩ v3).setCell ⟨b, 4, none⟩ v4) b t #[v0, v1, v2, v3, v4] := ((((h.set_ 0 v0).set_ 1 v1).set_ 2 v2).set_ 3 v3).set_ 4 v4
theorem Pg.far5 {w : World} {b c : Nat} {t : TypeId} {cs : Array Value} (h : Blk w c t cs) (hne : c ≠ b) (v0 v1 v2 v3 v4 : Value) : Blk (((((w.setCell ⟨b, 0, none⟩ v0).setCell ⟨b, 1, none⟩ v1).setCell ⟨b, 2, none⟩ v2).setCell ⟨b, 3, none⟩ v3).setCell ⟨b, 4, none⟩ v4) c t cs :=
  ((((h.far (p := ⟨b, 0, none⟩) hne _).far (p := ⟨b, 1, none⟩) hne _).far (p := ⟨b, 2, none⟩) hne _).far (p := ⟨b, 3, none⟩) hne _).far (p := ⟨b, 4, none⟩) hne _
theorem Pg.below5 {B : Nat} {a w : World} (h : Below B a w) {b : Nat} (hb : B ≤ b) (v0 v1 v2 v3 v4 : Value) : Below B a (((((w.setCell ⟨b, 0, none⟩ v0).setCell ⟨b, 1, none⟩ v1).setCell ⟨b, 2, none⟩ v2).setCell ⟨b, 3, none⟩ v3).setCell ⟨b, 4, none⟩ v4) := (Pg.below4 h hb v0 v1 v2 v3).setCell (p := ⟨b, 4, none⟩) hb v4
set_option maxRecDepth 100000 in
set_option maxHeartbeats 4000000 in
theorem Pg.names_law (w : World) : Calls Tryd.prog 3 #[] w fun e w' => e = .returned (.bool true) ∧ Below w.heap.size w w' := by
  have h1 : Blk (w.alloc (.cells #[.int .i64 64, .int .i64 2, .int .i64 0, .func (.func 4) #[] #[], .func (.func 5) #[] #[]] 25)) w.heap.size 25 #[.int .i64 64, .int .i64 2, .int .i64 0, .func (.func 4) #[] #[], .func (.func 5) #[] #[]] := Blk.new w _ _
  have B1 : Below w.heap.size w (w.alloc (.cells #[.int .i64 64, .int .i64 2, .int .i64 0, .func (.func 4) #[] #[], .func (.func 5) #[] #[]] 25)) := (Below.refl _ _).alloc (Nat.le_refl _) _
  have t1 : Calls Tryd.prog 6 #[.agg #[.int .i64 64, .int .i64 2, .int .i64 0, .func (.func 4) #[] #[], .func (.func 5) #[] #[]], .string ⟨#[49, 50, 51, 52, 53, 54, 55, 56]⟩, .int .i64 3] (w.alloc (.cells #[.int .i64 64, .int .i64 2, .int .i64 0, .func (.func 4) #[] #[], .func (.func 5) #[] #[]] 25)) fun e W' => ∃ A cap, e = .returned (.tuple #[.slice A 0 cap, .agg #[.int .i64 0, .int .i64 0, .int .i64 0, .int .i64 0], .int .i64 0]) ∧ Below (w.alloc (.cells #[.int .i64 64, .int .i64 2, .int .i64 0, .func (.func 4) #[] #[], .func (.func 5) #[] #[]] 25)).heap.size (w.alloc (.cells #[.int .i64 64, .int .i64 2, .int .i64 0, .func (.func 4) #[] #[], .func (.func 5) #[] #[]] 25)) W' :=
    Pg.topK0_any 64 2 3 (.func 4) (.func 5) #[] #[] #[] #[] ⟨#[49, 50, 51, 52, 53, 54, 55, 56]⟩ _ (by decide) (by decide) Pg.err64 (by decide) (by decide) (by decide) (by decide)
  have HA := Lib.hid (And.intro t1 (And.intro h1 B1))
  have k0 := h1.cell 0
  have k1 := h1.cell 1
  have k2 := h1.cell 2
  have k3 := h1.cell 3
  have k4 := h1.cell 4
  clear t1 h1 B1
  go_enter Tryd.func3, Tryd.ntmps3
  go_upto_region 4 with (go_at_call 6; refine HA.out.1.mono ?_; rintro e w1 ⟨A, cap, rfl, hb1⟩)
  obtain ⟨_, h1, B1⟩ := HA.out
  have hs := (Pg.blk_later h1 hb1).alloc (.cells #[.int .i64 0, .int .i64 0, .int .i64 0, .int .i64 0] 28)
  have ht : Blk (w1.alloc (.cells #[.int .i64 0, .int .i64 0, .int .i64 0, .int .i64 0] 28)) w1.heap.size 28 #[.int .i64 0, .int .i64 0, .int .i64 0, .int .i64 0] := Blk.new w1 _ _
  have hB : Below w.heap.size w (w1.alloc (.cells #[.int .i64 0, .int .i64 0, .int .i64 0, .int .i64 0] 28)) := (B1.trans (hb1.mono B1.size)).alloc (Nat.le_trans B1.size hb1.size) _
  have hne : w1.heap.size ≠ w.heap.size := by have := (Pg.blk_later h1 hb1).lt; omega
  clear h1 B1 hb1 HA k0 k1 k2 k3 k4
  generalize w1.alloc (.cells #[.int .i64 0, .int .i64 0, .int .i64 0, .int .i64 0] 28) = Y1 at hs ht hB ⊢
  generalize w1.heap.size = t3 at ht hne ⊢
  have f2 := hs.frozen 2
  have k2 := hs.cell 2
  have HS := Lib.hid (And.intro hs (And.intro ht (And.intro hB hne)))
  clear hs ht hB hne
  go_upto_region 5 with fail
  obtain ⟨hs, ht, hB, hne⟩ := HS.out
  replace hs : Blk (Y1.setCell ⟨w.heap.size, 2, none⟩ (.int .i64 (-1))) w.heap.size 25 #[.int .i64 64, .int .i64 2, .int .i64 (-1), .func (.func 4) #[] #[], .func (.func 5) #[] #[]] := hs.set_ 2 (.int .i64 (-1))
  replace ht := ht.far (p := ⟨w.heap.size, 2, none⟩) hne (.int .i64 (-1))
  replace hB : Below w.heap.size w (Y1.setCell ⟨w.heap.size, 2, none⟩ (.int .i64 (-1))) := hB.setCell (p := ⟨w.heap.size, 2, none⟩) (Nat.le_refl _) _
  clear HS f2 k2
  generalize Y1.setCell ⟨w.heap.size, 2, none⟩ (.int .i64 (-1)) = X2 at hs ht hB ⊢
  have c2 := Pg.topK_no 64 2 (-1) (.func (.func 4) #[] #[]) (.func (.func 5) #[] #[]) ⟨#[]⟩ 9999 13 (by decide) X2 (fun WW => Pg.begin64_no (-1) _ _ (.inr ⟨_, _, _, rfl⟩) (.inr ⟨_, _, _, rfl⟩) (.inl (by decide)) _ WW)
  unfold Pg.no at c2
  have HA := Lib.hid c2
  clear c2
  have HS := Lib.hid (And.intro hs (And.intro ht (And.intro hB hne)))
  have k0 := hs.cell 0
  have k1 := hs.cell 1
  have k2 := hs.cell 2
  have k3 := hs.cell 3
  have k4 := hs.cell 4
  clear hs ht hB hne
  go_upto_region 6 with (go_at_call 6; refine HA.out.mono ?_; rintro e w2 ⟨rfl, hb2⟩)
  obtain ⟨hs, ht, hB, hne⟩ := HS.out
  replace hs := (Pg.blk_later hs hb2).alloc (.cells #[.int .i64 0, .int .i64 0, .int .i64 0, .int .i64 0] 28)
  replace ht := (Pg.blk_later ht hb2).alloc (.cells #[.int .i64 0, .int .i64 0, .int .i64 0, .int .i64 0] 28)
  replace hB : Below w.heap.size w (w2.alloc (.cells #[.int .i64 0, .int .i64 0, .int .i64 0, .int .i64 0] 28)) := (hB.trans (hb2.mono hB.size)).alloc (Nat.le_trans hB.size hb2.size) _
  clear hb2 HS HA k0 k1 k2 k3 k4
  generalize w2.alloc (.cells #[.int .i64 0, .int .i64 0, .int .i64 0, .int .i64 0] 28) = Y2 at hs ht hB ⊢
  generalize w2.heap.size = z2
  have f0 := hs.frozen 0
  have f1 := hs.frozen 1
  have f2 := hs.frozen 2
  have f3 := hs.frozen 3
  have f4 := hs.frozen 4
  have k0 := hs.cell 0
  have k1 := hs.cell 1
  have k2 := hs.cell 2
  have k3 := hs.cell 3
  have k4 := hs.cell 4
  have HS := Lib.hid (And.intro hs (And.intro ht (And.intro hB hne)))
  clear hs ht hB hne
  go_upto_region 7 with fail
  obtain ⟨hs, ht, hB, hne⟩ := HS.out
  replace hs := Pg.set5 hs (.int .i64 64) (.int .i64 2) (.int .i64 0) (.func (.func 4) #[] #[]) (.nilFunc)
  replace ht := Pg.far5 ht hne (.int .i64 64) (.int .i64 2) (.int .i64 0) (.func (.func 4) #[] #[]) (.nilFunc)
  replace hB := Pg.below5 hB (b := w.heap.size) (Nat.le_refl _) (.int .i64 64) (.int .i64 2) (.int .i64 0) (.func (.func 4) #[] #[]) (.nilFunc)
  clear HS f0 f1 f2 f3 f4 k0 k1 k2 k3 k4
  generalize (((((Y2.setCell ⟨w.heap.size, 0, none⟩ (.int .i64 64)).setCell ⟨w.heap.size, 1, none⟩ (.int .i64 2)).setCell ⟨w.heap.size, 2, none⟩ (.int .i64 0)).setCell ⟨w.heap.size, 3, none⟩ (.func (.func 4) #[] #[])).setCell ⟨w.heap.size, 4, none⟩ (.nilFunc)) = X3 at hs ht hB ⊢
  have c3 := Pg.radius_no 64 2 0 (.func (.func 4) #[] #[]) .nilFunc ⟨#[]⟩ 9999 13 (by decide) X3 (fun WW => Pg.begin64_no 0 _ _ (.inr ⟨_, _, _, rfl⟩) (.inl rfl) (.inr (.inr rfl)) _ WW)
  unfold Pg.no at c3
  have HA := Lib.hid c3
  clear c3
  have HS := Lib.hid (And.intro hs (And.intro ht (And.intro hB hne)))
  have k0 := hs.cell 0
  have k1 := hs.cell 1
  have k2 := hs.cell 2
  have k3 := hs.cell 3
  have k4 := hs.cell 4
  clear hs ht hB hne
  go_upto_region 8 with (go_at_call 7; refine HA.out.mono ?_; rintro e w3 ⟨rfl, hb3⟩)
  obtain ⟨hs, ht, hB, hne⟩ := HS.out
  replace hs := (Pg.blk_later hs hb3).alloc (.cells #[.int .i64 0, .int .i64 0, .int .i64 0, .int .i64 0] 28)
  replace ht := (Pg.blk_later ht hb3).alloc (.cells #[.int .i64 0, .int .i64 0, .int .i64 0, .int .i64 0] 28)
  replace hB : Below w.heap.size w (w3.alloc (.cells #[.int .i64 0, .int .i64 0, .int .i64 0, .int .i64 0] 28)) := (hB.trans (hb3.mono hB.size)).alloc (Nat.le_trans hB.size hb3.size) _
  clear hb3 HS HA k0 k1 k2 k3 k4
  generalize w3.alloc (.cells #[.int .i64 0, .int .i64 0, .int .i64 0, .int .i64 0] 28) = Y3 at hs ht hB ⊢
  generalize w3.heap.size = z3
  have f0 := hs.frozen 0
  have f1 := hs.frozen 1
  have f2 := hs.frozen 2
  have f3 := hs.frozen 3
  have f4 := hs.frozen 4
  have k0 := hs.cell 0
  have k1 := hs.cell 1
  have k2 := hs.cell 2
  have k3 := hs.cell 3
  have k4 := hs.cell 4
  have HS := Lib.hid (And.intro hs (And.intro ht (And.intro hB hne)))
  clear hs ht hB hne
  go_upto_region 9 with fail
  obtain ⟨hs, ht, hB, hne⟩ := HS.out
  replace hs := Pg.set5 hs (.int .i64 64) (.int .i64 2) (.int .i64 0) (.nilFunc) (.func (.func 5) #[] #[])
  replace ht := Pg.far5 ht hne (.int .i64 64) (.int .i64 2) (.int .i64 0) (.nilFunc) (.func (.func 5) #[] #[])
  replace hB := Pg.below5 hB (b := w.heap.size) (Nat.le_refl _) (.int .i64 64) (.int .i64 2) (.int .i64 0) (.nilFunc) (.func (.func 5) #[] #[])
  clear HS f0 f1 f2 f3 f4 k0 k1 k2 k3 k4
  generalize (((((Y3.setCell ⟨w.heap.size, 0, none⟩ (.int .i64 64)).setCell ⟨w.heap.size, 1, none⟩ (.int .i64 2)).setCell ⟨w.heap.size, 2, none⟩ (.int .i64 0)).setCell ⟨w.heap.size, 3, none⟩ (.nilFunc)).setCell ⟨w.heap.size, 4, none⟩ (.func (.func 5) #[] #[])) = X4 at hs ht hB ⊢
  have c4 := Pg.few_no 64 2 0 .nilFunc (.func (.func 5) #[] #[]) ⟨#[]⟩ 9999 (-1) 13 (by decide) X4 (fun WW => Pg.begin64_no 0 _ _ (.inl rfl) (.inr ⟨_, _, _, rfl⟩) (.inr (.inl rfl)) _ WW)
  unfold Pg.no at c4
  have HA := Lib.hid c4
  clear c4
  have HS := Lib.hid (And.intro hs (And.intro ht (And.intro hB hne)))
  have k0 := hs.cell 0
  have k1 := hs.cell 1
  have k2 := hs.cell 2
  have k3 := hs.cell 3
  have k4 := hs.cell 4
  clear hs ht hB hne
  go_upto_region 10 with (go_at_call 8; refine HA.out.mono ?_; rintro e w4 ⟨rfl, hb4⟩)
  obtain ⟨hs, ht, hB, hne⟩ := HS.out
  replace hs := (Pg.blk_later hs hb4).alloc (.cells #[.int .i64 0, .int .i64 0, .int .i64 0, .int .i64 0] 28)
  replace ht := (Pg.blk_later ht hb4).alloc (.cells #[.int .i64 0, .int .i64 0, .int .i64 0, .int .i64 0] 28)
  replace hB : Below w.heap.size w (w4.alloc (.cells #[.int .i64 0, .int .i64 0, .int .i64 0, .int .i64 0] 28)) := (hB.trans (hb4.mono hB.size)).alloc (Nat.le_trans hB.size hb4.size) _
  clear hb4 HS HA k0 k1 k2 k3 k4
  generalize w4.alloc (.cells #[.int .i64 0, .int .i64 0, .int .i64 0, .int .i64 0] 28) = Y4 at hs ht hB ⊢
  generalize w4.heap.size = z4
  have q0 := ht.cell 0
  have q1 := ht.cell 1
  have q2 := ht.cell 2
  have q3 := ht.cell 3
  have HS := Lib.hid hB
  clear hs ht hB hne
  go_wp2_with (go_at_call 9; refine (Pg.num_any _ _).mono ?_; rintro e w' ⟨rfl, rfl⟩)
  go_ret
  exact ⟨by simp, HS.out⟩
end Go.Proofs.YtlfeibaghfcpaaaDoor
