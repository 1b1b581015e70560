/- The law's helper other: the bytes of a manifest that goes, and that manifest. Conditions: each theorem's own hypotheses. -/
import Derived.Test.YtffdplmnjlcmnaaDoorMdE
import Derived.Test.YtffdplmnjlcmnaaDoorMdR
import Derived.Test.YtffdplmnjlcmnaaDoorMfJ
namespace Go.Proofs.YtffdplmnjlcmnaaDoor
open Go.RowKit Go.Maps
set_option linter.unusedVariables false

theorem Rs.heap {W W' : World} {B B' : Nat} {A : Option Addr} {rs : List Run} (H : Rs W B A rs) (h : ∀ g off, A = some ⟨g, off, none⟩ → W'.heap[g]? = W.heap[g]? ∧ g < B') : Rs W' B' A rs := by
  intro h0
  obtain ⟨b, off, hA, hb, hc⟩ := H h0
  obtain ⟨h1, h2⟩ := h b off hA
  refine ⟨b, off, hA, h2, fun j r hj => ?_⟩
  obtain ⟨c0, c1, c2, c3⟩ := hc j r hj
  exact ⟨(World.cell?_of_block (a := ⟨b, _, none⟩) h1).trans c0, (World.cell?_of_block (a := ⟨b, _, none⟩) h1).trans c1, (World.cell?_of_block (a := ⟨b, _, none⟩) h1).trans c2, (World.cell?_of_block (a := ⟨b, _, none⟩) h1).trans c3⟩

theorem man7_size (W : World) (b : Nat) (v0 v1 v2 v3 v4 v5 v6 : Value) : (man7 W b v0 v1 v2 v3 v4 v5 v6).heap.size = W.heap.size := by
  unfold man7
  iterate 7 rw [World.size_setCell]
theorem Rs.drew_ {W : World} {B : Nat} {A : Option Addr} {rs : List Run} (H : Rs W B A rs) : Rs W.drew B A rs := H.keep fun _ _ => rfl
theorem Rs.over7 {w1 W' : World} {b g : Nat} {rs : List Run} {v0 v1 v2 v3 v4 v5 v6 : Value} (hW : man7 w1 b v0 v1 v2 v3 v4 v5 v6 = W') (H : Rs w1 w1.heap.size (some ⟨g, 0, none⟩) rs) (hne : g ≠ b) (hlt : g < w1.heap.size) :
    Rs W' W'.heap.size (some ⟨g, 0, none⟩) rs := by
  refine Rs.heap H fun g' off e => ?_
  injection e with e
  injection e with e1 _ _
  subst e1
  subst hW
  rw [man7_size]
  exact ⟨man7_heap hne v0 v1 v2 v3 v4 v5 v6, hlt⟩

theorem Rs.drew7 {W : World} {A : Option Addr} {rs : List Run} (H : Rs W W.heap.size A rs) : Rs W.drew W.drew.heap.size A rs := Rs.drew_ H

/-- The other manifest. -/
def Mf.oth : Man := ⟨64, 2, 1, 9, 9, 3, [⟨1, 0, 4, 2⟩, ⟨2, 4, 9, 1⟩]⟩
theorem Mf.oth_check : Mf.check Mf.oth = 0 := by
  unfold Mf.check
  rw [if_neg (by decide), if_pos]
  refine ⟨by unfold Mf.Front Mf.oth; decide, fun j r hj hr => ?_⟩
  match j, hj with
  | 0, _ =>
    obtain rfl := Option.some.inj hr
    refine ⟨by decide, by decide, by decide, ?_, ?_, ?_⟩ <;> simp [Mf.last, Mf.oth]
  | 1, _ =>
    obtain rfl := Option.some.inj hr
    refine ⟨by decide, by decide, by decide, ?_, ?_, ?_⟩ <;> simp [Mf.last, Mf.oth]
theorem Mf.oth_fit : Mf.Fit Mf.oth := ⟨by decide, by decide, by decide, by decide⟩

set_option maxRecDepth 100000 in
set_option maxHeartbeats 2000000 in
theorem other_any (w : World) :
    Calls Tryd.prog 25 #[] w fun e w' => (∃ (S : ByteArray) (A : Option Addr) (cap : Nat), e = .returned (.tuple #[.string S, manV Mf.oth A cap]) ∧ S.data.toList = Sl.frame 3 (Mf.body Mf.oth) ∧ S.size ≤ 1044 ∧ Rs w' w'.heap.size A Mf.oth.runs) ∧ Below w.heap.size w w' := by
  go_enter Tryd.func25, Tryd.ntmps25
  go_wp2_with fail
  obtain ⟨W, hW⟩ : ∃ W, (((w.alloc (.cells zeroMan 26)).alloc (.cells (manCells Mf.oth (some ⟨w.heap.size + 1 + 1, 0, none⟩) 2) 26)).alloc (.cells #[.int .i64 1, .int .i64 0, .int .i64 4, .int .i64 2, .int .i64 2, .int .i64 4, .int .i64 9, .int .i64 1] 38)) = W := ⟨_, rfl⟩
  have hz : W.heap.size = w.heap.size + 3 := by rw [← hW, World.size_alloc, World.size_alloc, World.size_alloc]
  have b0 : Blk W w.heap.size 26 zeroMan := by rw [← hW]; exact ((Blk.new w _ _).alloc _).alloc _
  have b1 : Blk W (w.heap.size + 1) 26 (manCells Mf.oth (some ⟨w.heap.size + 1 + 1, 0, none⟩) 2) := by
    rw [← hW]
    refine Blk.alloc ?_ _
    have := Blk.new (w.alloc (.cells zeroMan 26)) 26 (manCells Mf.oth (some ⟨w.heap.size + 1 + 1, 0, none⟩) 2)
    rwa [World.size_alloc] at this
  have b2 : Blk W (w.heap.size + 1 + 1) 38 #[.int .i64 1, .int .i64 0, .int .i64 4, .int .i64 2, .int .i64 2, .int .i64 4, .int .i64 9, .int .i64 1] := by
    rw [← hW]
    have := Blk.new ((w.alloc (.cells zeroMan 26)).alloc (.cells (manCells Mf.oth (some ⟨w.heap.size + 1 + 1, 0, none⟩) 2) 26)) 38 #[.int .i64 1, .int .i64 0, .int .i64 4, .int .i64 2, .int .i64 2, .int .i64 4, .int .i64 9, .int .i64 1]
    rwa [World.size_alloc, World.size_alloc] at this
  have BW : Below w.heap.size w W := by rw [← hW]; exact (((Below.refl _ _).alloc (Nat.le_refl _) _).alloc (by simp) _).alloc (by simp; omega) _
  have hrs : Rs W W.heap.size (some ⟨w.heap.size + 1 + 1, 0, none⟩) Mf.oth.runs := Rs.of_cells (by omega) fun j u hu => by
    have := b2.cell j
    rw [Nat.zero_add, this, List.getElem?_toArray]
    exact hu
  obtain ⟨S, hS, hSd, hSs⟩ := str_of (Sl.frame 3 (Mf.body Mf.oth))
  have hlen := Mf.body_len (Mf.good Mf.oth_check)
  have hen : encV Mf.oth 0 = .tuple #[.string S, .int .i64 0] := by rw [← hS]; rfl
  have henc := refEncode_any Mf.oth (some ⟨w.heap.size + 1 + 1, 0, none⟩) 2 W hrs Mf.oth_fit 0 Mf.oth_check
  rw [hen] at henc
  have HEN := Lib.hid henc
  have HW := Lib.hid hW
  have HZ := Lib.hid hz
  have HSD := Lib.hid hSd
  have hSl : S.size ≤ 1044 := by rw [hSs, Sl.frame_len]; omega
  clear henc hW hz hS hSd hSs hen hlen
  show Calls Tryd.prog 14 #[manV Mf.oth (some ⟨w.heap.size + 1 + 1, 0, none⟩) 2] (((w.alloc (.cells zeroMan 26)).alloc (.cells (manCells Mf.oth (some ⟨w.heap.size + 1 + 1, 0, none⟩) 2) 26)).alloc (.cells #[.int .i64 1, .int .i64 0, .int .i64 4, .int .i64 2, .int .i64 2, .int .i64 4, .int .i64 9, .int .i64 1] 38)) _
  rw [HW.out]
  refine HEN.out.mono ?_
  rintro e w1 ⟨rfl, hB⟩
  have c0 := (hB.block _ b0.lt).trans b0
  have c1 := (hB.block _ b1.lt).trans b1
  have c2 : Rs w1 w1.heap.size (some ⟨w.heap.size + 1 + 1, 0, none⟩) Mf.oth.runs := (hrs.below hB).more hB.size
  have B1 := BW.trans (hB.mono BW.size)
  obtain ⟨x0, x1, x2, x3, x4, x5, x6⟩ := zero_seven c0
  obtain ⟨f0, f1, f2, f3, f4, f5, f6⟩ := blk_free7 c0
  have t0 : w1.cell? ⟨w.heap.size + 1, 0, none⟩ = some (.int .i64 64) := Blk.cell c1 0
  have t1 : w1.cell? ⟨w.heap.size + 1, 1, none⟩ = some (.int .i64 2) := Blk.cell c1 1
  have t2 : w1.cell? ⟨w.heap.size + 1, 2, none⟩ = some (.int .i64 1) := Blk.cell c1 2
  have t3 : w1.cell? ⟨w.heap.size + 1, 3, none⟩ = some (.int .i64 9) := Blk.cell c1 3
  have t4 : w1.cell? ⟨w.heap.size + 1, 4, none⟩ = some (.int .i64 9) := Blk.cell c1 4
  have t5 : w1.cell? ⟨w.heap.size + 1, 5, none⟩ = some (.int .i64 3) := Blk.cell c1 5
  have t6 : w1.cell? ⟨w.heap.size + 1, 6, none⟩ = some (.slice (some ⟨w.heap.size + 1 + 1, 0, none⟩) 2 2) := Blk.cell c1 6
  have hlt1 : w.heap.size + 3 ≤ w1.heap.size := by have := hB.size; have := HZ.out; omega
  obtain ⟨W7, hW7⟩ : ∃ W7, (man7 w1 w.heap.size (.int .i64 64) (.int .i64 2) (.int .i64 1) (.int .i64 9) (.int .i64 9) (.int .i64 3) (.slice (some ⟨w.heap.size + 1 + 1, 0, none⟩) 2 2)) = W7 := ⟨_, rfl⟩
  have hR7 := Lib.hid (Rs.drew7 (Rs.over7 hW7 c2 (by omega) (by omega)))
  have HW7 := Lib.hid hW7
  clear hW7
  clear b0 b1 b2 c1 hB
  go_wp2_with fail
  go_region
  all_goals (try go_wp2_with fail)
  all_goals
    refine bodyPost_ret (v := .tuple #[.string S, .agg #[.int .i64 64, .int .i64 2, .int .i64 1, .int .i64 9, .int .i64 9, .int .i64 3, .slice (some ⟨w.heap.size + 1 + 1, 0, none⟩) 2 2]]) (by simp [results, Tryd.results25, go_sem, x0, x1, x2, x3, x4, x5, x6]) rfl ⟨⟨S, _, 2, rfl, HSD.out, hSl, ?_⟩, Below.drew_ (B1.trans (man7_below (Nat.le_refl _) _ _ _ _ _ _ _))⟩
    have hw7 := HW7.out
    unfold man7 at hw7
    rw [hw7]
    exact hR7.out
end Go.Proofs.YtffdplmnjlcmnaaDoor
