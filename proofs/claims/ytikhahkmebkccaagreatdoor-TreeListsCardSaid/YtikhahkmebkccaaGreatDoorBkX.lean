/- Contracts of the law's coded and begun; all kinds of do. Conditions: each theorem's own hypotheses. -/
import Derived.Test.YtikhahkmebkccaaGreatDoorBkW
import Derived.Deep.RegionWith
import Derived.Laws.IdiomStrings
import Derived.BigQuiet
namespace Go.Proofs.YtikhahkmebkccaaGreatDoor
open Go.RowKit Go.Maps Go.Sort Go.Shelf
set_option linter.unusedVariables false
set_option linter.unusedSimpArgs false

theorem Bk.do_any {W : World} {t : Nat} {T : Bk.T} {F : Nat → Prop} (h : Bk.Tree W t T F) (hT : TabO W) (hl : T.l.length ≤ 4398046511104) (c : ByteArray) (hc : c.size ≤ 9223372036854775807) (kd n : Int) :
    Calls Tryz.prog 9 #[.pointer (some ⟨t, 0, none⟩), .agg #[.int .i64 kd, .string c, .int .i64 n]] W (Bk.Did W t F (Bk.run T kd c.data.toList n)) := by
  by_cases k1 : kd = 1
  · subst k1; exact Bk.do_add h hT hl c hc n
  by_cases k2 : kd = 2
  · subst k2; exact Bk.do_drop h hT hl c hc n
  by_cases k3 : kd = 3
  · subst k3; exact Bk.do_has h hT hl c hc n
  by_cases k4 : kd = 4
  · subst k4; exact Bk.do_within h hT hl c hc n
  by_cases k5 : kd = 5
  · subst k5; exact Bk.do_nearest h hT hl c hc n
  by_cases k6 : kd = 6
  · subst k6; exact Bk.do_tell h hT hl c hc n
  exact Bk.do_none h hT hl c hc n kd k1 k2 k3 k4 k5 k6
/-- Seven zeros and a byte. -/
def Bk.cod (c : UInt8) : ByteArray := ⟨#[0, 0, 0, 0, 0, 0, 0, c]⟩
theorem Bk.coded_conv (c : UInt8) (W : World) (g : Nat) (h : Blk W g 5 #[.int .u8 0, .int .u8 0, .int .u8 0, .int .u8 0, .int .u8 0, .int .u8 0, .int .u8 0, .int .u8 c.toNat]) :
    (convert 37 9 (.slice (some ⟨g, 0, none⟩) 8 8)).run Tryz.prog W = .ok (.string (Bk.cod c)) W := by
  refine run_convert_bytes_back W 37 9 5 ⟨g, 0, none⟩ 8 [0, 0, 0, 0, 0, 0, 0, c] Tryz.underlying37 Tryz.underlying5 Tryz.underlying9 fun j hj => ?_
  rw [Bk.addr_add, h.cell]
  have h8 : j < 8 := hj
  match j, h8 with
  | 0, _ => rfl
  | 1, _ => rfl
  | 2, _ => rfl
  | 3, _ => rfl
  | 4, _ => rfl
  | 5, _ => rfl
  | 6, _ => rfl
  | 7, _ => rfl
section
variable {W : World} {t : Nat} {T : Bk.T} {F : Nat → Prop}
/-- What a call that may write leaves of a tree. -/
def Bk.Led (W : World) (t : Nat) (F : Nat → Prop) (T' : Bk.T) (W' : World) : Prop := ∃ F', Bk.Tree W' t T' F' ∧ Bk.Only F W W' ∧ (∀ k, F' k → F k ∨ W.heap.size ≤ k) ∧ TabO W'
theorem Bk.Tree.led (h : Bk.Tree W t T F) (hT : TabO W) {T' : Bk.T} {W' : World} (hm : Bk.Moved W W' t F T') (hg : Bk.Good T'.w T'.l ∧ T'.w = T.w) : Bk.Led W t F T' W' := by
  obtain ⟨F', hA, hO, hF⟩ := hm
  refine ⟨F', ⟨hA, hg.1, by rw [hg.2]; exact h.wide, fun k hk => ?_⟩, hO, hF, h.tab hT hO⟩
  have := hT.pos
  rcases hF k hk with h1 | h1
  · exact h.off k h1
  · omega
theorem Bk.Tree.add (h : Bk.Tree W t T F) (hT : TabO W) (hl : T.l.length ≤ 4398046511104) (c : ByteArray) (hc : c.size ≤ 9223372036854775807) :
    Calls Tryz.prog 13 #[.pointer (some ⟨t, 0, none⟩), .string c] W fun e W' => e = .returned (.tuple #[.bool (Bk.add T c.data.toList).2.1, .int .i64 (Bk.add T c.data.toList).2.2]) ∧ Bk.Led W t F (Bk.add T c.data.toList).1 W' :=
  (Bk.add_any h.at' h.good h.wide c hc hl fun w hw => h.tab hT hw).mono fun e W' hx => ⟨hx.1, h.led hT hx.2 (by have := h.good.add c.data.toList; exact ⟨by rw [this.2]; exact this.1, this.2⟩)⟩
theorem Bk.Tree.drop (h : Bk.Tree W t T F) (hT : TabO W) (hl : T.l.length ≤ 4398046511104) (c : ByteArray) (hc : c.size ≤ 9223372036854775807) :
    Calls Tryz.prog 14 #[.pointer (some ⟨t, 0, none⟩), .string c] W fun e W' => e = .returned (.bool (Bk.drop T c.data.toList).2) ∧ Bk.Led W t F (Bk.drop T c.data.toList).1 W' :=
  (Bk.drop_any h.at' h.good h.le c hc hl fun w hw => h.tab hT hw).mono fun e W' hx => ⟨hx.1, h.led hT hx.2 (by have := h.good.drop c.data.toList; exact ⟨by rw [this.2]; exact this.1, this.2⟩)⟩
theorem Bk.Tree.search (h : Bk.Tree W t T F) (hT : TabO W) {T' : Bk.T} {W' : World} (hA : Bk.At W' t T' F) (hO : Bk.Only F W W') (hl : T'.l = T.l ∧ T'.w = T.w) : Bk.Tree W' t T' F ∧ TabO W' :=
  ⟨⟨hA, by rw [hl.1, hl.2]; exact h.good, by rw [hl.2]; exact h.wide, h.off⟩, h.tab hT hO⟩
theorem Bk.Tree.within (h : Bk.Tree W t T F) (hT : TabO W) (hl : T.l.length ≤ 4398046511104) (c : ByteArray) (hc : c.size ≤ 9223372036854775807) (n : Int) :
    Calls Tryz.prog 16 #[.pointer (some ⟨t, 0, none⟩), .string c, .int .i64 n] W fun e W' => ∃ v, e = .returned (.tuple #[v, .int .i64 (Bk.within T c.data.toList n).2.2]) ∧
      W'.ownsRow W.heap.size 61 3 v (Bk.within T c.data.toList n).2.1.length (Bk.hcs (Bk.within T c.data.toList n).2.1) ∧ Bk.Tree W' t (Bk.within T c.data.toList n).1 F ∧ Bk.Only F W W' ∧ TabO W' :=
  (Bk.within_any h.at' h.good h.wide c hc n hl (fun i => Nat.le_trans (h.good.deep h.le i) (by omega)) hT h.off).mono fun e W' ⟨v, h1, h2, h3, h4⟩ => ⟨v, h1, h2, (h.search hT h3 h4 (Bk.within_l ..)).1, h4, h.tab hT h4⟩
theorem Bk.Tree.nearest (h : Bk.Tree W t T F) (hT : TabO W) (hl : T.l.length ≤ 4398046511104) (c : ByteArray) (hc : c.size ≤ 9223372036854775807) (n : Int) :
    Calls Tryz.prog 18 #[.pointer (some ⟨t, 0, none⟩), .string c, .int .i64 n] W fun e W' => ∃ v, e = .returned (.tuple #[v, .int .i64 (Bk.nearest T c.data.toList n).2.2]) ∧
      W'.ownsRow W.heap.size 61 3 v (Bk.nearest T c.data.toList n).2.1.length (Bk.hcs (Bk.nearest T c.data.toList n).2.1) ∧ Bk.Tree W' t (Bk.nearest T c.data.toList n).1 F ∧ Bk.Only F W W' ∧ TabO W' :=
  (Bk.nearest_any h.at' h.good h.wide c hc n hl (fun i => Nat.le_trans (h.good.deep h.le i) (by omega)) hT h.off).mono fun e W' ⟨v, h1, h2, h3, h4⟩ => ⟨v, h1, h2, (h.search hT h3 h4 (Bk.nearest_l ..)).1, h4, h.tab hT h4⟩
theorem Bk.Tree.later {W' : World} {B : Nat} (h : Bk.Tree W t T F) (hB : Below B W W') (hs : W.heap.size ≤ B) : Bk.Tree W' t T F := h.keep fun k hk => hB.block k (Nat.lt_of_lt_of_le (h.at'.lt hk) hs)
end
theorem Bk.new_tree (w : Nat) (hw : Bt.wide w = true) (W : World) (hT : TabO W) :
    Calls Tryz.prog 6 #[.int .i64 w] W fun e W' => ∃ t F, e = .returned (.pointer (some ⟨t, 0, none⟩)) ∧ Bk.Tree W' t ⟨w, [], 0⟩ F ∧ Below W.heap.size W W' ∧ (∀ k, F k → W.heap.size ≤ k) ∧ TabO W' :=
  (Bk.new_any w hw W).mono fun e W' ⟨t, F, h1, h2, h3, h4⟩ => ⟨t, F, h1, ⟨h2, Bk.Good.nil w, hw, fun k hk e => by have := h4 k hk; have := hT.pos; omega⟩, h3, h4, hT.below h3 (Nat.le_refl _)⟩
/-- What begun does, without memory. -/
def Bk.l0 : List Bk.N := [⟨[0, 0, 0, 0, 0, 0, 0, 0], true, -1, 0⟩]
def Bk.l1 : List Bk.N := [⟨[0, 0, 0, 0, 0, 0, 0, 0], true, -1, 0⟩, ⟨[0, 0, 0, 0, 0, 0, 0, 1], true, 0, 1⟩]
def Bk.l7 : List Bk.N := [⟨[0, 0, 0, 0, 0, 0, 0, 0], true, -1, 0⟩, ⟨[0, 0, 0, 0, 0, 0, 0, 1], true, 0, 1⟩, ⟨[0, 0, 0, 0, 0, 0, 0, 7], true, 0, 3⟩]
theorem Bk.beg0 : Bk.add ⟨64, [], 0⟩ [0, 0, 0, 0, 0, 0, 0, 0] = (⟨64, Bk.l0, 0⟩, true, 0) := by kernel_rfl
theorem Bk.beg1 : Bk.add ⟨64, Bk.l0, 0⟩ [0, 0, 0, 0, 0, 0, 0, 1] = (⟨64, Bk.l1, 0⟩, true, 0) := by kernel_rfl
theorem Bk.beg7 : Bk.add ⟨64, Bk.l1, 0⟩ [0, 0, 0, 0, 0, 0, 0, 7] = (⟨64, Bk.l7, 0⟩, true, 0) := by kernel_rfl
theorem Bk.begR : Bk.Res ⟨64, Bk.l7, 0⟩ [0, 0, 0, 0, 0, 0, 0, 0] (fun _ => 1) = ([⟨0, [0, 0, 0, 0, 0, 0, 0, 0]⟩, ⟨1, [0, 0, 0, 0, 0, 0, 0, 1]⟩], 2) := by kernel_rfl
theorem Bk.begS : Bk.Res ⟨64, Bk.l7, 2⟩ [0, 0, 0, 0, 0, 0, 0, 3] (fun F => Bk.down 1 F 64) = ([⟨2, [0, 0, 0, 0, 0, 0, 0, 0]⟩, ⟨1, [0, 0, 0, 0, 0, 0, 0, 1]⟩, ⟨1, [0, 0, 0, 0, 0, 0, 0, 7]⟩], 5) := by kernel_rfl
theorem Bk.begw : Bk.within ⟨64, Bk.l7, 0⟩ [0, 0, 0, 0, 0, 0, 0, 0] 1 = (⟨64, Bk.l7, 2⟩, [⟨0, [0, 0, 0, 0, 0, 0, 0, 0]⟩, ⟨1, [0, 0, 0, 0, 0, 0, 0, 1]⟩], 0) := by
  unfold Bk.within
  rw [if_pos (by decide), if_neg (by decide)]
  show ((⟨64, Bk.l7, (Bk.Res ⟨64, Bk.l7, 0⟩ [0, 0, 0, 0, 0, 0, 0, 0] (fun _ => 1)).2⟩ : Bk.T), Bk.sortH ((Bk.Res ⟨64, Bk.l7, 0⟩ [0, 0, 0, 0, 0, 0, 0, 0] (fun _ => 1)).1.filter fun h => decide (h.d ≤ 1)), (0 : Int)) = _
  rw [Bk.begR]
  refine Prod.ext rfl (Prod.ext ?_ rfl)
  show Bk.sortH [⟨0, [0, 0, 0, 0, 0, 0, 0, 0]⟩, ⟨1, [0, 0, 0, 0, 0, 0, 0, 1]⟩] = _
  exact List.mergeSort_of_pairwise (by decide)
theorem Bk.begn : Bk.nearest ⟨64, Bk.l7, 2⟩ [0, 0, 0, 0, 0, 0, 0, 3] 1 = (⟨64, Bk.l7, 5⟩, [⟨1, [0, 0, 0, 0, 0, 0, 0, 1]⟩, ⟨1, [0, 0, 0, 0, 0, 0, 0, 7]⟩], 0) := by
  unfold Bk.nearest
  rw [if_pos (by decide), if_neg (by decide), if_neg (by decide)]
  show ((⟨64, Bk.l7, (Bk.Res ⟨64, Bk.l7, 2⟩ [0, 0, 0, 0, 0, 0, 0, 3] (fun F => Bk.down 1 F 64)).2⟩ : Bk.T), Bk.sortH ((Bk.Res ⟨64, Bk.l7, 2⟩ [0, 0, 0, 0, 0, 0, 0, 3] (fun F => Bk.down 1 F 64)).1.filter fun h => decide (h.d ≤ Bk.down 1 (Bk.Res ⟨64, Bk.l7, 2⟩ [0, 0, 0, 0, 0, 0, 0, 3] (fun F => Bk.down 1 F 64)).1 64)), (0 : Int)) = _
  rw [Bk.begS]
  refine Prod.ext rfl (Prod.ext ?_ rfl)
  show Bk.sortH [⟨1, [0, 0, 0, 0, 0, 0, 0, 1]⟩, ⟨1, [0, 0, 0, 0, 0, 0, 0, 7]⟩] = _
  exact List.mergeSort_of_pairwise (by decide)
end Go.Proofs.YtikhahkmebkccaaGreatDoor
