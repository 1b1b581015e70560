/- The walk of the law RunFiles. Conditions: each theorem's own hypotheses. -/
import Derived.Test.YtffdplmnjlcmnaaDoorRnD
namespace Go.Proofs.YtffdplmnjlcmnaaDoor
open Go.RowKit
set_option linter.unusedVariables false

/-- The two options in memory. -/
structure RnSt (w : World) (a b c : Int) (X : World) : Prop where
  bo : Blk X w.heap.size 23 #[.int .i64 a, .int .i64 b, .int .i64 c]
  bx : Blk X (w.heap.size + 1) 23 #[.int .i64 64, .int .i64 8, .int .i64 1]
  below : Below w.heap.size w X
theorem RnSt.size {w X : World} {a b c : Int} (h : RnSt w a b c X) : w.heap.size + 2 ≤ X.heap.size := h.bx.lt
theorem RnSt.later {w X Y : World} {a b c : Int} (h : RnSt w a b c X) (hb : Below X.heap.size X Y) : RnSt w a b c Y :=
  ⟨(hb.block _ h.bo.lt).trans h.bo, (hb.block _ h.bx.lt).trans h.bx, rn_below hb h.below⟩
theorem RnSt.grown {w X Y : World} {a b c : Int} {row : Option Nat} (h : RnSt w a b c X) (hg : X.grownBy Y row) (hr : ∀ g, row = some g → w.heap.size + 2 ≤ g) : RnSt w a b c Y :=
  ⟨h.bo.grown hg (fun e => by have := hr _ e.symm; omega), h.bx.grown hg (fun e => by have := hr _ e.symm; omega), h.below.grown hg h.below.size (fun g e => by have := hr g e; omega)⟩
theorem RnSt.six {w X : World} {a b c : Int} (h : RnSt w a b c X) : X.cell? ⟨w.heap.size, 0, none⟩ = some (.int .i64 a) ∧ X.cell? ⟨w.heap.size, 1, none⟩ = some (.int .i64 b) ∧ X.cell? ⟨w.heap.size, 2, none⟩ = some (.int .i64 c) ∧ X.cell? ⟨w.heap.size + 1, 0, none⟩ = some (.int .i64 64) ∧ X.cell? ⟨w.heap.size + 1, 1, none⟩ = some (.int .i64 8) ∧ X.cell? ⟨w.heap.size + 1, 2, none⟩ = some (.int .i64 1) :=
  ⟨h.bo.cell 0, h.bo.cell 1, h.bo.cell 2, h.bx.cell 0, h.bx.cell 1, h.bx.cell 2⟩
theorem Rn.list_len (n w c m : Int) : (Rn.list n w c m).length ≤ 128 := by
  unfold Rn.list
  split
  · rename_i h
    rw [Rn.names_length]
    exact Rn.tabs_le (Rn.goes_in h).2.2
  · exact Nat.zero_le _
/-- The mark. -/
def Rn.mark : Value := .string ⟨#[109, 97, 114, 107]⟩

set_option maxRecDepth 100000 in
set_option maxHeartbeats 4000000 in
theorem files_law (n a b c : Int) (ha : -9223372036854775808 ≤ a ∧ a ≤ 9223372036854775807) (w : World) (hT : Rn.Pow w) :
    Calls Tryd.prog 10 #[.int .i64 n, .agg #[.int .i64 a, .int .i64 b, .int .i64 c]] w fun e w' => e = .returned (.bool true) ∧ Below w.heap.size w w' := by
  obtain ⟨F, hF⟩ : ∃ F, Rn.list n a b c = F := ⟨_, rfl⟩
  obtain ⟨G, hG⟩ : ∃ G, Rn.list 7 64 8 1 = G := ⟨_, rfl⟩
  have hFl : F.length ≤ 128 := by rw [← hF]; exact Rn.list_len _ _ _ _
  have hGl : G.length ≤ 128 := by rw [← hG]; exact Rn.list_len _ _ _ _
  have HNF := Lib.hid (fun W hT => names_any n a b c ha W hT F hF)
  have HNG := Lib.hid (fun W hT => names_any 7 64 8 1 (by decide) W hT G hG)
  have HRF := Lib.hid (fun W hT => refNames_any n a b c ha W hT F hF)
  have HRG := Lib.hid (fun W hT => refNames_any 7 64 8 1 (by decide) W hT G hG)
  have HT := Lib.hid hT
  obtain ⟨i0, hi, hz0, hz1, hz2⟩ := info_parts infoStr
  clear hT hF hG
  have S1 : RnSt w a b c ((w.alloc (.cells #[.int .i64 a, .int .i64 b, .int .i64 c] 23)).alloc (.cells #[.int .i64 64, .int .i64 8, .int .i64 1] 23)) := by
    refine ⟨(Blk.new w _ _).alloc _, ?_, ((Below.refl _ _).alloc (Nat.le_refl _) _).alloc (by simp) _⟩
    have := Blk.new (w.alloc (.cells #[.int .i64 a, .int .i64 b, .int .i64 c] 23)) 23 #[.int .i64 64, .int .i64 8, .int .i64 1]
    rwa [World.size_alloc] at this
  go_enter Tryd.func10, Tryd.ntmps10
  go_upto_region 2 with fail
  obtain ⟨W1, hW1⟩ : ∃ W1, (w.alloc (.cells #[.int .i64 a, .int .i64 b, .int .i64 c] 23)).alloc (.cells #[.int .i64 64, .int .i64 8, .int .i64 1] 23) = W1 := ⟨_, rfl⟩
  rw [hW1] at S1 ⊢
  clear hW1
  obtain ⟨c0, c1, c2, c3, c4, c5⟩ := S1.six
  go_wp2_with fail
  refine (HNF.out _ (HT.out.below S1.below)).mono ?_
  rintro e W2 ⟨⟨v1, rfl, r1⟩, hB⟩
  have S2 := S1.later hB
  have R1 : Tl W2 W1.heap.size v1 F := r1
  have hlo : W1.heap.size ≤ W2.heap.size := hB.size
  have hm1 : ∀ g, v1.ownBlock = some g → W1.heap.size ≤ g ∧ g < W2.heap.size := fun g e => World.ownsRow.lt r1 g e
  obtain ⟨A1, cp1, rfl, _⟩ := R1.form
  have HM1 := Lib.hid hm1
  have hs1 := S1.size
  have L2 := Tls.nil W2 W2.heap.size W2.heap.size
  have HR1 := Lib.hid R1
  clear r1 R1 hm1 S1 hB c0 c1 c2 c3 c4 c5
  obtain ⟨c0, c1, c2, c3, c4, c5⟩ := S2.six
  go_wp2_with fail
  refine (HNF.out _ (HT.out.below S2.below)).mono ?_
  rintro e W3 ⟨⟨v2, rfl, r⟩, hB⟩
  have S3 := S2.later hB
  have L3 := L2.add hB (v := v2) (L := F) (Rn.row_base r (by omega)) hB.size rfl
  have R2 : Tl W3 W1.heap.size (.slice A1 F.length cp1) F := HR1.out.below hB
  have q2 : W2.heap.size ≤ W3.heap.size := Nat.le_trans (by omega) hB.size
  have HR2 := Lib.hid R2
  clear R2 HR1 L2 S2 hB r c0 c1 c2 c3 c4 c5
  obtain ⟨c0, c1, c2, c3, c4, c5⟩ := S3.six
  go_wp2_with fail
  refine (HNG.out _ (HT.out.below S3.below)).mono ?_
  rintro e W4 ⟨⟨v3, rfl, r⟩, hB⟩
  have S4 := S3.later hB
  have L4 := L3.add hB (v := v3) (L := G) (Rn.row_base r (by omega)) hB.size rfl
  have R3 : Tl W4 W1.heap.size (.slice A1 F.length cp1) F := HR2.out.below hB
  have q3 : W2.heap.size ≤ W4.heap.size := Nat.le_trans (by omega) hB.size
  have HR3 := Lib.hid R3
  clear R3 HR2 L3 S3 hB r c0 c1 c2 c3 c4 c5
  obtain ⟨c0, c1, c2, c3, c4, c5⟩ := S4.six
  go_wp2_with fail
  refine (HNG.out _ (HT.out.below S4.below)).mono ?_
  rintro e W5 ⟨⟨v4, rfl, r⟩, hB⟩
  have S5 := S4.later hB
  have L5 := L4.add hB (v := v4) (L := G) (Rn.row_base r (by omega)) hB.size rfl
  have R4 : Tl W5 W1.heap.size (.slice A1 F.length cp1) F := HR3.out.below hB
  have q4 : W2.heap.size ≤ W5.heap.size := Nat.le_trans (by omega) hB.size
  have HR4 := Lib.hid R4
  clear R4 HR3 L4 S4 hB r c0 c1 c2 c3 c4 c5
  obtain ⟨c0, c1, c2, c3, c4, c5⟩ := S5.six
  go_wp2_with fail
  refine (HNF.out _ (HT.out.below S5.below)).mono ?_
  rintro e W6 ⟨⟨v5, rfl, r⟩, hB⟩
  have S6 := S5.later hB
  have L6 := L5.add hB (v := v5) (L := F) (Rn.row_base r (by omega)) hB.size rfl
  have R5 : Tl W6 W1.heap.size (.slice A1 F.length cp1) F := HR4.out.below hB
  have q5 : W2.heap.size ≤ W6.heap.size := Nat.le_trans (by omega) hB.size
  have HR5 := Lib.hid R5
  clear R5 HR4 L5 S5 hB r c0 c1 c2 c3 c4 c5
  obtain ⟨c0, c1, c2, c3, c4, c5⟩ := S6.six
  go_wp2_with fail
  refine (HRF.out _ (HT.out.below S6.below)).mono ?_
  rintro e W7 ⟨⟨v6, rfl, r⟩, hB⟩
  have S7 := S6.later hB
  have L7 := L6.add hB (v := v6) (L := F) (Rn.row_base r (by omega)) hB.size rfl
  have R6 : Tl W7 W1.heap.size (.slice A1 F.length cp1) F := HR5.out.below hB
  have q6 : W2.heap.size ≤ W7.heap.size := Nat.le_trans (by omega) hB.size
  have HR6 := Lib.hid R6
  clear R6 HR5 L6 S6 hB r c0 c1 c2 c3 c4 c5
  obtain ⟨c0, c1, c2, c3, c4, c5⟩ := S7.six
  go_wp2_with fail
  refine (HRG.out _ (HT.out.below S7.below)).mono ?_
  rintro e W8 ⟨⟨v7, rfl, r⟩, hB⟩
  have S8 := S7.later hB
  have L8 := L7.add hB (v := v7) (L := G) (Rn.row_base r (by omega)) hB.size rfl
  have R7 : Tl W8 W1.heap.size (.slice A1 F.length cp1) F := HR6.out.below hB
  have q7 : W2.heap.size ≤ W8.heap.size := Nat.le_trans (by omega) hB.size
  have HR7 := Lib.hid R7
  clear R7 HR6 L7 S7 hB r c0 c1 c2 c3 c4 c5
  obtain ⟨A6, cp6, hv6, _⟩ := (L8 (v6, F) (by simp)).1.form
  have hv6' : v6 = .slice A6 F.length cp6 := hv6
  subst hv6'
  clear hv6
  have HR8 := HR7
  clear HR7
  go_wp2_with fail
  refine (texts_same F _ _ _ _ _ (HR8.out) ((L8 ((.slice A6 F.length cp6), F) (by simp)).1) (by omega)).mono ?_
  rintro e W9 ⟨rfl, hB⟩
  have S9 := S8.later hB
  have L9 := L8.below hB
  have HR9 := Lib.hid (HR8.out.below hB)
  have p8 := hB.size
  clear S8 L8 HR8 hB
  go_wp2_with fail
  refine (texts_same F _ _ _ _ _ ((L9 (v2, F) (by simp)).1) ((L9 ((.slice A6 F.length cp6), F) (by simp)).1) (by omega)).mono ?_
  rintro e W10 ⟨rfl, hB⟩
  have S10 := S9.later hB
  have L10 := L9.below hB
  have HR10 := Lib.hid (HR9.out.below hB)
  have p9 := hB.size
  clear S9 L9 HR9 hB
  go_wp2_with fail
  refine (texts_same G _ _ _ _ _ ((L10 (v3, G) (by simp)).1) ((L10 (v7, G) (by simp)).1) (by omega)).mono ?_
  rintro e W11 ⟨rfl, hB⟩
  have S11 := S10.later hB
  have L11 := L10.below hB
  have HR11 := Lib.hid (HR10.out.below hB)
  have p10 := hB.size
  clear S10 L10 HR10 hB
  go_wp2_with fail
  refine (texts_same G _ _ _ _ _ ((L11 (v4, G) (by simp)).1) ((L11 (v7, G) (by simp)).1) (by omega)).mono ?_
  rintro e W12 ⟨rfl, hB⟩
  have S12 := S11.later hB
  have L12 := L11.below hB
  have HR12 := Lib.hid (HR11.out.below hB)
  have p11 := hB.size
  clear S11 L11 HR11 hB
  go_wp2_with fail
  refine (texts_same F _ _ _ _ _ ((L12 (v5, F) (by simp)).1) ((L12 ((.slice A6 F.length cp6), F) (by simp)).1) (by omega)).mono ?_
  rintro e W13 ⟨rfl, hB⟩
  have S13 := S12.later hB
  have L13 := L12.below hB
  have HR13 := Lib.hid (HR12.out.below hB)
  have p12 := hB.size
  clear S12 L12 HR12 hB
  have htop : W8.heap.size ≤ W13.heap.size := by omega
  have hlt8 : W2.heap.size ≤ W8.heap.size := by omega
  obtain ⟨top, htopd⟩ : ∃ top, W8.heap.size = top := ⟨_, rfl⟩
  obtain ⟨lo, hlod⟩ : ∃ lo, W2.heap.size = lo := ⟨_, rfl⟩
  obtain ⟨l1, hl1d⟩ : ∃ l1, W1.heap.size = l1 := ⟨_, rfl⟩
  have HM := Lib.hid (show ∀ g, (Value.slice A1 F.length cp1).ownBlock = some g → l1 ≤ g ∧ g < lo from by rw [← hl1d, ← hlod]; exact HM1.out)
  have LL : Tls W13 lo top [(v7, G), ((.slice A6 F.length cp6 : Value), F), (v5, F), (v4, G), (v3, G), (v2, F)] := by rw [← htopd, ← hlod]; exact L13
  have RR : W13.ownsRow l1 9 1 (.slice A1 F.length cp1) F.length (F.map Tx.v) := by rw [← hl1d]; exact HR13.out
  have htop2 : top ≤ W13.heap.size := by rw [← htopd]; exact htop
  have hl1s : w.heap.size + 2 ≤ l1 := by omega
  have hl1lo : l1 ≤ lo := by omega
  have hlotop : lo ≤ top := by omega
  clear L13 HR13 HM1 htop htopd hlod hl1d hlo hlt8 hs1 p8 p9 p10 p11 p12 q2 q3 q4 q5 q6 q7
  go_wp2_with fail
  go_loopw [14] (fun i wr => ∃ k : Nat, k ≤ F.length ∧ i = .int .i64 k ∧ (∃ xs, wr.ownsRow l1 9 1 (.slice A1 F.length cp1) F.length xs) ∧ Tls wr lo top [(v7, G), ((.slice A6 F.length cp6 : Value), F), (v5, F), (v4, G), (v3, G), (v2, F)] ∧ RnSt w a b c wr ∧ top ≤ wr.heap.size) (fun i _ => F.length - (intOf i).toNat)
  case atStart => exact ⟨0, Nat.zero_le _, rfl, ⟨_, RR⟩, LL, S13, htop2⟩
  case round =>
    clear RR LL S13 htop2
    obtain ⟨k, hk, rfl, ⟨xs, hown⟩, hL, hS, hZ⟩ := hrel
    by_cases hlt : k < F.length
    · obtain ⟨g, rfl⟩ : ∃ g, A1 = some ⟨g, 0, none⟩ := by
        rcases hown.2 with ⟨e, h0⟩ | ⟨g, cap, cur, e, _⟩
        · omega
        · injection e with e1 e2 e3
          exact ⟨g, e1⟩
      obtain ⟨u, hu⟩ : ∃ u, wr.cell? ⟨g, k, none⟩ = some u := by
        have hl := hown.1
        exact ⟨xs[k]'(by omega), (hown.cellAt k (by omega)).trans (List.getElem?_eq_getElem (by omega))⟩
      have hf := hown.frozenAt k
      have hg := HM.out g rfl
      have g1 : (k : Int) < (F.length : Int) := by omega
      have HO := Lib.hid hown
      clear hown
      go_wp2_with fail
      go_roundw
      case rel => exact ⟨k + 1, by omega, by go_num, ⟨_, (HO.out.stored k _).1⟩, hL.grown (rn_setCell _ _ _ _) (fun g' e => by cases e; exact .inl hg.2), hS.grown (rn_setCell _ _ _ _) (fun g' e => by cases e; omega), by simp; exact hZ⟩
      case measure => simp [intOf]; omega
    · obtain rfl : k = F.length := by omega
      have hap1 : F.length + 1 ≤ maxLen := by unfold maxLen; omega
      have hap2 : (F.length + 1) * 16 ≤ 140737488355328 := by omega
      have hap3 : l1 ≤ (wr.alloc (.cells #[Rn.mark] 9)).heap.size := by rw [World.size_alloc]; omega
      have hZ2 : top ≤ (wr.alloc (.cells #[Rn.mark] 9)).heap.size := by rw [World.size_alloc]; omega
      unfold Rn.mark at hap3 hZ2
      go_wp2_with (at_builtin; refine wpList_append_lies (hs := ?e1) (hx := ?e2) (hown := World.ownsRow.alloc hown _) (hnews := cell_one_new wr (.string ⟨#[109, 97, 114, 107]⟩) 9) _ rfl (.tmp 70) (.tmp 71) 64 ?e0 l1 9 i0 (.string ⟨#[]⟩) 1 16 Tryd.underlying64 hi hz0 hz1 hz2 ?e3 (by decide) (.slice A1 F.length cp1) F.length xs ⟨wr.heap.size, 0, none⟩ 1 1 [.string ⟨#[109, 97, 114, 107]⟩] ?e4 (by simp [Value.oneCell']) (by decide) hap1 hap2 hap3 _ rfl ?_)
      case e0 => rfl
      case e3 => rfl
      case e4 => rfl
      case e1 => simp [Act.eval]
      case e2 => simp [Act.eval]
      intro g2 cap2 x1 hown1 hgrow1 hat1 _
      have hg2 : l1 ≤ g2 ∧ (g2 < lo ∨ top ≤ g2) := by
        refine ⟨(World.ownsRow.lt hown1 g2 rfl).1, ?_⟩
        rcases hat1 with h | h
        · exact .inl (HM.out g2 h).2
        · rw [h]; exact .inr (by omega)
      have hLx : Tls x1 lo top [(v7, G), ((.slice A6 F.length cp6 : Value), F), (v5, F), (v4, G), (v3, G), (v2, F)] := (hL.below ((Below.refl _ _).alloc (Nat.le_refl _) _)).grown hgrow1 (fun g' e => .inl (HM.out g' e).2)
      have hSx : RnSt w a b c x1 := (hS.later ((Below.refl _ _).alloc (Nat.le_refl _) _)).grown hgrow1 (fun g' e => by have := (HM.out g' e).1; omega)
      have hZx : top ≤ x1.heap.size := Nat.le_trans hZ2 hgrow1.size
      clear hown hgrow1 hat1 hL hS hZ hZ2 hap1 hap2 hap3
      go_wp2_with fail
      go_loopw [15, 16] (fun v i wr => ∃ (j g cap nl : Nat), i = .int .i64 j ∧ j ≤ 64 ∧ nl = F.length + 1 + j ∧ v = .slice (some ⟨g, 0, none⟩) nl cap ∧ (∃ ys, wr.ownsRow l1 9 1 (.slice (some ⟨g, 0, none⟩) nl cap) nl ys) ∧ (l1 ≤ g ∧ (g < lo ∨ top ≤ g)) ∧ Tls wr lo top [(v7, G), ((.slice A6 F.length cp6 : Value), F), (v5, F), (v4, G), (v3, G), (v2, F)] ∧ RnSt w a b c wr ∧ top ≤ wr.heap.size) (fun _ i _ => 64 - (intOf i).toNat)
      case atStart => exact ⟨0, g2, cap2, F.length + 1, rfl, Nat.zero_le _, rfl, rfl, ⟨_, hown1⟩, hg2, hLx, hSx, hZx⟩
      case round =>
        clear hown1 hg2 hLx hSx hZx
        obtain ⟨j, g, cap, nl, rfl, hj, hnl, rfl, ⟨ys, hown⟩, hg, hL, hS, hZ⟩ := hrel
        by_cases hjl : j < 64
        · have hap1 : nl + 1 ≤ maxLen := by unfold maxLen; omega
          have hap2 : (nl + 1) * 16 ≤ 140737488355328 := by omega
          have hap3 : l1 ≤ (wr.alloc (.cells #[Rn.mark] 9)).heap.size := by rw [World.size_alloc]; omega
          have hZ2 : top ≤ (wr.alloc (.cells #[Rn.mark] 9)).heap.size := by rw [World.size_alloc]; omega
          unfold Rn.mark at hap3 hZ2
          have HNL := Lib.hid hnl
          have HGG := Lib.hid hg
          clear hnl hg
          go_wp2_with (at_builtin; refine wpList_append_lies (hs := ?e1) (hx := ?e2) (hown := World.ownsRow.alloc hown _) (hnews := cell_one_new wr (.string ⟨#[109, 97, 114, 107]⟩) 9) _ rfl (.tmp 77) (.tmp 78) 64 ?e0 l1 9 i0 (.string ⟨#[]⟩) 1 16 Tryd.underlying64 hi hz0 hz1 hz2 ?e3 (by decide) (.slice (some ⟨g, 0, none⟩) nl cap) nl ys ⟨wr.heap.size, 0, none⟩ 1 1 [.string ⟨#[109, 97, 114, 107]⟩] ?e4 (by simp [Value.oneCell']) (by decide) hap1 hap2 hap3 _ rfl ?_)
          case e0 => rfl
          case e3 => rfl
          case e4 => rfl
          case e1 => simp [Act.eval]
          case e2 => simp [Act.eval]
          intro g3 cap3 x2 hown2 hgrow2 hat2 _
          have hmine : ∀ g', (Value.slice (some ⟨g, 0, none⟩) nl cap).ownBlock = some g' → l1 ≤ g' ∧ (g' < lo ∨ top ≤ g') := fun g' e => by
            injection e with e; subst e; exact HGG.out
          have hg3 : l1 ≤ g3 ∧ (g3 < lo ∨ top ≤ g3) := by
            rcases hat2 with h | h
            · exact hmine _ h
            · exact ⟨(World.ownsRow.lt hown2 g3 rfl).1, .inr (by rw [h]; omega)⟩
          have hLx : Tls x2 lo top [(v7, G), ((.slice A6 F.length cp6 : Value), F), (v5, F), (v4, G), (v3, G), (v2, F)] := (hL.below ((Below.refl _ _).alloc (Nat.le_refl _) _)).grown hgrow2 (fun g' e => (hmine g' e).2)
          have hSx : RnSt w a b c x2 := (hS.later ((Below.refl _ _).alloc (Nat.le_refl _) _)).grown hgrow2 (fun g' e => by have := (hmine g' e).1; omega)
          have hZx : top ≤ x2.heap.size := Nat.le_trans hZ2 hgrow2.size
          clear hown hgrow2 hat2 hL hS hZ hZ2 hap1 hap2 hap3 hmine
          go_wp2_with fail
          go_roundw
          case rel => exact ⟨j + 1, g3, cap3, nl + 1, by go_num, by omega, by have := HNL.out; omega, rfl, ⟨_, hown2⟩, hg3, hLx, hSx, hZx⟩
          case measure => simp only [intOf]; omega
        · have hnlb : (((nl : Nat) : Int) == (F.length : Int) + 65) = true := by rw [beq_iff_eq]; omega
          clear hnl hown hg
          go_wp2_with fail
          refine (texts_same F _ _ _ _ _ (hL (v2, F) (by simp)).1 (hL ((.slice A6 F.length cp6), F) (by simp)).1 (by omega)).mono ?_
          rintro e y0 ⟨rfl, hB⟩
          have hL0 := hL.below hB
          have hS0 := hS.later hB
          clear hL hS hB
          go_wp2_with fail
          refine (texts_same G _ _ _ _ _ (hL0 (v3, G) (by simp)).1 (hL0 (v7, G) (by simp)).1 (by omega)).mono ?_
          rintro e y1 ⟨rfl, hB⟩
          have hL1 := hL0.below hB
          have hS1 := hS0.later hB
          clear hL0 hS0 hB
          go_wp2_with fail
          refine (texts_same G _ _ _ _ _ (hL1 (v4, G) (by simp)).1 (hL1 (v7, G) (by simp)).1 (by omega)).mono ?_
          rintro e y2 ⟨rfl, hB⟩
          have hL2 := hL1.below hB
          have hS2 := hS1.later hB
          clear hL1 hS1 hB
          go_wp2_with fail
          refine (texts_same F _ _ _ _ _ (hL2 (v5, F) (by simp)).1 (hL2 ((.slice A6 F.length cp6), F) (by simp)).1 (by omega)).mono ?_
          rintro e y3 ⟨rfl, hB⟩
          have hL3 := hL2.below hB
          have hS3 := hS2.later hB
          clear hL2 hS2 hB
          obtain ⟨c0, c1, c2, c3, c4, c5⟩ := hS3.six
          go_wp2_with fail
          refine (HNF.out _ (HT.out.below hS3.below)).mono ?_
          rintro e y4 ⟨⟨v9, rfl, r9⟩, hB⟩
          have hL4 := hL3.below hB
          have hS4 := hS3.later hB
          clear hL3 hS3 hB c0 c1 c2 c3 c4 c5
          go_wp2_with fail
          refine (texts_same F _ _ _ _ _ r9 (hL4 ((.slice A6 F.length cp6), F) (by simp)).1 (by omega)).mono ?_
          rintro e y5 ⟨rfl, hB⟩
          have hS5 := hS4.later hB
          clear hL4 hS4 hB r9
          go_wp2_with fail
          go_ret
          exact ⟨rfl, hS5.below⟩

theorem files_card {P1 P2 P3 : Prop} (n a b c : Int) (_ : P1) (hw : (Lit.int .i64 a).wf = true) (_ : P2) (_ : P3) (w : World) (hT : Rn.Pow w) :
    Calls Tryd.prog 10 #[.int .i64 n, .agg #[.int .i64 a, .int .i64 b, .int .i64 c]] w fun e w' => e = .returned (.bool true) ∧ Below w.heap.size w w' :=
  files_law n a b c (by simp [Lit.wf, IntKind.min, IntKind.max, IntKind.bits, IntKind.signed] at hw; omega) w hT
end Go.Proofs.YtffdplmnjlcmnaaDoor
