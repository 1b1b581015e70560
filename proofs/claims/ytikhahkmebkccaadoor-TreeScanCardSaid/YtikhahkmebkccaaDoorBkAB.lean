/- The law TreeWork. Conditions: each theorem's own hypotheses. -/
import Derived.Test.YtikhahkmebkccaaDoorBkAA
import Derived.Test.YtikhahkmebkccaaDoorBkY
import Derived.Test.YtikhahkmebkccaaDoorBkOpen
import Derived.Deep.DeepCutAuto
import Derived.Deep.CutBlock
namespace Go.Proofs.YtikhahkmebkccaaDoor
open Go.RowKit Go.Maps Go.Sort Go.Shelf
set_option linter.unusedVariables false
set_option linter.unusedSimpArgs false

/-- Between two calls of TreeWork. -/
def Bk.WR (W : World) (t : Nat) (N : Nat) (m : Nat) (i : Value) (wr : World) : Prop :=
  ∃ (k : Nat) (T : Bk.T) (F : Nat → Prop), m + k = N ∧ i = .int .i64 (k : Nat) ∧ Bk.Bg W t T F wr ∧ Bk.Slim T ∧ T.l.length ≤ k
set_option maxRecDepth 100000 in
set_option maxHeartbeats 8000000 in
theorem Bk.work_law (w0 : Int) (L : List Bk.O) (A : Option Addr) (c : Nat) (W : World) (hI : Bk.Ops W W.heap.size A L) (hn : L.length ≤ 4398046511104) (hs : ∀ x ∈ L, x.c.size ≤ 140737488355328) (hT : TabO W) :
    Calls Tryd.prog 5 #[.int .i64 w0, .slice A L.length c] W fun e W' => e = .returned (.bool true) ∧ Below W.heap.size W W' := by
  have hbeg := Bk.begun_any hT
  cases hw : Bt.wide w0 with
  | false =>
    have hnew := fun W' => Bk.new_none w0 hw W'
    go_enter Tryd.func5, Tryd.ntmps5
    go_wp2_with (first | (go_at_call 6; refine hbeg.mono ?_; clear hbeg; rintro e w1 ⟨rfl, hb1⟩) | (go_at_call 7; refine (hnew _).mono ?_; clear hnew; rintro e w2 ⟨rfl, rfl⟩))
    go_ret
    exact ⟨rfl, hb1⟩
  | true =>
    obtain ⟨w, rfl⟩ : ∃ w : Nat, w0 = (w : Int) := ⟨w0.toNat, by have := Bt.wide_in hw; omega⟩
    have hnew := fun W' hT' => Bk.new_tree w hw W' hT'
    go_enter Tryd.func5, Tryd.ntmps5
    go_upto_region 6 with (first | (go_at_call 6; refine hbeg.mono ?_; clear hbeg; rintro e w1 ⟨rfl, hb1⟩) | (go_at_call 7; refine (hnew _ (hT.below hb1 (Nat.le_refl _))).mono ?_; clear hnew; rintro e w2 ⟨t, F0, rfl, h1, h2, h3, h4⟩))
    have hst : Bk.WR W t L.length L.length (.int .i64 ((0 : Nat) : Int)) w2 := ⟨0, ⟨w, [], 0⟩, F0, by omega, rfl, ⟨h1, h4, hb1.trans (h2.mono hb1.size), fun k hk => Nat.le_trans hb1.size (h3 k hk)⟩, by unfold Bk.Slim; simp, Nat.le_refl _⟩
    have HS := Lib.hid hst
    clear hst h1 h2 h3 h4 hb1 hT
    go_loopg [7] L.length (fun m i wr => Bk.WR W t L.length m i wr)
    case atStart => exact HS.out
    case round =>
      clear HS w2 F0
      obtain ⟨k, T, F, hmk, rfl, hbg, hsl, hlk⟩ := hrel
      by_cases hkn : k = L.length
      · have u1 : decide (k < L.length) = false := decide_eq_false (by omega)
        go_wp2_with (go_at_call 6; refine (Bk.begun_any hbg.tab).mono ?_; rintro e w9 ⟨rfl, hb9⟩)
        go_ret
        exact ⟨rfl, hbg.bel.trans (hb9.mono hbg.bel.size)⟩
      · have u1 : decide (k < L.length) = true := decide_eq_true (by omega)
        obtain ⟨x, hx⟩ : ∃ x, L[k]? = some x := ⟨_, List.getElem?_eq_getElem (by omega)⟩
        obtain ⟨b, off, rfl, hb, hcells⟩ := hI (by omega)
        obtain ⟨q0, q1, q2⟩ := hcells k x hx
        have q0 := (hbg.bel.cell (p := ⟨b, off + k * 3, none⟩) hb).trans q0
        have q1 := (hbg.bel.cell (p := ⟨b, off + k * 3 + 1, none⟩) hb).trans q1
        have q2 := (hbg.bel.cell (p := ⟨b, off + k * 3 + 2, none⟩) hb).trans q2
        have hxs := hs x (List.mem_of_getElem? hx)
        have hkl : k < L.length := by omega
        have hnum := hbg.tree.good.num hsl x.k x.c.data.toList x.n
        have HX := Lib.hid (And.intro hx (And.intro hmk (And.intro hI hs)))
        clear hx hmk hcells hs hkn
        obtain ⟨kd, cc, nn⟩ := x
        simp only at q0 q1 q2 hxs hnum
        go_upto_region 9 with fail
        have B8 := Blk.new wr 41 #[.int .i64 kd, .string cc, .int .i64 nn]
        have hbg2 := hbg.later ((Below.refl _ wr).alloc (Nat.le_refl _) (.cells #[.int .i64 kd, .string cc, .int .i64 nn] 41))
        have hFo : ¬ F wr.heap.size := fun hf => by have := hbg.tree.at'.lt hf; omega
        clear q0 q1 q2 hbg
        generalize wr.alloc (.cells #[.int .i64 kd, .string cc, .int .i64 nn] 41) = w3 at B8 hbg2 ⊢
        generalize wr.heap.size = ob at B8 hFo ⊢
        clear wr
        have p0 := B8.cell 0
        have p1 := B8.cell 1
        have p2 := B8.cell 2
        simp only [List.getElem?_toArray, List.getElem?_cons_zero, List.getElem?_cons_succ] at p0 p1 p2
        have hz3 := B8.lt
        have hl1 := Bk.looked_any hbg2.tree.at'
        obtain ⟨y, hy⟩ : ∃ y, Bk.w64 T.seen = y := ⟨_, rfl⟩
        rw [hy] at hl1
        go_upto_region 10 with (go_at_call 22; refine hl1.mono ?_; clear hl1; rintro e w4 ⟨rfl, rfl⟩)
        have hdo := Bk.do_any hbg2.tree hbg2.tab (by omega) cc (by omega) kd nn
        generalize Bk.run T kd cc.data.toList nn = R at hnum hdo
        obtain ⟨T', yes, er, l, len, nodes, depth, looked⟩ := R
        have HY := Lib.hid hy
        have HB := Lib.hid (And.intro hbg2 (And.intro hsl hnum))
        clear hy hsl hnum
        unfold Bk.Did at hdo
        dsimp only at hdo
        go_upto_region 11 with (go_at_call 17; refine hdo.mono ?_; clear hdo; rintro e w5 ⟨v, F', rfl, hrow, htr, ho, hF', hvF, htab⟩; obtain ⟨A2, cap, rfl⟩ := Bk.row_form hrow)
        have hnum := HB.out.2.2
        have hbg5 : Bk.Bg W t T' F' w5 := ⟨htr, htab, hbg2.bel.trans (ho.below hbg2.bel.size hbg2.ge), fun k hk => (hF' k hk).elim (hbg2.ge k) fun h1 => by have := hbg2.bel.size; omega⟩
        have B8' : Blk w5 ob 41 _ := (ho.block ob hz3 hFo).trans B8
        have B9 := B8'.alloc (.cells #[.bool yes, .int .i64 er, .slice A2 l.length cap, .int .i64 len, .int .i64 nodes, .int .i64 depth, .int .i64 looked] 44)
        have B10 := Blk.new w5 44 #[.bool yes, .int .i64 er, .slice A2 l.length cap, .int .i64 len, .int .i64 nodes, .int .i64 depth, .int .i64 looked]
        have hbg6 := hbg5.later ((Below.refl _ w5).alloc (Nat.le_refl _) (.cells #[.bool yes, .int .i64 er, .slice A2 l.length cap, .int .i64 len, .int .i64 nodes, .int .i64 depth, .int .i64 looked] 44))
        clear p0 p1 p2 B8 B8' hbg5 htr ho hF' hvF htab hrow hFo hz3 hbg2 HB
        generalize w5.alloc (.cells #[.bool yes, .int .i64 er, .slice A2 l.length cap, .int .i64 len, .int .i64 nodes, .int .i64 depth, .int .i64 looked] 44) = w6 at B9 B10 hbg6 ⊢
        generalize w5.heap.size = gb at B10 ⊢
        clear w5 w3
        have p0 := B9.cell 0
        have g1 := B10.cell 1
        have g2 := B10.cell 2
        simp only [List.getElem?_toArray, List.getElem?_cons_zero, List.getElem?_cons_succ] at p0 g1 g2
        have hl2 := Bk.looked_any hbg6.tree.at'
        have n3 : Bk.Slim T' := hnum.slim
        have n4 : T'.l.length ≤ T.l.length + 1 := hnum.len
        have n5 : T.seen ≤ T'.seen := hnum.ge
        have n6 : T'.seen ≤ T.seen + T'.l.length := hnum.le
        have n7 : ¬ ((kd = 4 ∨ kd = 5) ∧ er = 0) → T'.seen = T.seen := hnum.still
        have n8 : l.length + T.seen ≤ T'.seen := hnum.hits
        obtain ⟨dl, hdl⟩ : ∃ dl, T'.seen = T.seen + dl := ⟨T'.seen - T.seen, by omega⟩
        have hws := Bk.w64_sub n5 (by omega)
        rw [HY.out, show T'.seen - T.seen = dl by omega] at hws
        generalize Bk.w64 T'.seen = y' at hws hl2
        have d1 : dl ≤ T'.l.length := by omega
        have d2 : l.length ≤ dl := by omega
        have d3 : T'.l.length ≤ k + 1 := by omega
        have d4 := Bk.live_le T'.l
        have d5 := Bk.depth_le (Bk.os T'.l)
        have d6 := Bk.depth_zero T'.l
        have d7 : T'.l.length ≤ 2 * Bk.live T'.l + 16 := n3
        have d8 : (Bk.os T'.l).length = T'.l.length := by simp [Bk.os]
        have d9 : ¬ ((kd = 4 ∨ kd = 5) ∧ er = 0) → dl = 0 := fun h => by have := n7 h; omega
        have HD := Lib.hid (And.intro d9 (And.intro n3 d3))
        have HG := Lib.hid hbg6
        clear hnum n3 n4 n5 n6 n7 n8 hdl d9 B9 B10 hbg6
        go_upto_region 12 with (go_at_call 22; refine hl2.mono ?_; clear hl2; rintro e w7 ⟨rfl, rfl⟩)
        go_cut [12] from 43 to 55 (fun v X => ∃ q : Bool, v = .bool q ∧ (q = false → dl = 0) ∧ X = w6)
        case first =>
          by_cases k4 : kd = 4
          · have u2 : (kd == 4) = true := by simpa using k4
            by_cases e0 : er = 0
            · have u3 : (er == 0) = true := by simpa using e0
              go_wp2_with fail
              go_meet
              exact ⟨_, rfl, fun h => by simp at h, rfl⟩
            · have u3 : (er == 0) = false := by simpa using e0
              go_wp2_with fail
              go_meet
              exact ⟨_, rfl, fun h => HD.out.1 fun h2 => e0 h2.2, rfl⟩
          · have u2 : (kd == 4) = false := by simpa using k4
            by_cases k5 : kd = 5
            · have u3 : (kd == 5) = true := by simpa using k5
              by_cases e0 : er = 0
              · have u4 : (er == 0) = true := by simpa using e0
                go_wp2_with fail
                go_meet
                exact ⟨_, rfl, fun h => by simp at h, rfl⟩
              · have u4 : (er == 0) = false := by simpa using e0
                go_wp2_with fail
                go_meet
                exact ⟨_, rfl, fun h => HD.out.1 fun h2 => e0 h2.2, rfl⟩
            · have u3 : (kd == 5) = false := by simpa using k5
              go_wp2_with fail
              go_meet
              exact ⟨_, rfl, fun h => HD.out.1 fun h2 => h2.1.elim k4 k5, rfl⟩
        case rest =>
          obtain ⟨q, rfl, hq, rfl⟩ := hcut
          have hno := Bk.nodes_any HG.out.tree.at'
          have hle := Bk.len_any HG.out.tree.at'
          have hde := Bk.depth_any HG.out.tree.at'
          rw [d8] at d5
          generalize Bk.depth (Bk.os T'.l) = dp at hde d5 d6
          generalize Bk.live T'.l = lv at hle d4 d7
          generalize T'.l.length = no at hno d1 d3 d4 d5 d6 d7
          clear d8
          have v1 : decide ((dl : Int) < 0) = false := decide_eq_false (by omega)
          have v2 : decide (no < dl) = false := decide_eq_false (by omega)
          have v3 : q = false → ((dl : Int) != 0) = false := fun h => by rw [hq h]; rfl
          have v4 : decide (dl < l.length) = false := decide_eq_false (by omega)
          have v5 : decide (2 * (lv : Int) + 16 < (no : Int)) = false := decide_eq_false (by omega)
          have v6 : decide (no < lv) = false := decide_eq_false (by omega)
          have v7 : decide (no < dp) = false := decide_eq_false (by omega)
          have v8 : ((dp : Int) == 0) = ((no : Int) == 0) := by
            rw [Bool.eq_iff_iff]
            simp only [beq_iff_eq]
            omega
          generalize hnb : ((no : Int) == 0) = nb at v8
          have HQ := Lib.hid hq
          clear hq d6
          cases q with
          | true =>
            clear v3
            go_upto_region 15 with (go_at_call 23; refine hno.mono ?_; rintro e w7 ⟨rfl, rfl⟩)
            go_wp2_with (first | (go_at_call 23; refine hno.mono ?_; rintro e w7 ⟨rfl, rfl⟩) | (go_at_call 15; refine hle.mono ?_; rintro e w7 ⟨rfl, rfl⟩) | (go_at_call 10; refine hde.mono ?_; rintro e w7 ⟨rfl, rfl⟩))
            go_roundg (gk - 1)
            case measure => have := HX.out.2.1; omega
            case rel => exact ⟨k + 1, T', F', by have := HX.out.2.1; omega, congrArg (Value.int .i64) (by omega), HG.out, HD.out.2.1, HD.out.2.2⟩
          | false =>
            have v3 := v3 rfl
            go_upto_region 15 with (go_at_call 23; refine hno.mono ?_; rintro e w7 ⟨rfl, rfl⟩)
            go_wp2_with (first | (go_at_call 23; refine hno.mono ?_; rintro e w7 ⟨rfl, rfl⟩) | (go_at_call 15; refine hle.mono ?_; rintro e w7 ⟨rfl, rfl⟩) | (go_at_call 10; refine hde.mono ?_; rintro e w7 ⟨rfl, rfl⟩))
            go_roundg (gk - 1)
            case measure => have := HX.out.2.1; omega
            case rel => exact ⟨k + 1, T', F', by have := HX.out.2.1; omega, congrArg (Value.int .i64) (by omega), HG.out, HD.out.2.1, HD.out.2.2⟩
end Go.Proofs.YtikhahkmebkccaaDoor
