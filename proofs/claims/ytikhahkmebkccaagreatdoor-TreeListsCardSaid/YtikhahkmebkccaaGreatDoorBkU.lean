/- Contract of Nearest. Conditions: each theorem's own hypotheses. -/
import Derived.Test.YtikhahkmebkccaaGreatDoorBkO
import Derived.Deep.OwnRows
namespace Go.Proofs.YtikhahkmebkccaaGreatDoor
open Go.RowKit Go.Maps Go.Sort Go.Shelf
set_option linter.unusedVariables false
set_option linter.unusedSimpArgs false

/-- What Nearest answers. -/
def Bk.nearest (T : Bk.T) (q : List UInt8) (k : Int) : Bk.T × List Bk.H × Int :=
  if q.length = T.w / 8 then
    if k < 0 ∨ 4096 < k then (T, [], 100)
    else if k = 0 then (T, [], 0)
    else ({ T with seen := (Bk.Res T q fun F => Bk.down k.toNat F T.w).2 }, Bk.sortH ((Bk.Res T q fun F => Bk.down k.toNat F T.w).1.filter fun h => decide (h.d ≤ Bk.down k.toNat (Bk.Res T q fun F => Bk.down k.toNat F T.w).1 T.w)), 0)
  else (T, [], 11)
theorem Bk.infoInt : (Tryz.prog.info? 3).map (fun i => (i.zero, i.size, i.bytes)) = some (some (.int .i64 0), 1, 8) := by kernel_rfl
theorem Bk.made_ats (wd : Nat) : madeCells #[.int .i64 0] (wd + 1) = Bk.ats [] wd := by
  apply Array.toList_inj.1
  rw [toList_madeCells_one]
  unfold Bk.ats
  apply List.ext_getElem
  · simp
  · intro i h1 h2
    simp [Bk.cnt]
theorem Bk.ne_cli {B wd k : Nat} (hk : 1 ≤ k) (hk2 : k ≤ 4096) (hwd : wd ≤ 1024) : Bk.Cli 38 #[.pointer (some ⟨B + 4, 0, none⟩)] 39 #[.pointer (some ⟨B + 1, 0, none⟩), .pointer (some ⟨B + 3, 0, none⟩), .pointer (some ⟨B + 4, 0, none⟩), .pointer (some ⟨B + 5, 0, none⟩), .pointer (some ⟨B, 0, none⟩)] wd 4398046511104 (fun F => Bk.down k F wd) (Bk.NeI B wd k) where
  eb := enters_of Tryz.func38 (by kernel_rfl) rfl
  ef := enters_of Tryz.func39 (by kernel_rfl) rfl
  lt := fun h hk => h.lt hk
  keep := fun h hk => h.keep hk
  rle := fun F => Nat.le_trans (Bk.down_le k F wd) hwd
  bound := fun h => Bk.ne_bound h
  found := fun h hF x hx _ => Bk.ne_found h hk hk2 hwd hF x hx
set_option maxRecDepth 100000 in
set_option maxHeartbeats 4000000 in
theorem Bk.nearest_any {W : World} {t : Nat} {T : Bk.T} {F : Nat → Prop} (h : Bk.At W t T F) (hG : Bk.Good T.w T.l) (hw : Bt.wide T.w = true) (q : ByteArray) (hq : q.size ≤ 9223372036854775807) (k : Int) (hl : T.l.length ≤ 4398046511104) (hD : ∀ i, (Bk.deeps (Bk.os T.l)).getD i 0 ≤ 2199023255552)
    (hT : TabO W) (hF : ∀ k, F k → k ≠ 1) :
    Calls Tryz.prog 18 #[.pointer (some ⟨t, 0, none⟩), .string q, .int .i64 k] W fun e W' => ∃ v, e = .returned (.tuple #[v, .int .i64 (Bk.nearest T q.data.toList k).2.2]) ∧
      W'.ownsRow W.heap.size 61 3 v (Bk.nearest T q.data.toList k).2.1.length (Bk.hcs (Bk.nearest T q.data.toList k).2.1) ∧ Bk.At W' t (Bk.nearest T q.data.toList k).1 F ∧ Bk.Only F W W' := by
  obtain ⟨bm, L, hS, rfl⟩ := h
  obtain ⟨c0, c1, c2, c3, c4, c5⟩ := hS.six
  have ht := hS.tree.lt
  have hck := fun W' => check_any T.w q W' hw hq
  obtain ⟨w1, w2, w3⟩ := Bt.wide_in hw
  have hqs : q.data.toList.length = q.size := Array.length_toList
  have hB0 : Below W.heap.size W (W.alloc (.cells #[.int .i64 k] 3)) := (Below.refl _ _).alloc (Nat.le_refl _) _
  have hSa := hS.later hB0 (Nat.le_refl _)
  have nil_row : ∀ w' : World, w'.ownsRow W.heap.size 61 3 (.slice none 0 0) 0 [] := fun w' => ⟨by simp, .inl ⟨rfl, rfl⟩⟩
  by_cases hfit : q.size = T.w / 8
  · simp only [if_pos hfit] at hck
    by_cases hr : k < 0 ∨ 4096 < k
    · have hR : Bk.nearest T q.data.toList k = (T, [], 100) := by unfold Bk.nearest; rw [if_pos (by omega), if_pos hr]
      rw [hR]
      clear hR hfit hqs
      by_cases h0 : k < 0
      · have u1 : decide (k < 0) = true := decide_eq_true h0
        go_enter Tryz.func18, Tryz.ntmps18
        go_wp2_with (go_at_call 31; refine (hck _).mono ?_; clear hck; rintro e w' ⟨rfl, rfl⟩)
        go_ret2
        exact ⟨_, rfl, nil_row _, ⟨bm, L, hSa, rfl⟩, Bk.Only.of hB0⟩
      · have u1 : decide (k < 0) = false := decide_eq_false h0
        have u2 : decide (4096 < k) = true := decide_eq_true (by omega)
        go_enter Tryz.func18, Tryz.ntmps18
        go_wp2_with (go_at_call 31; refine (hck _).mono ?_; clear hck; rintro e w' ⟨rfl, rfl⟩)
        go_ret2
        exact ⟨_, rfl, nil_row _, ⟨bm, L, hSa, rfl⟩, Bk.Only.of hB0⟩
    · by_cases hk0 : k = 0
      · have hR : Bk.nearest T q.data.toList k = (T, [], 0) := by unfold Bk.nearest; rw [if_pos (by omega), if_neg hr, if_pos hk0]
        rw [hR]
        clear hR hfit hqs
        subst hk0
        go_enter Tryz.func18, Tryz.ntmps18
        go_wp2_with (go_at_call 31; refine (hck _).mono ?_; clear hck; rintro e w' ⟨rfl, rfl⟩)
        go_ret2
        exact ⟨_, rfl, nil_row _, ⟨bm, L, hSa, rfl⟩, Bk.Only.of hB0⟩
      · obtain ⟨n, rfl⟩ : ∃ n : Nat, k = (n : Int) := ⟨k.toNat, by omega⟩
        have hR : Bk.nearest T q.data.toList (n : Int) = ({ T with seen := (Bk.Res T q.data.toList fun F => Bk.down n F T.w).2 }, Bk.sortH ((Bk.Res T q.data.toList fun F => Bk.down n F T.w).1.filter fun h => decide (h.d ≤ Bk.down n (Bk.Res T q.data.toList fun F => Bk.down n F T.w).1 T.w)), 0) := by unfold Bk.nearest; rw [if_pos (by omega), if_neg hr, if_neg hk0]; simp
        rw [hR]
        obtain ⟨z1, z2, z3⟩ := hG.res_le q.data.toList fun F => Bk.down n F T.w
        have hn : n ≤ 4096 := by omega
        have hn1 : 1 ≤ n := by omega
        have u1 : decide ((n : Int) < 0) = false := decide_eq_false (by omega)
        have u2 : decide ((4096 : Int) < (n : Int)) = false := decide_eq_false (by omega)
        have u3 : ((n : Int) == 0) = false := by simpa using hk0
        have HT := Lib.hid (And.intro hT (And.intro hF hD))
        obtain ⟨n1, hn1w⟩ : ∃ n1, T.w + 1 = n1 := ⟨_, rfl⟩
        have hw1 : (T.w : Int) + 1 = (n1 : Int) := by omega
        have hmk := fun W => run_make_row' (P := Tryz.prog) 70 3 (.int .i64 0) 8 Tryz.underlying70 Bk.infoInt rfl .i64 .i64 n1 (by omega) (by omega) W
        have HN := Lib.hid (And.intro hn1w (And.intro hk0 hr))
        clear hR hr hqs hD hT hF hn1w hk0
        go_enter Tryz.func18, Tryz.ntmps18
        go_upto_region 10 with (go_at_call 31; refine (hck _).mono ?_; clear hck; rintro e w' ⟨rfl, rfl⟩)
        have m0 := (((Blk.new W 3 #[.int .i64 n]).alloc (.cells #[.slice none 0 0] 28)).alloc (.cells (madeCells #[.int .i64 0] n1) 3)).alloc (.cells #[.slice (some ⟨W.heap.size + 1 + 1, 0, none⟩) n1 n1] 70)
        have m1 := ((Blk.new (W.alloc (.cells #[.int .i64 n] 3)) 28 #[.slice none 0 0]).alloc (.cells (madeCells #[.int .i64 0] n1) 3)).alloc (.cells #[.slice (some ⟨W.heap.size + 1 + 1, 0, none⟩) n1 n1] 70)
        have m2 := (Blk.new ((W.alloc (.cells #[.int .i64 n] 3)).alloc (.cells #[.slice none 0 0] 28)) 3 (madeCells #[.int .i64 0] n1)).alloc (.cells #[.slice (some ⟨W.heap.size + 1 + 1, 0, none⟩) n1 n1] 70)
        have m3 := Blk.new (((W.alloc (.cells #[.int .i64 n] 3)).alloc (.cells #[.slice none 0 0] 28)).alloc (.cells (madeCells #[.int .i64 0] n1) 3)) 70 #[.slice (some ⟨W.heap.size + 1 + 1, 0, none⟩) n1 n1]
        have hB4 := ((hB0.alloc hB0.size (.cells #[.slice none 0 0] 28)).alloc (by simp; try omega) (.cells (madeCells #[.int .i64 0] n1) 3)).alloc (by simp; try omega) (.cells #[.slice (some ⟨W.heap.size + 1 + 1, 0, none⟩) n1 n1] 70)
        simp only [World.size_alloc] at m1 m2 m3
        have hz4 : ((((W.alloc (.cells #[.int .i64 n] 3)).alloc (.cells #[.slice none 0 0] 28)).alloc (.cells (madeCells #[.int .i64 0] n1) 3)).alloc (.cells #[.slice (some ⟨W.heap.size + 1 + 1, 0, none⟩) n1 n1] 70)).heap.size = W.heap.size + 1 + 1 + 1 + 1 := by simp
        generalize (((W.alloc (.cells #[.int .i64 n] 3)).alloc (.cells #[.slice none 0 0] 28)).alloc (.cells (madeCells #[.int .i64 0] n1) 3)).alloc (.cells #[.slice (some ⟨W.heap.size + 1 + 1, 0, none⟩) n1 n1] 70) = w4 at m0 m1 m2 m3 hB4 hz4 ⊢
        have hS4 := hS.later hB4 (Nat.le_refl _)
        clear c0 c1 c2 c3 c4 c5 hB0 hSa
        obtain ⟨c0, c1, c2, c3, c4, c5⟩ := hS4.six
        go_upto_region 11 with fail
        have p0 := (m0.alloc (.cells #[.int .i64 T.w] 3)).alloc (.cells #[.int .i64 0] 3)
        have p1 := (m1.alloc (.cells #[.int .i64 T.w] 3)).alloc (.cells #[.int .i64 0] 3)
        have p2 := (m2.alloc (.cells #[.int .i64 T.w] 3)).alloc (.cells #[.int .i64 0] 3)
        have p3 := (m3.alloc (.cells #[.int .i64 T.w] 3)).alloc (.cells #[.int .i64 0] 3)
        have p4 := (Blk.new w4 3 #[.int .i64 T.w]).alloc (.cells #[.int .i64 0] 3)
        have p5 := Blk.new (w4.alloc (.cells #[.int .i64 T.w] 3)) 3 #[.int .i64 0]
        have hB6 := (hB4.alloc hB4.size (.cells #[.int .i64 T.w] 3)).alloc (by simp [hz4]; omega) (.cells #[.int .i64 0] 3)
        rw [hz4] at p4
        rw [World.size_alloc, hz4] at p5
        simp only [Nat.add_assoc, Nat.reduceAdd] at p0 p1 p2 p3 p4 p5 ⊢
        generalize (w4.alloc (.cells #[.int .i64 T.w] 3)).alloc (.cells #[.int .i64 0] 3) = w6 at p0 p1 p2 p3 p4 p5 hB6 ⊢
        clear m0 m1 m2 m3 hB4 hz4 hS4 c0 c1 c2 c3 c4 c5 w4 hmk
        have hS6 := hS.later hB6 (Nat.le_refl _)
        rw [← HN.out.1, Bk.made_ats] at p2
        rw [← HN.out.1] at p3
        have hM : Bk.NeM W.heap.size T.w n [] [] T.w 0 (.slice none 0 0) w6 := ⟨p0, ⟨p1, ⟨by simp [Bk.hcs], .inl ⟨rfl, rfl⟩⟩⟩, p2, p3, p4, p5⟩
        have hI : Bk.NeI W.heap.size T.w n [] (Bk.neG W.heap.size (.slice none 0 0)) w6 := ⟨.slice none 0 0, by rw [Bk.down_nil hn1]; exact hM, rfl⟩
        have hG0 : ∀ k, Bk.neG W.heap.size (.slice none 0 0) k → W.heap.size ≤ k := fun k hk => by
          rcases hk with hk | hk
          · exact hk.1
          · simp [Value.ownBlock] at hk
        have hwk := Bk.walk_any (Bk.ne_cli (B := W.heap.size) (k := n) (wd := T.w) hn1 hn (by omega)) hS6 hI (fun k hk hg => by have := hS.lt hk; have := hG0 k hg; omega) (HT.out.1.below hB6 (Nat.le_refl _)) (fun hg => by have := hG0 _ hg; have := HT.out.1.pos; omega) HT.out.2.1 hG (by omega) (by omega) (Nat.le_refl _) hl q hfit (Nat.le_refl _) (by omega) HT.out.2.2
        clear p0 p1 p2 p3 p4 p5 hM hI hS6 u1 u2 u3 hw1
        generalize hRes : (Bk.Res T q.data.toList fun F => Bk.down n F T.w) = R at hwk z1 z2 z3 ⊢
        go_upto_region 12 with (go_at_call 34; refine hwk.mono ?_; clear hwk; rintro e w7 ⟨rfl, G', hS7, ⟨v, hM7, hGe⟩, hO7, hG7⟩)
        obtain ⟨A, cap, rfl⟩ := Bk.row_form hM7.bx.row
        have hlt1 := hM7.bx.blk.lt
        have k1 := hM7.six.2.1
        have hoff := hM7.off
        have hdl := Bk.delete_any hM7.bx.row hM7.six.2.2.2.1 (hM7.lt (.inl (by omega))) (hoff _ (by omega) (by omega)) (by omega)
        have hbl := Bk.down_le n R.1 T.w
        have hfl : (R.1.filter fun h => decide (h.d ≤ Bk.down n R.1 T.w)).length ≤ R.1.length := List.length_filter_le _ _
        generalize hbd : Bk.down n R.1 T.w = bd at hdl hbl hfl hM7
        have hM7b := hM7.bx
        generalize hKs : (R.1.filter fun h => decide (h.d ≤ bd)) = K at hdl hfl
        have hKd : ∀ h ∈ K, h.d ≤ 1024 := fun h hh => by
          rw [← hKs] at hh
          have := (List.mem_filter.1 hh).2
          simp at this
          omega
        have HM := Lib.hid (And.intro hRes (And.intro hbd hKs))
        clear hM7 hRes hbd hKs
        go_upto_region 13 with (go_at_call 40; refine hdl.mono ?_; clear hdl; rintro e w8 ⟨v', rfl, hob, hrow8, hg8⟩; obtain ⟨A', cap', rfl⟩ := Bk.row_form hrow8; have hb8 := hM7b.blk.grown hg8 (hoff _ (by omega) (by omega)); have k8 : w8.cell? ⟨W.heap.size + 1, 0, none⟩ = _ := hb8.cell 0; have f8 := hb8.frozen 0; simp only [List.getElem?_toArray, List.getElem?_cons_zero] at k8)
        have hb9 := hb8.set_ 0 (.slice A' K.length cap')
        have hne9 : ∀ j, (Value.slice A' K.length cap').ownBlock = some j → j ≠ W.heap.size + 1 := fun j hj e => hoff (W.heap.size + 1) (by omega) (by omega) (by rw [← hob, hj, e])
        have hrow9 := Bk.own_of hrow8 (w' := w8.setCell ⟨W.heap.size + 1, 0, none⟩ (.slice A' K.length cap')) fun j hj => Below.heap_setCell w8 ⟨W.heap.size + 1, 0, none⟩ _ j (hne9 j hj)
        have h78 : ∀ k, k < W.heap.size → (w8.setCell ⟨W.heap.size + 1, 0, none⟩ (.slice A' K.length cap')).heap[k]? = w7.heap[k]? := fun k hk =>
          (Below.heap_setCell w8 ⟨W.heap.size + 1, 0, none⟩ _ k (by show k ≠ W.heap.size + 1; omega)).trans (hg8.block k (by omega) fun e => by have := (hM7b.row.lt k e.symm).1; omega)
        have hvge : ∀ k, (Value.slice A R.1.length cap).ownBlock = some k → W.heap.size ≤ k := fun k hk => (hM7b.row.lt k hk).1
        have h7o : Bk.Only (fun k => W.heap.size ≤ k) w7 (w8.setCell ⟨W.heap.size + 1, 0, none⟩ (.slice A' K.length cap')) := ((Bk.Only.refl _ w7).grown hg8 fun k hk => .inl (hvge k hk)).setCell (.inl (by simp)) _
        clear k8 f8 hb8 k1 hrow8 hg8
        generalize w8.setCell ⟨W.heap.size + 1, 0, none⟩ (.slice A' K.length cap') = w9 at hb9 hrow9 h78 h7o ⊢
        clear w8
        have k9 : w9.cell? ⟨W.heap.size + 1, 0, none⟩ = _ := hb9.cell 0
        simp only [List.setIfInBounds_toArray, List.set_cons_zero, List.getElem?_toArray, List.getElem?_cons_zero] at k9
        have hor := Bk.ordered_any hrow9 hKd (by omega)
        go_upto_region 14 with (go_at_call 37; refine hor.mono ?_; clear hor; rintro e w10 ⟨rfl, hrow10, hg10⟩; have hb10 := hb9.grown hg10 (Bk.own_ne hrow9 hb9 (by decide)); have k10 : w10.cell? ⟨W.heap.size + 1, 0, none⟩ = _ := hb10.cell 0; simp only [List.setIfInBounds_toArray, List.set_cons_zero, List.getElem?_toArray, List.getElem?_cons_zero] at k10)
        have hlen : (Bk.sortH K).length = K.length := by simp [Bk.sortH]
        go_wp2_with fail
        go_ret2
        have hge' : ∀ k, (Value.slice A' K.length cap').ownBlock = some k → W.heap.size ≤ k := fun k hk => hvge k (by rw [← hob]; exact hk)
        have h10 : Bk.Only (fun k => W.heap.size ≤ k) w7 w10 := h7o.grown hg10 fun k hk => .inl (hge' k hk)
        have h17 : Bk.Only (Bk.foot t bm L) W w7 := (Bk.Only.of (F := Bk.foot t bm L) hB6).chain (fun k hk => by
          rcases hk with rfl | hk
          · exact .inl (.inl rfl)
          · exact .inr (hG0 k hk)) hO7
        rw [HM.out.1, HM.out.2.1, HM.out.2.2, hlen]
        refine ⟨_, rfl, hrow10, ⟨bm, L, hS7.keep fun k hk => h10.block k (hS7.lt hk) fun e => ?_, rfl⟩, h17.chain (fun k hk => .inr hk) h10⟩
        have := hS.lt hk
        omega
  · simp only [if_neg hfit] at hck
    have hR : Bk.nearest T q.data.toList k = (T, [], 11) := by unfold Bk.nearest; rw [if_neg (by omega)]
    rw [hR]
    clear hR hfit hqs
    go_enter Tryz.func18, Tryz.ntmps18
    go_wp2_with (go_at_call 31; refine (hck _).mono ?_; clear hck; rintro e w' ⟨rfl, rfl⟩)
    go_ret2
    exact ⟨_, rfl, nil_row _, ⟨bm, L, hSa, rfl⟩, Bk.Only.of hB0⟩
end Go.Proofs.YtikhahkmebkccaaGreatDoor
