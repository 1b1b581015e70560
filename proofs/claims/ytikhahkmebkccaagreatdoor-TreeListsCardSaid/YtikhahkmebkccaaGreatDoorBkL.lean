/- Contract of Within. Conditions: each theorem's own hypotheses. -/
import Derived.Test.YtikhahkmebkccaaGreatDoorBkK
import Derived.Test.YtikhahkmebkccaaGreatDoorBkR
namespace Go.Proofs.YtikhahkmebkccaaGreatDoor
open Go.RowKit Go.Maps Go.Sort Go.Shelf
set_option linter.unusedVariables false

theorem Bk.hitInfo : (Tryz.prog.info? 61).map (fun i => (i.zero, i.size, i.bytes)) = some (some (.agg #[.int .i64 0, .int .i64 0, .string ⟨#[]⟩]), 3, 32) := by kernel_rfl
/-- A list of hits in a box of its own. -/
structure Bk.Box (B bl : Nat) (F : List Bk.H) (v : Value) (w : World) : Prop where
  blk : Blk w bl 28 #[v]
  row : w.ownsRow B 61 3 v F.length (Bk.hcs F)
/-- What Within's two closures know. -/
def Bk.WiI (B br bl : Nat) (r : Nat) (F : List Bk.H) (G : Nat → Prop) (w : World) : Prop :=
  ∃ v, Blk w br 3 #[.int .i64 r] ∧ Bk.Box B bl (F.filter fun h => decide (h.d ≤ r)) v w ∧ G = fun k => k = br ∨ k = bl ∨ v.ownBlock = some k
section
variable {B br bl r : Nat}
theorem Bk.WiI.lt {F : List Bk.H} {G : Nat → Prop} {w : World} {k : Nat} (h : Bk.WiI B br bl r F G w) (hk : G k) : k < w.heap.size := by
  obtain ⟨v, hb, hx, rfl⟩ := h
  rcases hk with rfl | rfl | hk
  · exact hb.lt
  · exact hx.blk.lt
  · exact (hx.row.lt k hk).2
theorem Bk.WiI.keep {F : List Bk.H} {G : Nat → Prop} {w w' : World} (h : Bk.WiI B br bl r F G w) (hk : ∀ k, G k → w'.heap[k]? = w.heap[k]?) : Bk.WiI B br bl r F G w' := by
  obtain ⟨v, hb, hx, rfl⟩ := h
  exact ⟨v, (hk br (.inl rfl)).trans hb, ⟨(hk bl (.inr (.inl rfl))).trans hx.blk, Bk.own_of hx.row fun k e => hk k (.inr (.inr e))⟩, rfl⟩
set_option maxRecDepth 100000 in
set_option maxHeartbeats 2000000 in
theorem Bk.wi_found {F : List Bk.H} {G : Nat → Prop} {w : World} (hbr : B ≤ br) (h : Bk.WiI B br bl r F G w) (hF : F.length < 4398046511104) (x : Bk.H) :
    Calls Tryz.prog 36 #[.agg #[.int .i64 (x.d : Nat), .int .i64 0, Tx.v x.c], .pointer (some ⟨br, 0, none⟩), .pointer (some ⟨bl, 0, none⟩)] w fun e w' =>
      e = .returned (.tuple #[]) ∧ ∃ G', Bk.WiI B br bl r (F ++ [x]) G' w' ∧ Bk.Only G w w' ∧ ∀ k, G' k → G k ∨ w.heap.size ≤ k := by
  obtain ⟨i0, hi, hz0, hz1, hz2⟩ := info_parts Bk.hitInfo
  obtain ⟨d, c⟩ := x
  obtain ⟨v, hb, hx, rfl⟩ := h
  have hbl := hb.lt
  have hll := hx.blk.lt
  have k1 := hb.cell 0
  have k2 := hx.blk.cell 0
  simp only [List.getElem?_toArray, List.getElem?_cons_zero] at k1 k2
  obtain ⟨A, cap, rfl⟩ := Bk.row_form hx.row
  have hfl : (F.filter fun h => decide (h.d ≤ r)).length ≤ F.length := List.length_filter_le _ _
  have happ : (F ++ [(⟨d, c⟩ : Bk.H)]).filter (fun h => decide (h.d ≤ r)) = F.filter (fun h => decide (h.d ≤ r)) ++ (if d ≤ r then [⟨d, c⟩] else []) := by
    rw [List.filter_append]
    congr 1
    by_cases hd : d ≤ r <;> simp [hd]
  have HA := Lib.hid happ
  clear happ
  have hbw : Below w.heap.size w (w.alloc (.cells #[.int .i64 d, .int .i64 0, .string ⟨c.toArray⟩] 61)) := (Below.refl _ _).alloc (Nat.le_refl _) _
  by_cases hd : d ≤ r
  · have u1 : decide ((d : Int) ≤ (r : Int)) = true := decide_eq_true (by omega)
    generalize hf : F.filter (fun h => decide (h.d ≤ r)) = F' at hx k2 hfl
    have hown := (hx.row.alloc (.cells #[.int .i64 d, .int .i64 0, .string ⟨c.toArray⟩] 61)).alloc (.cells #[.int .i64 d, .int .i64 0, .string ⟨c.toArray⟩] 61)
    have hbx := (hx.blk.alloc (.cells #[.int .i64 d, .int .i64 0, .string ⟨c.toArray⟩] 61)).alloc (.cells #[.int .i64 d, .int .i64 0, .string ⟨c.toArray⟩] 61)
    have hbb := (hb.alloc (.cells #[.int .i64 d, .int .i64 0, .string ⟨c.toArray⟩] 61)).alloc (.cells #[.int .i64 d, .int .i64 0, .string ⟨c.toArray⟩] 61)
    have n1 := Bk.own_ne hown hbx (by decide)
    have n2 := Bk.own_ne hown hbb (by decide)
    have hm1 : F'.length + 1 ≤ maxLen := by unfold maxLen; omega
    have hm2 : (F'.length + 1) * 32 ≤ 140737488355328 := by omega
    have hm3 : B ≤ ((w.alloc (.cells #[.int .i64 d, .int .i64 0, .string ⟨c.toArray⟩] 61)).alloc (.cells #[.int .i64 d, .int .i64 0, .string ⟨c.toArray⟩] 61)).heap.size := by simp; omega
    have hc3 := Bk.cells3 (w.alloc (.cells #[.int .i64 d, .int .i64 0, .string ⟨c.toArray⟩] 61)) 61 (.int .i64 d) (.int .i64 0) (.string ⟨c.toArray⟩)
    rw [World.size_alloc] at hc3
    have HF := Lib.hid hf
    clear hf
    unfold Tx.v
    go_enter Tryz.func36, Tryz.ntmps36
    go_wp2_with (at_builtin; refine wpList_append_own_at _ rfl _ _ 28 rfl B 61 i0 (.agg #[.int .i64 0, .int .i64 0, .string ⟨#[]⟩]) 3 32 Tryz.underlying28 hi hz0 hz1 hz2 rfl (by decide) (.slice A F'.length cap) F'.length _ rfl hown ⟨w.heap.size + 1, 0, none⟩ 1 1 [.int .i64 d, .int .i64 0, .string ⟨c.toArray⟩] rfl rfl hc3 (by simp [Value.oneCell']) hm1 hm2 hm3 ?_; intro v' w4 hown' hg4 hnil hat; obtain ⟨A', cp', rfl⟩ := Bk.row_form hown'; have hb4 := hbx.grown hg4 n1; have j8 : w4.cell? ⟨bl, 0, none⟩ = some (.slice A F'.length cap) := hb4.cell 0; have f8 := hb4.frozen 0)
    go_end0
    have e1 : (F ++ [(⟨d, c⟩ : Bk.H)]).filter (fun h => decide (h.d ≤ r)) = F' ++ [⟨d, c⟩] := by rw [HA.out, if_pos hd, HF.out]
    have far : ∀ k, k ≠ bl → (w4.setCell ⟨bl, 0, none⟩ (.slice A' (F'.length + 1) cp')).heap[k]? = w4.heap[k]? := fun k hk => Below.heap_setCell _ ⟨bl, 0, none⟩ _ k hk
    have hne : br ≠ bl := by
      intro e
      subst e
      have h1 := hx.blk
      unfold Blk at hb h1
      rw [hb] at h1
      injection h1 with h1
      injection h1 with _ ht
      exact absurd ht (by decide)
    refine ⟨rfl, _, ⟨.slice A' (F'.length + 1) cp', (far br hne).trans (hbb.grown hg4 n2), ?_, rfl⟩, ?_, fun k hk => ?_⟩
    · rw [e1]
      refine ⟨hb4.set_ 0 _, ?_⟩
      rw [List.length_append]
      have e2 : Bk.hcs (F' ++ [(⟨d, c⟩ : Bk.H)]) = Bk.hcs F' ++ [.int .i64 d, .int .i64 0, .string ⟨c.toArray⟩] := by
        unfold Bk.hcs
        rw [List.flatMap_append, List.flatMap_singleton]; rfl
      rw [e2]
      exact Bk.own_of hown' fun k hk => far k fun e => Bk.own_ne hown' hb4 (by decide) (by rw [← e]; exact hk.symm)
    · exact ((((Bk.Only.refl _ w).alloc _).alloc _).grown hg4 (fun k hk => .inl (.inr (.inr hk)))).setCell (.inl (.inr (.inl rfl))) _
    · rcases hk with rfl | rfl | hk
      · exact .inl (.inl rfl)
      · exact .inl (.inr (.inl rfl))
      · rcases hat with e | e
        · rw [e] at hk; exact .inl (.inr (.inr hk))
        · rw [e] at hk
          have := Option.some.inj hk
          simp at this
          exact .inr (by omega)
  · have u1 : decide ((d : Int) ≤ (r : Int)) = false := decide_eq_false (by omega)
    unfold Tx.v
    go_enter Tryz.func36, Tryz.ntmps36
    go_wp2_with fail
    go_end0
    refine ⟨rfl, _, ⟨.slice A (F.filter fun h => decide (h.d ≤ r)).length cap, hb.alloc _, ⟨hx.blk.alloc _, ?_⟩, rfl⟩, Bk.Only.of hbw, fun k hk => .inl hk⟩
    rw [HA.out, if_neg hd, List.append_nil]
    exact hx.row.alloc _
set_option maxRecDepth 100000 in
theorem Bk.wi_bound {F : List Bk.H} {G : Nat → Prop} {w : World} (h : Bk.WiI B br bl r F G w) :
    Calls Tryz.prog 35 #[.pointer (some ⟨br, 0, none⟩)] w fun e w' => e = .returned (.int .i64 (r : Nat)) ∧ Bk.Dn w w' := by
  obtain ⟨v, hb, hx, rfl⟩ := h
  have k1 := hb.cell 0
  simp only [List.getElem?_toArray, List.getElem?_cons_zero] at k1
  go_enter Tryz.func35, Tryz.ntmps35
  go_wp2_with fail
  go_ret
  exact ⟨rfl, Bk.Dn.refl _⟩
theorem Bk.wi_cli (hbr : B ≤ br) (hr : r ≤ 1024) (wd : Nat) : Bk.Cli 35 #[.pointer (some ⟨br, 0, none⟩)] 36 #[.pointer (some ⟨br, 0, none⟩), .pointer (some ⟨bl, 0, none⟩)] wd 4398046511104 (fun _ => r) (Bk.WiI B br bl r) where
  eb := enters_of Tryz.func35 (by kernel_rfl) rfl
  ef := enters_of Tryz.func36 (by kernel_rfl) rfl
  lt := fun h hk => h.lt hk
  keep := fun h hk => h.keep hk
  rle := fun _ => hr
  bound := fun h => Bk.wi_bound h
  found := fun h hF x _ _ => Bk.wi_found hbr h hF x
end
/-- What Within answers. -/
def Bk.within (T : Bk.T) (q : List UInt8) (r : Int) : Bk.T × List Bk.H × Int :=
  if q.length = T.w / 8 then
    if r < 0 ∨ (T.w : Int) < r then (T, [], 101)
    else ({ T with seen := (Bk.Res T q fun _ => r.toNat).2 }, Bk.sortH ((Bk.Res T q fun _ => r.toNat).1.filter fun h => decide (h.d ≤ r.toNat)), 0)
  else (T, [], 11)
theorem Bk.Good.res_le {T : Bk.T} (h : Bk.Good T.w T.l) (q : List UInt8) (r : List Bk.H → Nat) : (Bk.Res T q r).2 ≤ T.seen + T.l.length ∧ (Bk.Res T q r).1.length ≤ T.l.length ∧ T.seen ≤ (Bk.Res T q r).2 := by
  unfold Bk.Res
  split
  · exact ⟨Nat.le_add_right _ _, Nat.zero_le _, Nat.le_refl _⟩
  · rename_i h0
    have h1 := h.visits q r 0 (by omega) ([], T.seen)
    have h2 := Bk.found_le T.w T.l q r (T.l.length + 1) 0 ([], T.seen)
    have h3 := Bk.visit_ge T.w T.l q r (T.l.length + 1) 0 ([], T.seen)
    unfold Bk.V at *
    simp only [List.length_nil, Nat.zero_add] at h2
    exact ⟨h1, by omega, h3⟩
set_option maxRecDepth 100000 in
set_option maxHeartbeats 4000000 in
theorem Bk.within_any {W : World} {t : Nat} {T : Bk.T} {F : Nat → Prop} (h : Bk.At W t T F) (hG : Bk.Good T.w T.l) (hw : Bt.wide T.w = true) (q : ByteArray) (hq : q.size ≤ 9223372036854775807) (r : Int) (hl : T.l.length ≤ 4398046511104) (hD : ∀ i, (Bk.deeps (Bk.os T.l)).getD i 0 ≤ 2199023255552)
    (hT : TabO W) (hF : ∀ k, F k → k ≠ 1) :
    Calls Tryz.prog 16 #[.pointer (some ⟨t, 0, none⟩), .string q, .int .i64 r] W fun e W' => ∃ v, e = .returned (.tuple #[v, .int .i64 (Bk.within T q.data.toList r).2.2]) ∧
      W'.ownsRow W.heap.size 61 3 v (Bk.within T q.data.toList r).2.1.length (Bk.hcs (Bk.within T q.data.toList r).2.1) ∧ Bk.At W' t (Bk.within T q.data.toList r).1 F ∧ Bk.Only F W W' := by
  obtain ⟨bm, L, hS, rfl⟩ := h
  obtain ⟨c0, c1, c2, c3, c4, c5⟩ := hS.six
  have ht := hS.tree.lt
  have hck := fun W' => check_any T.w q W' hw hq
  obtain ⟨w1, w2, w3⟩ := Bt.wide_in hw
  have hqs : q.data.toList.length = q.size := Array.length_toList
  have hB0 : Below W.heap.size W (W.alloc (.cells #[.int .i64 r] 3)) := (Below.refl _ _).alloc (Nat.le_refl _) _
  have hSa := hS.later hB0 (Nat.le_refl _)
  have nil_row : ∀ w' : World, w'.ownsRow W.heap.size 61 3 (.slice none 0 0) 0 [] := fun w' => ⟨by simp, .inl ⟨rfl, rfl⟩⟩
  by_cases hfit : q.size = T.w / 8
  · simp only [if_pos hfit] at hck
    by_cases hr : r < 0 ∨ (T.w : Int) < r
    · have hR : Bk.within T q.data.toList r = (T, [], 101) := by unfold Bk.within; rw [if_pos (by omega), if_pos hr]
      rw [hR]
      clear hR hfit hqs
      by_cases h0 : r < 0
      · have u1 : decide (r < 0) = true := decide_eq_true h0
        go_enter Tryz.func16, Tryz.ntmps16
        go_upto_region 4 with (go_at_call 31; refine (hck _).mono ?_; clear hck; rintro e w' ⟨rfl, rfl⟩)
        go_quiet (fail)
        go_wp2_with fail
        go_ret2
        exact ⟨_, rfl, nil_row _, ⟨bm, L, hSa.dn ⟨_, rfl⟩, rfl⟩, Bk.Only.of ⟨rfl, rfl, rfl, hB0.size, hB0.block⟩⟩
      · have u1 : decide (r < 0) = false := decide_eq_false h0
        have u2 : decide ((T.w : Int) < r) = true := decide_eq_true (by omega)
        go_enter Tryz.func16, Tryz.ntmps16
        go_upto_region 4 with (go_at_call 31; refine (hck _).mono ?_; clear hck; rintro e w' ⟨rfl, rfl⟩)
        go_quiet (fail)
        go_wp2_with fail
        go_ret2
        exact ⟨_, rfl, nil_row _, ⟨bm, L, hSa.dn ⟨_, rfl⟩, rfl⟩, Bk.Only.of ⟨rfl, rfl, rfl, hB0.size, hB0.block⟩⟩
    · obtain ⟨n, rfl⟩ : ∃ n : Nat, r = (n : Int) := ⟨r.toNat, by omega⟩
      have hR : Bk.within T q.data.toList (n : Int) = ({ T with seen := (Bk.Res T q.data.toList fun _ => n).2 }, Bk.sortH ((Bk.Res T q.data.toList fun _ => n).1.filter fun h => decide (h.d ≤ n)), 0) := by unfold Bk.within; rw [if_pos (by omega), if_neg hr]; simp
      rw [hR]
      obtain ⟨z1, z2, z3⟩ := hG.res_le q.data.toList fun _ => n
      have hn : n ≤ 1024 := by omega
      have u1 : decide ((n : Int) < 0) = false := decide_eq_false (by omega)
      have u2 : decide (T.w < n) = false := decide_eq_false (by omega)
      have HT := Lib.hid (And.intro hT (And.intro hF hD))
      clear hR hr hqs hD hT hF
      go_enter Tryz.func16, Tryz.ntmps16
      go_upto_region 4 with (go_at_call 31; refine (hck _).mono ?_; clear hck; rintro e w' ⟨rfl, rfl⟩)
      go_quiet (fail)
      go_upto_region 7 with fail
      have hB1 : Below W.heap.size W ((W.alloc (.cells #[.int .i64 n] 3)).drewN nq) := ⟨rfl, rfl, rfl, hB0.size, hB0.block⟩
      have m5 : Blk ((W.alloc (.cells #[.int .i64 n] 3)).drewN nq) W.heap.size 3 #[.int .i64 n] := Blk.new W 3 #[.int .i64 n]
      have zz : ((W.alloc (.cells #[.int .i64 n] 3)).drewN nq).heap.size = W.heap.size + 1 := World.size_alloc W _
      generalize (W.alloc (.cells #[.int .i64 n] 3)).drewN nq = w1 at hB1 m5 zz ⊢
      have m9 := Blk.new w1 28 #[.slice none 0 0]
      have m5' := m5.alloc (.cells #[.slice none 0 0] 28)
      have hB2 := hB1.alloc hB1.size (.cells #[.slice none 0 0] 28)
      rw [zz] at m9
      generalize w1.alloc (.cells #[.slice none 0 0] 28) = w2 at m9 m5' hB2 ⊢
      clear m5 zz hB1 w1 hSa hB0 c0 c1 c2 c3 c4 c5
      have hS2 := hS.later hB2 (Nat.le_refl _)
      have hI : Bk.WiI W.heap.size W.heap.size (W.heap.size + 1) n [] (fun k => k = W.heap.size ∨ k = W.heap.size + 1 ∨ (Value.slice none 0 0).ownBlock = some k) w2 := ⟨.slice none 0 0, m5', ⟨m9, ⟨by simp [Bk.hcs], .inl ⟨rfl, rfl⟩⟩⟩, rfl⟩
      have hG0 : ∀ k, (k = W.heap.size ∨ k = W.heap.size + 1 ∨ (Value.slice none 0 0).ownBlock = some k) → W.heap.size ≤ k := fun k hk => by
        rcases hk with rfl | rfl | hk
        · exact Nat.le_refl _
        · omega
        · simp [Value.ownBlock] at hk
      have hwk := Bk.walk_any (Bk.wi_cli (B := W.heap.size) (br := W.heap.size) (bl := W.heap.size + 1) (r := n) (Nat.le_refl _) hn 1024) hS2 hI (fun k hk hg => by have := hS.lt hk; have := hG0 k hg; omega) (HT.out.1.below hB2 (Nat.le_refl _)) (fun hg => by have := hG0 _ hg; have := HT.out.1.pos; omega) HT.out.2.1 hG (by omega) (by omega) (by omega) hl q hfit (Nat.le_refl _) (by omega) HT.out.2.2
      go_upto_region 8 with (go_at_call 34; refine hwk.mono ?_; clear hwk; rintro e w3 ⟨rfl, G', hS3, ⟨v, hb3, hx3, hGe⟩, hO3, hG3⟩)
      obtain ⟨A, cap, rfl⟩ := Bk.row_form hx3.row
      have k9 := hx3.blk.cell 0
      simp only [List.getElem?_toArray, List.getElem?_cons_zero] at k9
      have hfl : ((Bk.Res T q.data.toList fun _ => n).1.filter fun h => decide (h.d ≤ n)).length ≤ (Bk.Res T q.data.toList fun _ => n).1.length := List.length_filter_le _ _
      have hor := Bk.ordered_any hx3.row (fun h hh => by have := (List.mem_filter.1 hh).2; simp at this; omega) (by omega)
      go_upto_region 9 with (go_at_call 37; refine hor.mono ?_; clear hor; rintro e w4 ⟨rfl, hrow4, hg4⟩; have hb4 := hx3.blk.grown hg4 (Bk.own_ne hx3.row hx3.blk (by decide)); have k9' : w4.cell? ⟨W.heap.size + 1, 0, none⟩ = _ := hb4.cell 0)
      simp only [List.getElem?_toArray, List.getElem?_cons_zero] at k9'
      have hlen : (Bk.sortH ((Bk.Res T q.data.toList fun _ => n).1.filter fun h => decide (h.d ≤ n))).length = ((Bk.Res T q.data.toList fun _ => n).1.filter fun h => decide (h.d ≤ n)).length := by simp [Bk.sortH]
      go_wp2_with fail
      go_ret2
      have hvb := fun k hk => hx3.row.lt k hk
      refine ⟨_, rfl, hrow4, ⟨bm, L, hS3.keep fun k hk => hg4.block k (hS3.lt hk) fun e => ?_, rfl⟩, ?_⟩
      · have := (hvb k e.symm).1
        have := hS.lt hk
        omega
      · have h1 : Bk.Only (Bk.foot t bm L) W w3 := (Bk.Only.of (F := Bk.foot t bm L) hB2).chain (fun k hk => by
          rcases hk with rfl | hk
          · exact .inl (.inl rfl)
          · exact .inr (hG0 k hk)) hO3
        exact h1.grown hg4 fun k hk => .inr (hvb k hk).1
  · simp only [if_neg hfit] at hck
    have hR : Bk.within T q.data.toList r = (T, [], 11) := by unfold Bk.within; rw [if_neg (by omega)]
    rw [hR]
    clear hR hfit hqs
    go_enter Tryz.func16, Tryz.ntmps16
    go_wp2_with (go_at_call 31; refine (hck _).mono ?_; clear hck; rintro e w' ⟨rfl, rfl⟩)
    go_ret2
    exact ⟨_, rfl, nil_row _, ⟨bm, L, hSa, rfl⟩, Bk.Only.of hB0⟩
end Go.Proofs.YtikhahkmebkccaaGreatDoor
