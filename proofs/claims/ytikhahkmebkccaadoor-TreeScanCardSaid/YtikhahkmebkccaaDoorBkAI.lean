/- The law TreeScan. Conditions: each theorem's own hypotheses. -/
import Derived.Test.YtikhahkmebkccaaDoorBkAH
import Derived.Test.YtikhahkmebkccaaDoorBkAB
import Derived.Deep.RegionHeld3
namespace Go.Proofs.YtikhahkmebkccaaDoor
open Go.RowKit Go.Maps Go.Sort Go.Shelf
set_option linter.unusedVariables false
set_option linter.unusedSimpArgs false

/-- Without one code a list is so much shorter. -/
theorem Bk.len_ne {c : List UInt8} : ∀ {L : List (List UInt8)}, L.Nodup → (L.filter fun s => decide (s ≠ c)).length + (if c ∈ L then 1 else 0) = L.length
  | [], _ => by simp
  | x :: L, h => by
    obtain ⟨h1, h2⟩ := List.nodup_cons.1 h
    have ih := Bk.len_ne (c := c) h2
    by_cases e : x = c
    · subst e
      rw [if_neg h1] at ih
      rw [List.filter_cons_of_neg (by simp), if_pos (List.mem_cons_self ..), List.length_cons]
      omega
    · rw [List.filter_cons_of_pos (by simpa using e), List.length_cons, List.length_cons, ← ih]
      by_cases f : c ∈ L
      · rw [if_pos f, if_pos (List.mem_cons_of_mem _ f)] <;> omega
      · rw [if_neg f, if_neg (fun hm => (List.mem_cons.1 hm).elim (fun e2 => e e2.symm) f)] <;> omega
theorem Bk.Good.told1 {T : Bk.T} (h : Bk.Good T.w T.l) {C : List (List UInt8)} (hC : C.Perm (Bk.lives T.l)) (c : List UInt8) (n : Int) :
    (Bk.run T 1 c n).2.yes = decide (C.length < (Bk.setC C 1 c T.w).length) ∧ ((Bk.run T 1 c n).2.e = 0 ↔ c.length = T.w / 8) := by
  have hnd : C.Nodup := hC.nodup_iff.2 h.lives_nodup
  have hl := Bk.len_ne (c := c) hnd
  have hr : Bk.run T 1 c n = ((Bk.add T c).1, { yes := (Bk.add T c).2.1, e := (Bk.add T c).2.2 }) := by unfold Bk.run; rw [if_pos rfl]
  obtain ⟨a1, a2⟩ := h.add_is c
  rw [hr]
  unfold Bk.setC
  rw [if_neg (by omega), List.length_append]
  by_cases hf : c.length = T.w / 8
  · have a3 := (a1 hf).1
    rw [a3, if_pos ⟨rfl, hf⟩]
    refine ⟨?_, by simp [hf]⟩
    by_cases hm : c ∈ C
    · rw [if_pos hm] at hl
      rw [decide_eq_true (hC.mem_iff.1 hm)]
      symm
      exact decide_eq_false (by simp only [List.length_singleton]; omega)
    · rw [if_neg hm] at hl
      rw [decide_eq_false (fun x => hm (hC.mem_iff.2 x))]
      symm
      exact decide_eq_true (by simp only [List.length_singleton]; omega)
  · rw [a2 hf, if_neg (fun x => hf x.2)]
    refine ⟨?_, by simp [hf]⟩
    symm
    exact decide_eq_false (by simp only [List.length_nil]; omega)
theorem Bk.Good.told2 {T : Bk.T} (h : Bk.Good T.w T.l) {C : List (List UInt8)} (hC : C.Perm (Bk.lives T.l)) (c : List UInt8) (n : Int) :
    (Bk.run T 2 c n).2.yes = decide ((Bk.setC C 2 c T.w).length < C.length) := by
  have hnd : C.Nodup := hC.nodup_iff.2 h.lives_nodup
  have hl := Bk.len_ne (c := c) hnd
  have hr : Bk.run T 2 c n = ((Bk.drop T c).1, { yes := (Bk.drop T c).2 }) := by unfold Bk.run; rw [if_neg (by omega), if_pos rfl]
  rw [hr]
  unfold Bk.setC
  rw [if_neg (by omega), List.length_append, if_neg (fun x => by have := x.1; omega), (h.drop_is c).1]
  by_cases hm : c ∈ C
  · rw [if_pos hm] at hl
    rw [decide_eq_true (hC.mem_iff.1 hm)]
    symm
    exact decide_eq_true (by simp only [List.length_nil]; omega)
  · rw [if_neg hm] at hl
    rw [decide_eq_false (fun x => hm (hC.mem_iff.2 x))]
    symm
    exact decide_eq_false (by simp only [List.length_nil]; omega)
theorem Bk.setC_other {C : List (List UInt8)} {k : Int} (h1 : k ≠ 1) (h2 : k ≠ 2) (c : List UInt8) (w : Nat) : Bk.setC C k c w = C := by unfold Bk.setC; rw [if_pos ⟨h1, h2⟩]
theorem Bk.run_4 (T : Bk.T) (c : List UInt8) (n : Int) : (Bk.run T 4 c n).2.l = (Bk.within T c n).2.1 ∧ (Bk.run T 4 c n).2.e = (Bk.within T c n).2.2 := by
  have : Bk.run T 4 c n = ((Bk.within T c n).1, { l := (Bk.within T c n).2.1, e := (Bk.within T c n).2.2, looked := Bk.w64 (Bk.within T c n).1.seen }) := by unfold Bk.run; rw [if_neg (by omega), if_neg (by omega), if_neg (by omega), if_pos rfl]
  rw [this]; exact ⟨rfl, rfl⟩
theorem Bk.run_5 (T : Bk.T) (c : List UInt8) (n : Int) : (Bk.run T 5 c n).2.l = (Bk.nearest T c n).2.1 ∧ (Bk.run T 5 c n).2.e = (Bk.nearest T c n).2.2 := by
  have : Bk.run T 5 c n = ((Bk.nearest T c n).1, { l := (Bk.nearest T c n).2.1, e := (Bk.nearest T c n).2.2, looked := Bk.w64 (Bk.nearest T c n).1.seen }) := by unfold Bk.run; rw [if_neg (by omega), if_neg (by omega), if_neg (by omega), if_neg (by omega), if_pos rfl]
  rw [this]; exact ⟨rfl, rfl⟩
/-- What TreeScan asks of a call's answer. -/
structure Bk.Says (T : Bk.T) (C : List (List UInt8)) (k : Int) (c : List UInt8) (n : Int) (R : Bk.T × Bk.G) (w8 : Nat) : Prop where
  one : k = 1 → R.2.yes = decide (C.length < (Bk.setC C k c T.w).length) ∧ (R.2.e == 0) = decide (c.length = w8)
  two : k = 2 → R.2.yes = decide ((Bk.setC C k c T.w).length < C.length)
  four : k = 4 → ∀ r : Nat, n = (r : Int) → r ≤ T.w → c.length = w8 → R.2.l = Bk.scanL (Bk.setC C k c T.w) c r ∧ R.2.e = 0
  five : k = 5 → ∀ r : Nat, n = (r : Int) → r ≤ 4096 → c.length = w8 → R.2.l = Bk.firstK (Bk.scanL (Bk.setC C k c T.w) c T.w) r ∧ R.2.e = 0
  len : Bk.live R.1.l = (Bk.setC C k c T.w).length
  has : Bk.has R.1 c = decide (c ∈ Bk.setC C k c T.w)
  w : R.1.w = T.w
  perm : (Bk.setC C k c T.w).Perm (Bk.lives R.1.l)
  slim : Bk.Slim R.1
  nodes : R.1.l.length ≤ T.l.length + 1
  codes : ∀ x ∈ Bk.setC C k c T.w, x.length = w8
theorem Bk.Good.says {T : Bk.T} (h : Bk.Good T.w T.l) (hs : Bk.Slim T) {C : List (List UInt8)} (hC : C.Perm (Bk.lives T.l)) (k : Int) (c : List UInt8) (n : Int) {w8 : Nat} (h8 : T.w / 8 = w8) : Bk.Says T C k c n (Bk.run T k c n) w8 := by
  subst h8
  have hnum := h.num hs k c n
  have hp := h.set_goes hs hC k c n
  refine ⟨fun e => ?_, fun e => ?_, fun e r hr hl hc => ?_, fun e r hr hl hc => ?_, ?_, ?_, hnum.w, hp, hnum.slim, hnum.len, fun x hx => ?_⟩
  · subst e
    obtain ⟨a, b⟩ := h.told1 hC c n
    refine ⟨a, ?_⟩
    rw [Bool.eq_iff_iff, beq_iff_eq, decide_eq_true_eq]
    exact b
  · subst e; exact h.told2 hC c n
  · subst e hr
    rw [(Bk.run_4 T c r).1, (Bk.run_4 T c r).2, Bk.setC_other (by omega) (by omega), h.within_scan hC hc hl]
    exact ⟨rfl, rfl⟩
  · subst e hr
    rw [(Bk.run_5 T c r).1, (Bk.run_5 T c r).2, Bk.setC_other (by omega) (by omega), h.nearest_scan hC hc hl]
    exact ⟨rfl, rfl⟩
  · rw [← Bk.lives_len, hp.length_eq]
  · have hg := hnum.good
    rw [hg.has_is, Bool.eq_iff_iff, decide_eq_true_eq, decide_eq_true_eq]
    exact hp.mem_iff.symm
  · have := hnum.good.lives_len x (hp.mem_iff.1 hx)
    rw [this, hnum.w]
/-- Behind a call of TreeScan: the tree, the list, the call, its answer. -/
structure Bk.Sc (W : World) (t : Nat) (T : Bk.T) (F : Nat → Prop) (S : List (List UInt8)) (As : Option Addr) (cs ob gb : Nat) (kd : Int) (cc : ByteArray) (nn : Int) (yes : Bool) (er : Int) (l : List Bk.H) (A2 : Option Addr) (cap len nodes depth : Nat) (looked : Int) (X : World) : Prop where
  bg : Bk.Bg W t T F X
  row : X.ownsRow 0 9 1 (.slice As S.length cs) S.length (Bk.ss S)
  hits : X.ownsRow 0 36 3 (.slice A2 l.length cap) l.length (Bk.hcs l)
  op : Blk X ob 41 #[.int .i64 kd, .string cc, .int .i64 nn]
  got : Blk X gb 44 #[.bool yes, .int .i64 er, .slice A2 l.length cap, .int .i64 len, .int .i64 nodes, .int .i64 depth, .int .i64 looked]
section
variable {W X Y : World} {t : Nat} {T : Bk.T} {F : Nat → Prop} {S : List (List UInt8)} {As : Option Addr} {cs ob gb : Nat} {kd : Int} {cc : ByteArray} {nn : Int} {yes : Bool} {er : Int} {l : List Bk.H} {A2 : Option Addr} {cap len nodes depth : Nat} {looked : Int}
theorem Bk.Sc.later (h : Bk.Sc W t T F S As cs ob gb kd cc nn yes er l A2 cap len nodes depth looked X) (hb : Below X.heap.size X Y) : Bk.Sc W t T F S As cs ob gb kd cc nn yes er l A2 cap len nodes depth looked Y :=
  ⟨h.bg.later hb, Bk.own_later h.row hb (Nat.le_refl _), Bk.own_later h.hits hb (Nat.le_refl _), (hb.block ob h.op.lt).trans h.op, (hb.block gb h.got.lt).trans h.got⟩
theorem Bk.Sc.dn (h : Bk.Sc W t T F S As cs ob gb kd cc nn yes er l A2 cap len nodes depth looked X) (n : Nat) : Bk.Sc W t T F S As cs ob gb kd cc nn yes er l A2 cap len nodes depth looked (X.drewN n) := h.later (below_dn (Below.refl _ X) n)
theorem Bk.Sc.p0 (h : Bk.Sc W t T F S As cs ob gb kd cc nn yes er l A2 cap len nodes depth looked X) : X.cell? ⟨ob, 0, none⟩ = some (.int .i64 kd) := h.op.cell 0
theorem Bk.Sc.p1 (h : Bk.Sc W t T F S As cs ob gb kd cc nn yes er l A2 cap len nodes depth looked X) : X.cell? ⟨ob, 1, none⟩ = some (.string cc) := h.op.cell 1
theorem Bk.Sc.p2 (h : Bk.Sc W t T F S As cs ob gb kd cc nn yes er l A2 cap len nodes depth looked X) : X.cell? ⟨ob, 2, none⟩ = some (.int .i64 nn) := h.op.cell 2
theorem Bk.Sc.four (h : Bk.Sc W t T F S As cs ob gb kd cc nn yes er l A2 cap len nodes depth looked X) : X.cell? ⟨ob, 1, none⟩ = some (.string cc) ∧ X.cell? ⟨ob, 2, none⟩ = some (.int .i64 nn) ∧ X.cell? ⟨gb, 1, none⟩ = some (.int .i64 er) ∧ X.cell? ⟨gb, 2, none⟩ = some (.slice A2 l.length cap) := ⟨h.op.cell 1, h.op.cell 2, h.got.cell 1, h.got.cell 2⟩
theorem Bk.Sc.g0 (h : Bk.Sc W t T F S As cs ob gb kd cc nn yes er l A2 cap len nodes depth looked X) : X.cell? ⟨gb, 0, none⟩ = some (.bool yes) := h.got.cell 0
theorem Bk.Sc.g1 (h : Bk.Sc W t T F S As cs ob gb kd cc nn yes er l A2 cap len nodes depth looked X) : X.cell? ⟨gb, 1, none⟩ = some (.int .i64 er) := h.got.cell 1
theorem Bk.Sc.g2 (h : Bk.Sc W t T F S As cs ob gb kd cc nn yes er l A2 cap len nodes depth looked X) : X.cell? ⟨gb, 2, none⟩ = some (.slice A2 l.length cap) := h.got.cell 2
end
theorem Bk.scan_len (l : List (List UInt8)) (q : List UInt8) (r : Nat) : (Bk.scanL l q r).length ≤ l.length := by
  unfold Bk.scanL
  rw [(Bk.sortH_is _).length_eq]
  exact Nat.le_trans (List.length_filter_le _ _) (by rw [List.length_map]; exact Nat.le_refl _)
theorem Bk.firstK_len (l : List Bk.H) (k : Nat) : (Bk.firstK l k).length ≤ l.length := by
  unfold Bk.firstK
  split
  · exact Nat.zero_le _
  · split
    · exact Nat.zero_le _
    · exact List.length_filter_le _ _
/-- Between two calls of TreeScan. -/
def Bk.ZR (W : World) (t : Nat) (N w : Nat) (m : Nat) (vl i : Value) (wr : World) : Prop :=
  ∃ (k : Nat) (T : Bk.T) (F : Nat → Prop) (C : List (List UInt8)), m + k = N ∧ i = .int .i64 (k : Nat) ∧ Bk.Bg W t T F wr ∧ Bk.Slim T ∧ T.l.length ≤ k ∧ T.w = w ∧ C.Perm (Bk.lives T.l) ∧ wr.ownsRow 0 9 1 vl C.length (Bk.ss C) ∧ ∀ j, vl.ownBlock = some j → ¬ F j
set_option maxRecDepth 100000 in
set_option maxHeartbeats 8000000 in
theorem Bk.scan_law (w0 : Int) (L : List Bk.O) (A : Option Addr) (c : Nat) (W : World) (hI : Bk.Ops W W.heap.size A L) (hn : L.length ≤ 4398046511104) (hs : ∀ x ∈ L, x.c.size ≤ 140737488355328) (hT : TabO W) :
    Calls Tryd.prog 4 #[.int .i64 w0, .slice A L.length c] W fun e W' => e = .returned (.bool true) ∧ Below W.heap.size W W' := by
  have hbeg := Bk.begun_any hT
  cases hw : Bt.wide w0 with
  | false =>
    have hnew := fun W' => Bk.new_none w0 hw W'
    go_enter Tryd.func4, Tryd.ntmps4
    go_wp2_with (first | (go_at_call 6; refine hbeg.mono ?_; clear hbeg; rintro e w1 ⟨rfl, hb1⟩) | (go_at_call 7; refine (hnew _).mono ?_; clear hnew; rintro e w2 ⟨rfl, rfl⟩))
    go_ret
    exact ⟨rfl, hb1⟩
  | true =>
    obtain ⟨w, rfl⟩ : ∃ w : Nat, w0 = (w : Int) := ⟨w0.toNat, by have := Bt.wide_in hw; omega⟩
    have hnew := fun W' hT' => Bk.new_tree w hw W' hT'
    go_enter Tryd.func4, Tryd.ntmps4
    go_upto_region 7 with (first | (go_at_call 6; refine hbeg.mono ?_; clear hbeg; rintro e w1 ⟨rfl, hb1⟩) | (go_at_call 7; refine (hnew _ (hT.below hb1 (Nat.le_refl _))).mono ?_; clear hnew; rintro e w2 ⟨t, F0, rfl, h1, h2, h3, h4⟩))
    have hst : Bk.ZR W t L.length w L.length (.slice none 0 0) (.int .i64 ((0 : Nat) : Int)) w2 := ⟨0, ⟨w, [], 0⟩, F0, [], by omega, rfl, ⟨h1, h4, hb1.trans (h2.mono hb1.size), fun k hk => Nat.le_trans hb1.size (h3 k hk)⟩, by unfold Bk.Slim; simp, Nat.le_refl _, rfl, by simp [Bk.lives], ⟨by simp [Bk.ss], .inl ⟨rfl, rfl⟩⟩, fun j hj => by simp [Value.ownBlock] at hj⟩
    have HS := Lib.hid hst
    clear hst h1 h2 h3 h4 hb1 hT
    have hwl := Bt.wide_in hw
    go_loopg [7, 8] L.length (fun m vl i wr => Bk.ZR W t L.length w m vl i wr)
    case atStart => exact HS.out
    case round =>
      clear HS w2 F0
      obtain ⟨k, T, F, C, hmk, rfl, hbg, hsl, hlk, hTw, hCp, hro, hoff⟩ := hrel
      obtain ⟨Al, cl, rfl⟩ := Bk.row_form hro
      by_cases hkn : k = L.length
      · have u1 : decide (k < L.length) = false := decide_eq_false (by omega)
        go_wp2_with (go_at_call 6; refine (Bk.begun_any hbg.tab).mono ?_; rintro e w9 ⟨rfl, hb9⟩)
        go_ret
        exact ⟨rfl, hbg.bel.trans (hb9.mono hbg.bel.size)⟩
      · have u1 : decide (k < L.length) = true := decide_eq_true (by omega)
        obtain ⟨x, hx⟩ : ∃ x, L[k]? = some x := ⟨_, List.getElem?_eq_getElem (by omega)⟩
        obtain ⟨b, off, rfl, hb, hcells⟩ := hI (by omega)
        obtain ⟨q0', q1', q2'⟩ := hcells k x hx
        have q0 := (hbg.bel.cell (p := ⟨b, off + k * 3, none⟩) hb).trans q0'
        have q1 := (hbg.bel.cell (p := ⟨b, off + k * 3 + 1, none⟩) hb).trans q1'
        have q2 := (hbg.bel.cell (p := ⟨b, off + k * 3 + 2, none⟩) hb).trans q2'
        clear q0' q1' q2'
        have hxs := hs x (List.mem_of_getElem? hx)
        have hkl : k < L.length := by omega
        have hnum := hbg.tree.good.num hsl x.k x.c.data.toList x.n
        have hgoes := hbg.tree.good.set_goes hsl hCp x.k x.c.data.toList x.n
        have hCl : C.length ≤ k := by
          rw [hCp.length_eq, Bk.lives_len]
          exact Nat.le_trans (Bk.live_le _) hlk
        have HX := Lib.hid (And.intro hx (And.intro hmk (And.intro hI hs)))
        clear hx hmk hcells hs hkn
        obtain ⟨kd, cc, nn⟩ := x
        simp only at q0 q1 q2 hxs hnum hgoes
        have HSay := Lib.hid (hbg.tree.good.says hsl hCp kd cc.data.toList nn rfl)
        go_upto_region 11 with fail
        have B8 := Blk.new wr 41 #[.int .i64 kd, .string cc, .int .i64 nn]
        have hal : Below wr.heap.size wr (wr.alloc (.cells #[.int .i64 kd, .string cc, .int .i64 nn] 41)) := (Below.refl _ wr).alloc (Nat.le_refl _) _
        have hbg2 := hbg.later hal
        have hro2 := Bk.own_later hro hal (Nat.le_refl _)
        have hFo : ¬ F wr.heap.size := fun hf => by have := hbg.tree.at'.lt hf; omega
        have hFl : ∀ j, F j → j < wr.heap.size := fun j hj => hbg.tree.at'.lt hj
        have hrl : ∀ j, (Value.slice Al C.length cl).ownBlock = some j → j < wr.heap.size := fun j hj => (hro.lt j hj).2
        clear q0 q1 q2 hbg hro hal
        generalize wr.alloc (.cells #[.int .i64 kd, .string cc, .int .i64 nn] 41) = w3 at B8 hbg2 hro2 ⊢
        generalize wr.heap.size = ob at B8 hFo hFl hrl ⊢
        clear wr
        have p0 := B8.cell 0
        have p1 := B8.cell 1
        have p2 := B8.cell 2
        simp only [List.getElem?_toArray, List.getElem?_cons_zero, List.getElem?_cons_succ] at p0 p1 p2
        have hz3 := B8.lt
        have hset := Bk.set_any hro2 (by omega) kd cc nn w (by omega)
        have HB := Lib.hid (And.intro hbg2 (And.intro hsl (And.intro hnum (And.intro hgoes (And.intro hTw (And.intro hCp hoff))))))
        clear hbg2 hsl hnum hgoes hTw hCp hoff
        go_upto_region 12 with (go_at_call 16; refine hset.mono ?_; clear hset; rintro e w4 ⟨vs, rfl, hb4, hro4, hof4⟩; obtain ⟨As, cs, rfl⟩ := Bk.row_form hro4)
        have hbg4 := HB.out.1.later hb4
        have B9 : Blk w4 ob 41 _ := (hb4.block ob hz3).trans B8
        have hz4 := B9.lt
        have hsz4 := hb4.size
        clear p0 p1 p2 B8
        have p0 := B9.cell 0
        have p1 := B9.cell 1
        have p2 := B9.cell 2
        simp only [List.getElem?_toArray, List.getElem?_cons_zero, List.getElem?_cons_succ] at p0 p1 p2
        have hdo := Bk.do_any hbg4.tree hbg4.tab (by omega) cc (by omega) kd nn
        obtain ⟨R, hR⟩ : ∃ R, Bk.run T kd cc.data.toList nn = R := ⟨_, rfl⟩
        rw [hR] at hdo
        obtain ⟨T', yes, er, l, len, nodes, depth, looked⟩ := R
        unfold Bk.Did at hdo
        dsimp only at hdo
        have HR := Lib.hid (And.intro hR (And.intro hbg4 hro4))
        clear hR hbg4
        go_upto_region 13 with (go_at_call 17; refine hdo.mono ?_; clear hdo; rintro e w5 ⟨v, F', rfl, hrow, htr, ho, hF', hvF, htab⟩; obtain ⟨A2, cap, rfl⟩ := Bk.row_form hrow)
        have hbg4 := HR.out.2.1
        have hbg5 : Bk.Bg W t T' F' w5 := ⟨htr, htab, hbg4.bel.trans (ho.below hbg4.bel.size hbg4.ge), fun k hk => (hF' k hk).elim (hbg4.ge k) fun h1 => by have := hbg4.bel.size; omega⟩
        have hoffs : ∀ j, (Value.slice As (Bk.setC C kd cc.data.toList w).length cs).ownBlock = some j → ¬ F j ∧ j < w4.heap.size := fun j hj => ⟨fun hf => by
          rcases hof4 j hj with h1 | h1
          · exact HB.out.2.2.2.2.2.2 j h1 hf
          · have := hFl j hf; omega, (hro4.lt j hj).2⟩
        have hro5 : w5.ownsRow 0 9 1 (.slice As (Bk.setC C kd cc.data.toList w).length cs) (Bk.setC C kd cc.data.toList w).length (Bk.ss (Bk.setC C kd cc.data.toList w)) := Bk.own_of hro4 fun j hj => ho.block j (hoffs j hj).2 (hoffs j hj).1
        have hoff5 : ∀ j, (Value.slice As (Bk.setC C kd cc.data.toList w).length cs).ownBlock = some j → ¬ F' j := fun j hj hf => by
          rcases hF' j hf with h1 | h1
          · exact (hoffs j hj).1 h1
          · have := (hoffs j hj).2; omega
        have B10 : Blk w5 ob 41 _ := (ho.block ob hz4 hFo).trans B9
        have B11 := B10.alloc (.cells #[.bool yes, .int .i64 er, .slice A2 l.length cap, .int .i64 len, .int .i64 nodes, .int .i64 depth, .int .i64 looked] 44)
        have G11 := Blk.new w5 44 #[.bool yes, .int .i64 er, .slice A2 l.length cap, .int .i64 len, .int .i64 nodes, .int .i64 depth, .int .i64 looked]
        have hal5 : Below w5.heap.size w5 (w5.alloc (.cells #[.bool yes, .int .i64 er, .slice A2 l.length cap, .int .i64 len, .int .i64 nodes, .int .i64 depth, .int .i64 looked] 44)) := (Below.refl _ w5).alloc (Nat.le_refl _) _
        have hbg6 := hbg5.later hal5
        have hro6 := Bk.own_later hro5 hal5 (Nat.le_refl _)
        have hrow6 := Bk.own_base (Bk.own_later hrow hal5 (Nat.le_refl _)) (B' := 0) (Nat.zero_le _)
        clear p0 p1 p2 B9 B10 hbg4 hbg5 hro5 hrow htr ho hF' hvF htab hal5 hoffs hro4 hof4
        generalize w5.alloc (.cells #[.bool yes, .int .i64 er, .slice A2 l.length cap, .int .i64 len, .int .i64 nodes, .int .i64 depth, .int .i64 looked] 44) = w6 at B11 G11 hbg6 hro6 hrow6 ⊢
        generalize w5.heap.size = gb at G11 ⊢

        obtain ⟨w8, hw8⟩ : ∃ w8, w / 8 = w8 := ⟨_, rfl⟩
        have e8 : Int.tdiv (w : Int) 8 = (w8 : Int) := by rw [← hw8]; rfl
        have hw8b : w8 ≤ 128 := by omega
        obtain ⟨fb, hfb⟩ : ∃ fb, ((cc.size : Int) == (w8 : Int)) = fb := ⟨_, rfl⟩
        have hfb' : decide (cc.data.toList.length = w8) = fb := by
          rw [← hfb, Bool.eq_iff_iff, decide_eq_true_eq, beq_iff_eq, Array.length_toList]
          exact Int.ofNat_inj.symm
        have hsay := HSay.out
        rw [HR.out.1, HB.out.2.2.2.2.1, hw8] at hsay
        obtain ⟨a1, a2, a4, a5, alen, ahas, aw, aperm, aslim, anodes, acodes⟩ := hsay
        rw [HB.out.2.2.2.2.1] at a1 a2 a4 a5 alen ahas aperm acodes
        have hC4 : (Bk.setC C kd cc.data.toList w).length ≤ k + 1 := by
          rw [← alen]
          exact Nat.le_trans (Bk.live_le _) (Nat.le_trans anodes (by omega))
        obtain ⟨S, hS⟩ : ∃ S, Bk.setC C kd cc.data.toList w = S := ⟨_, rfl⟩
        rw [hS] at a1 a2 a4 a5 alen ahas aperm acodes hC4 hro6 hoff5 ⊢
        simp only at a1 a2 a4 a5 alen ahas aw aperm aslim anodes
        have K : Bk.Sc W t T' F' S As cs ob gb kd cc nn yes er l A2 cap len nodes depth looked w6 := ⟨hbg6, hro6, hrow6, B11, G11⟩
        have p0 := K.p0
        have p1 := K.p1
        have p2 := K.p2
        have g0 := K.g0
        have g1 := K.g1
        have g2 := K.g2
        have HW := Lib.hid (And.intro hw8 (And.intro hfb' (And.intro alen (And.intro ahas (And.intro aw (And.intro aperm (And.intro aslim (And.intro anodes (And.intro acodes (And.intro hS hoff5))))))))))
        have HK := Lib.hid K
        have H1 := Lib.hid a1
        have H2 := Lib.hid a2
        have H4 := Lib.hid a4
        have H5 := Lib.hid a5
        clear a1 a2 a4 a5 alen ahas aw aperm aslim anodes acodes hS hoff5 hw8 hfb' B11 G11 hbg6 hro6 hrow6 HSay K
        have hwle : w ≤ 1024 := by omega
        go_upto_block 2 with fail
        go_cut [] (fun X => ∃ w7, w7 = X ∧ Bk.Sc W t T' F' S As cs ob gb kd cc nn yes er l A2 cap len nodes depth looked w7)
        case first =>
          by_cases k1 : kd = 1
          · have u2 : (kd == 1) = true := by simpa using k1
            have a1 := H1.out k1
            rw [HW.out.2.1] at a1
            have u3 : decide (C.length < S.length) = yes := a1.1.symm
            have u4 : (er == 0) = fb := a1.2
            clear a1 k1
            cases yes <;> cases fb
            all_goals
              go_wp2_with fail
              go_meet
              exact ⟨_, rfl, HK.out⟩
          have u1 : (kd == 1) = false := by simpa using k1
          by_cases k2 : kd = 2
          · have u2 : (kd == 2) = true := by simpa using k2
            have u3 : decide (S.length < C.length) = yes := (H2.out k2).symm
            clear k2
            cases yes
            all_goals
              go_wp2_with fail
              go_meet
              exact ⟨_, rfl, HK.out⟩
          have u2 : (kd == 2) = false := by simpa using k2
          by_cases k4 : kd = 4
          · have u4 : (kd == 4) = true := by simpa using k4
            have K4 := Lib.hid k4
            clear k4
            cases fb with
            | false =>
              go_upto_region 22 with fail
              go_quiet (fail)
              go_wp2_with fail
              go_meet
              exact ⟨_, rfl, HK.out.dn _⟩
            | true =>
              by_cases hn0 : 0 ≤ nn
              · have v1 : decide ((0 : Int) ≤ nn) = true := decide_eq_true hn0
                by_cases hnw : nn ≤ (w : Int)
                · obtain ⟨r, rfl⟩ : ∃ r : Nat, nn = (r : Int) := ⟨nn.toNat, by omega⟩
                  have hrw : r ≤ w := by omega
                  have v2 : decide (r ≤ w) = true := decide_eq_true hrw
                  have hSC : S = C := HW.out.2.2.2.2.2.2.2.2.2.1.symm.trans (Bk.setC_other k1 k2 _ _)
                  have hSl : S.length ≤ 4398046511103 := by rw [hSC]; omega
                  clear hSC
                  have hfit := of_decide_eq_true HW.out.2.1
                  obtain ⟨hl4, he4⟩ := H4.out K4.out r rfl hrw hfit
                  rw [Array.length_toList] at hfit
                  subst he4
                  have hcs : cc.size ≤ 128 := by have h2 : cc.size = w8 := hfit; omega
                  have hcl : ∀ c ∈ S, c.length = cc.size := fun c hc => (HW.out.2.2.2.2.2.2.2.2.1 c hc).trans hfit.symm
                  have hscan := fun X (K : Bk.Sc W t T' F' S As cs ob gb kd cc r yes 0 l A2 cap len nodes depth looked X) => Bk.scan_any K.row (by omega) cc hcs hcl r (by omega) K.bg.tab
                  have hsame := fun (X : World) (v : Value) (K : Bk.Sc W t T' F' S As cs ob gb kd cc r yes 0 l A2 cap len nodes depth looked X) (hv : X.ownsRow 0 36 3 v l.length (Bk.hcs l)) => Bk.same_eq K.hits hv (Nat.le_trans (by rw [hl4]; exact Bk.scan_len _ _ _) (by omega : S.length ≤ 4611686018427387903))
                  simp only [← hl4] at hscan
                  have K1 : Bk.Sc W t T' F' S As cs ob gb kd cc r yes 0 l A2 cap len nodes depth looked w6.drew := HK.out.dn 1
                  have S1 := K1.four
                  have S0 := HK.out.four
                  have HF := Lib.hid (And.intro hfit (And.intro hl4 hcl))
                  clear hfit hl4 hcl hn0 hnw
                  go_upto_region 22 with fail
                  go_region_held3 (fun W' => W'.cell? ⟨ob, 1, none⟩ = some (.string cc) ∧ W'.cell? ⟨ob, 2, none⟩ = some (.int .i64 r) ∧ W'.cell? ⟨gb, 1, none⟩ = some (.int .i64 0) ∧ W'.cell? ⟨gb, 2, none⟩ = some (.slice A2 l.length cap))
                    (first
                      | with_reducible assumption)
                    (first
                      | (go_at_call 19; refine (hscan _ (by with_reducible assumption)).mono ?_; rintro e wx ⟨v', rfl, hbx, hrx⟩; have K2 := K1.later hbx; have S2 := K2.four)
                      | (go_at_call 18; refine (hsame _ _ K2 hrx).mono ?_; rintro e wy ⟨rfl, ny, rfl⟩; have K3 := K2.dn ny; have S3 := K3.four))
                  all_goals
                    go_wp2_with fail
                    go_meet
                    exact ⟨_, rfl, K3⟩
                · have v2 : decide (nn ≤ (w : Int)) = false := decide_eq_false hnw
                  go_upto_region 22 with fail
                  go_quiet (fail)
                  go_wp2_with fail
                  go_meet
                  exact ⟨_, rfl, HK.out.dn _⟩
              · have v1 : decide ((0 : Int) ≤ nn) = false := decide_eq_false hn0
                go_upto_region 22 with fail
                go_quiet (fail)
                go_wp2_with fail
                go_meet
                exact ⟨_, rfl, HK.out.dn _⟩
          have u4 : (kd == 4) = false := by simpa using k4
          by_cases k5 : kd = 5
          · have u5 : (kd == 5) = true := by simpa using k5
            have K5 := Lib.hid k5
            clear k5
            cases fb with
            | false =>
              go_upto_region 25 with fail
              go_quiet (fail)
              go_wp2_with fail
              go_meet
              exact ⟨_, rfl, HK.out.dn _⟩
            | true =>
              by_cases hn0 : 0 ≤ nn
              · have v1 : decide ((0 : Int) ≤ nn) = true := decide_eq_true hn0
                by_cases hnw : nn ≤ 4096
                · obtain ⟨r, rfl⟩ : ∃ r : Nat, nn = (r : Int) := ⟨nn.toNat, by omega⟩
                  have hrw : r ≤ 4096 := by omega
                  have v2 : decide ((r : Int) ≤ 4096) = true := decide_eq_true hnw
                  have hSC : S = C := HW.out.2.2.2.2.2.2.2.2.2.1.symm.trans (Bk.setC_other k1 k2 _ _)
                  have hSl : S.length ≤ 4398046511103 := by rw [hSC]; omega
                  clear hSC
                  have hfit := of_decide_eq_true HW.out.2.1
                  obtain ⟨hl4, he4⟩ := H5.out K5.out r rfl hrw hfit
                  rw [Array.length_toList] at hfit
                  subst he4
                  have hcs : cc.size ≤ 128 := by have h2 : cc.size = w8 := hfit; omega
                  have hcl : ∀ c ∈ S, c.length = cc.size := fun c hc => (HW.out.2.2.2.2.2.2.2.2.1 c hc).trans hfit.symm
                  have hscan := fun X (K : Bk.Sc W t T' F' S As cs ob gb kd cc r yes 0 l A2 cap len nodes depth looked X) => Bk.scan_any K.row (by omega) cc hcs hcl w (by omega) K.bg.tab
                  have hso := Bk.sortH_sorted ((S.map (Bk.hitC cc.data.toList)).filter fun x => decide (x.d ≤ w))
                  have hln := Bk.scan_len S cc.data.toList w
                  have hfl := Bk.firstK_len (Bk.scanL S cc.data.toList w) r
                  rw [show Bk.sortH ((S.map (Bk.hitC cc.data.toList)).filter fun x => decide (x.d ≤ w)) = Bk.scanL S cc.data.toList w from rfl] at hso
                  rw [← hl4] at hfl
                  generalize Bk.scanL S cc.data.toList w = Z at *
                  have hfirst := fun (X : World) (v : Value) (hv : X.ownsRow 0 36 3 v Z.length (Bk.hcs Z)) => Bk.first_any hv hso (by omega) hrw
                  have hsame := fun (X : World) (v : Value) (K : Bk.Sc W t T' F' S As cs ob gb kd cc r yes 0 l A2 cap len nodes depth looked X) (hv : X.ownsRow 0 36 3 v l.length (Bk.hcs l)) => Bk.same_eq K.hits hv (by omega)
                  simp only [← hl4] at hfirst
                  have K1 : Bk.Sc W t T' F' S As cs ob gb kd cc r yes 0 l A2 cap len nodes depth looked w6.drew := HK.out.dn 1
                  have S1 := K1.four
                  have S0 := HK.out.four
                  have HF := Lib.hid (And.intro hfit (And.intro hl4 (And.intro hcl (And.intro hso (And.intro hln hfl)))))
                  clear hfit hl4 hcl hn0 hnw hso hln hfl
                  go_upto_region 25 with fail
                  go_region_held3 (fun W' => W'.cell? ⟨ob, 1, none⟩ = some (.string cc) ∧ W'.cell? ⟨ob, 2, none⟩ = some (.int .i64 r) ∧ W'.cell? ⟨gb, 1, none⟩ = some (.int .i64 0) ∧ W'.cell? ⟨gb, 2, none⟩ = some (.slice A2 l.length cap))
                    (first
                      | with_reducible assumption)
                    (first
                      | (go_at_call 19; refine (hscan _ (by with_reducible assumption)).mono ?_; rintro e wx ⟨v', rfl, hbx, hrx⟩; have K2 := K1.later hbx; have S2 := K2.four)
                      | (go_at_call 20; refine (hfirst _ _ hrx).mono ?_; rintro e wz ⟨v2, rfl, rfl, hry⟩)
                      | (go_at_call 18; refine (hsame _ _ K2 hry).mono ?_; rintro e wy ⟨rfl, ny, rfl⟩; have K3 := K2.dn ny; have S3 := K3.four))
                  all_goals
                    go_wp2_with fail
                    go_meet
                    exact ⟨_, rfl, K3⟩
                · have v2 : decide (nn ≤ 4096) = false := decide_eq_false hnw
                  go_upto_region 25 with fail
                  go_quiet (fail)
                  go_wp2_with fail
                  go_meet
                  exact ⟨_, rfl, HK.out.dn _⟩
              · have v1 : decide ((0 : Int) ≤ nn) = false := decide_eq_false hn0
                go_upto_region 25 with fail
                go_quiet (fail)
                go_wp2_with fail
                go_meet
                exact ⟨_, rfl, HK.out.dn _⟩
          have u5 : (kd == 5) = false := by simpa using k5
          go_wp2_with fail
          go_meet
          exact ⟨_, rfl, HK.out⟩
        case rest =>
          obtain ⟨w7, rfl, K⟩ := hcut
          have HA := Lib.hid (And.intro HW.out.2.2.1 (And.intro HW.out.2.2.2.1 HW.out.2.2.2.2.2.2.2.2.2.2))
          have hlen : ∀ n, Calls Tryd.prog 15 #[.pointer (some ⟨t, 0, none⟩)] (w7.drewN n) fun e W' => e = .returned (.int .i64 (S.length : Nat)) ∧ W' = w7.drewN n := fun n => by
            have := Bk.len_any (K.dn n).bg.tree.at'
            rw [HA.out.1] at this
            exact this.mono fun e W' h => ⟨h.1, h.2.symm⟩
          obtain ⟨hb, hhb⟩ : ∃ hb, decide (cc.data.toList ∈ S) = hb := ⟨_, rfl⟩
          have hhas : ∀ n, Calls Tryd.prog 12 #[.pointer (some ⟨t, 0, none⟩), .string cc] (w7.drewN n) fun e W' => e = .returned (.bool hb) ∧ W' = w7.drewN n := fun n => by
            have := Bk.has_any (K.dn n).bg.tree.at' cc (by omega)
            rw [HA.out.2.1, hhb] at this
            exact this.mono fun e W' h => ⟨h.1, h.2.symm⟩
          have hhold : ∀ n, Calls Tryd.prog 21 #[.slice As S.length cs, .string cc] (w7.drewN n) fun e W' => e = .returned (.bool hb) ∧ W' = w7.drewN n := fun n => by
            have := Bk.holds_any (K.dn n).row (by omega) cc
            rw [hhb] at this
            exact this.mono fun e W' h => ⟨h.1, h.2.symm⟩
          have p1 := K.p1
          have HK2 := Lib.hid K
          clear K hhb
          go_upto_region 27 with fail
          go_quiet (first | (go_at_call 15; exact Calls.quiet_of_same (hlen _)) | (go_at_call 12; exact Calls.quiet_of_same (hhas _)) | (go_at_call 21; exact Calls.quiet_of_same (hhold _)))
          go_wp2_with fail
          go_roundg (gk - 1)
          case measure => have := HX.out.2.1; omega
          case rel => exact ⟨k + 1, T', F', S, by have := HX.out.2.1; omega, congrArg (Value.int .i64) (by omega), (HK2.out.dn _).bg, HW.out.2.2.2.2.2.2.1, Nat.le_trans HW.out.2.2.2.2.2.2.2.1 (by omega), HW.out.2.2.2.2.1.trans HB.out.2.2.2.2.1, HW.out.2.2.2.2.2.1, (HK2.out.dn _).row, HA.out.2.2⟩
end Go.Proofs.YtikhahkmebkccaaDoor
