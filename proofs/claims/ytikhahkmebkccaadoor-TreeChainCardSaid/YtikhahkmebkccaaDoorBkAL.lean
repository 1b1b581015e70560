/- The law TreeChain. Conditions: each theorem's own hypotheses. -/
import Derived.Test.YtikhahkmebkccaaDoorBkAK
import Derived.Deep.RegionHeld3
namespace Go.Proofs.YtikhahkmebkccaaDoor
open Go.RowKit Go.Maps Go.Sort Go.Shelf
set_option linter.unusedVariables false
set_option linter.unusedSimpArgs false

/-- While the chain grows. -/
def Bk.C1 (W : World) (t w N : Nat) (m : Nat) (i : Value) (wr : World) : Prop :=
  ∃ (k : Nat) (F : Nat → Prop), m + k = N ∧ i = .int .i64 (k : Nat) ∧ Bk.Bg W t ⟨w, Bk.chain w k, 0⟩ F wr
/-- While codes are dropped. -/
def Bk.C2 (W : World) (t w N D : Nat) (m : Nat) (lv i : Value) (wr : World) : Prop :=
  ∃ (k : Nat) (T : Bk.T) (F : Nat → Prop), m + k = D ∧ i = .int .i64 (k : Nat) ∧ lv = .int .i64 (Bk.live T.l : Nat) ∧ Bk.Bg W t T F wr ∧ Bk.Ch w N T
theorem Bk.Ch.same {w n : Nat} {T T' : Bk.T} (h : Bk.Ch w n T) (hl : T'.l = T.l ∧ T'.w = T.w) : Bk.Ch w n T' := by
  obtain ⟨h1, h2⟩ := hl
  exact ⟨by rw [h1, h2]; exact h.good, by unfold Bk.Slim; rw [h1]; exact h.slim, h2.trans h.tw, by rw [h1]; exact h.mem, by rw [h1]; exact h.len⟩
theorem Bk.all_same {T T' : Bk.T} (hl : T'.l = T.l) (q : List UInt8) : Bk.all T' q = Bk.all T q := by unfold Bk.all; rw [hl]
theorem Bk.Bg.add {W w : World} {t : Nat} {T : Bk.T} {F : Nat → Prop} (h : Bk.Bg W t T F w) (hl : T.l.length ≤ 4398046511104) (c : List UInt8) (hc : c.length ≤ 9223372036854775807) :
    Calls Tryd.prog 8 #[.pointer (some ⟨t, 0, none⟩), Tx.v c] w fun e w' => e = .returned (.tuple #[.bool (Bk.add T c).2.1, .int .i64 (Bk.add T c).2.2]) ∧ ∃ F', Bk.Bg W t (Bk.add T c).1 F' w' := by
  obtain ⟨b, hb, hz⟩ := Tx.of c
  rw [Tx.v_eq hb]
  have hx := h.tree.add h.tab hl b (by omega)
  rw [hb] at hx
  exact hx.mono fun e w' hy => ⟨hy.1, h.led hy.2⟩
theorem Bk.Bg.drop {W w : World} {t : Nat} {T : Bk.T} {F : Nat → Prop} (h : Bk.Bg W t T F w) (hl : T.l.length ≤ 4398046511104) (c : List UInt8) (hc : c.length ≤ 9223372036854775807) :
    Calls Tryd.prog 11 #[.pointer (some ⟨t, 0, none⟩), Tx.v c] w fun e w' => e = .returned (.bool (Bk.drop T c).2) ∧ ∃ F', Bk.Bg W t (Bk.drop T c).1 F' w' := by
  obtain ⟨b, hb, hz⟩ := Tx.of c
  rw [Tx.v_eq hb]
  have hx := h.tree.drop h.tab hl b (by omega)
  rw [hb] at hx
  exact hx.mono fun e w' hy => ⟨hy.1, h.led hy.2⟩
theorem Bk.Bg.has {W w : World} {t : Nat} {T : Bk.T} {F : Nat → Prop} (h : Bk.Bg W t T F w) (c : List UInt8) (hc : c.length ≤ 9223372036854775807) :
    Calls Tryd.prog 12 #[.pointer (some ⟨t, 0, none⟩), Tx.v c] w fun e w' => e = .returned (.bool (Bk.has T c)) ∧ w = w' := by
  obtain ⟨b, hb, hz⟩ := Tx.of c
  rw [Tx.v_eq hb]
  have hx := Bk.has_any h.tree.at' b (by omega)
  rwa [hb] at hx
theorem Bk.Bg.within {W w : World} {t : Nat} {T : Bk.T} {F : Nat → Prop} (h : Bk.Bg W t T F w) (hl : T.l.length ≤ 4398046511104) (c : List UInt8) (hc : c.length ≤ 9223372036854775807) (n : Int) {R : List Bk.H} {er : Int} (hr : (Bk.within T c n).2 = (R, er)) :
    Calls Tryd.prog 13 #[.pointer (some ⟨t, 0, none⟩), Tx.v c, .int .i64 n] w fun e w' => ∃ v, e = .returned (.tuple #[v, .int .i64 er]) ∧ Bk.Bg W t (Bk.within T c n).1 F w' ∧ w'.ownsRow 0 36 3 v R.length (Bk.hcs R) ∧ (∀ k, v.ownBlock = some k → ¬ F k) ∧ Bk.Only F w w' := by
  obtain ⟨b, hb, hz⟩ := Tx.of c
  rw [Tx.v_eq hb]
  have hx := h.tree.within h.tab hl b (by omega) n
  rw [hb, hr] at hx
  exact hx.mono fun e w' ⟨v, h1, h2, h3, h4, h5⟩ => ⟨v, h1, h.sought h3 h4 h5, Bk.own_base h2 (Nat.zero_le _), fun k hk hf => by have := (h2.lt k hk).1; have := h.tree.at'.lt hf; omega, h4⟩
theorem Bk.Bg.nearest {W w : World} {t : Nat} {T : Bk.T} {F : Nat → Prop} (h : Bk.Bg W t T F w) (hl : T.l.length ≤ 4398046511104) (c : List UInt8) (hc : c.length ≤ 9223372036854775807) (n : Int) {R : List Bk.H} {er : Int} (hr : (Bk.nearest T c n).2 = (R, er)) :
    Calls Tryd.prog 14 #[.pointer (some ⟨t, 0, none⟩), Tx.v c, .int .i64 n] w fun e w' => ∃ v, e = .returned (.tuple #[v, .int .i64 er]) ∧ Bk.Bg W t (Bk.nearest T c n).1 F w' ∧ w'.ownsRow 0 36 3 v R.length (Bk.hcs R) ∧ Bk.Only F w w' := by
  obtain ⟨b, hb, hz⟩ := Tx.of c
  rw [Tx.v_eq hb]
  have hx := h.tree.nearest h.tab hl b (by omega) n
  rw [hb, hr] at hx
  exact hx.mono fun e w' ⟨v, h1, h2, h3, h4, h5⟩ => ⟨v, h1, h.sought h3 h4 h5, Bk.own_base h2 (Nat.zero_le _), h4⟩
/-- The two cells that the end looks at. -/
structure Bk.E2 (a b : Nat) (x : Value) (w : World) : Prop where
  a0 : w.cell? ⟨a, 0, none⟩ = some (.int .i64 0)
  b2 : w.cell? ⟨b, 2, none⟩ = some x
theorem Bk.E2.later {a b : Nat} {x : Value} {w w' : World} (h : Bk.E2 a b x w) (hb : Below w.heap.size w w') : Bk.E2 a b x w' :=
  ⟨(hb.cell (World.block_lt_of_cell? w _ h.a0)).trans h.a0, (hb.cell (World.block_lt_of_cell? w _ h.b2)).trans h.b2⟩
theorem Bk.cc_later {W w w' : World} {p q : Addr} {x y : Value} (h : w.cell? p = some x ∧ w.cell? q = some y ∧ Below W.heap.size W w) (hb : Below w.heap.size w w') : w'.cell? p = some x ∧ w'.cell? q = some y ∧ Below W.heap.size W w' :=
  ⟨(hb.cell (World.block_lt_of_cell? w _ h.1)).trans h.1, (hb.cell (World.block_lt_of_cell? w _ h.2.1)).trans h.2.1, h.2.2.trans (hb.mono h.2.2.size)⟩
theorem Bk.row_cons {w : World} {B : Nat} {v : Value} {x : Bk.H} {R : List Bk.H} (h : w.ownsRow B 36 3 v (x :: R).length (Bk.hcs (x :: R))) :
    ∃ g cap, v = .slice (some ⟨g, 0, none⟩) (x :: R).length cap ∧ (x :: R).length ≤ cap ∧ cap ≤ maxLen ∧ w.cell? ⟨g, 0, none⟩ = some (.int .i64 (x.d : Nat)) ∧ w.cell? ⟨g, 2, none⟩ = some (Tx.v x.c) := by
  rcases h.2 with ⟨h', h0⟩ | ⟨g, cap', cur, h', hb, hg, h1, h2, _⟩
  · cases h0
  · subst h'
    obtain ⟨a0, a1, a2⟩ := Bk.row3 (C := x :: R) h (j := 0) rfl
    exact ⟨g, cap', rfl, h1, h2, a0, a2⟩
set_option maxRecDepth 100000 in
set_option maxHeartbeats 8000000 in
theorem Bk.chain_law (w0 n0 : Int) (L : List Int) (A : Option Addr) (c : Nat) (q0 : Int) (W : World) (hI : Bk.Ints W W.heap.size A L) (hn : L.length ≤ 17592186044416) (hT : TabO W) :
    Calls Tryd.prog 3 #[.int .i64 w0, .int .i64 n0, .slice A L.length c, .int .i64 q0] W fun e W' => e = .returned (.bool true) ∧ Below W.heap.size W W' := by
  have hbeg := Bk.begun_any hT
  cases hw : Bt.wide w0 with
  | false =>
    have hnew := fun W' => Bk.new_none w0 hw W'
    go_enter Tryd.func3, Tryd.ntmps3
    go_wp2_with (first | (go_at_call 6; refine hbeg.mono ?_; clear hbeg; rintro e w1 ⟨rfl, hb1⟩) | (go_at_call 7; refine (hnew _).mono ?_; clear hnew; rintro e w2 ⟨rfl, rfl⟩))
    go_ret
    exact ⟨rfl, hb1⟩
  | true =>
    obtain ⟨w, rfl⟩ : ∃ w : Nat, w0 = (w : Int) := ⟨w0.toNat, by have := Bt.wide_in hw; omega⟩
    have hwl := Bt.wide_in hw
    have hnew := fun W' hT' => Bk.new_tree w hw W' hT'
    go_enter Tryd.func3, Tryd.ntmps3
    go_upto_region 5 with (first | (go_at_call 6; refine hbeg.mono ?_; clear hbeg; rintro e w1 ⟨rfl, hb1⟩) | (go_at_call 7; refine (hnew _ (hT.below hb1 (Nat.le_refl _))).mono ?_; clear hnew; rintro e w2 ⟨t, F0, rfl, h1, h2, h3, h4⟩))
    have hst : Bk.Bg W t ⟨w, [], 0⟩ F0 w2 := ⟨h1, h4, hb1.trans (h2.mono hb1.size), fun k hk => Nat.le_trans hb1.size (h3 k hk)⟩
    have HS := Lib.hid hst
    clear hst h1 h2 h3 h4 hb1 hT
    go_cut [38] (fun v X => ∃ q : Bool, v = .bool q ∧ (q = false → 1 ≤ n0 ∧ n0 ≤ (w : Int)) ∧ w2 = X)
    case first =>
      by_cases c1 : n0 < 1
      · go_wp2_with fail
        go_meet
        exact ⟨true, rfl, (fun h => by cases h), rfl⟩
      · by_cases c2 : (w : Int) < n0
        · go_wp2_with fail
          go_meet
          exact ⟨true, rfl, (fun h => by cases h), rfl⟩
        · go_wp2_with fail
          go_meet
          exact ⟨false, rfl, (fun h => by omega), rfl⟩
    case rest =>
    obtain ⟨qn, rfl, hqn, rfl⟩ := hcut
    go_upto_if 38 with fail
    go_cut [1] (fun v X => ∃ N : Nat, v = .int .i64 (N : Nat) ∧ 1 ≤ N ∧ N ≤ w ∧ w2 = X)
    case first =>
      cases qn with
      | true =>
        go_wp2_with fail
        go_meet
        exact ⟨w, rfl, by omega, Nat.le_refl _, rfl⟩
      | false =>
        have hq := hqn rfl
        clear hqn
        go_wp2_with fail
        go_meet
        exact ⟨n0.toNat, congrArg (Value.int .i64) (by omega), by omega, by omega, rfl⟩
    case rest =>
    obtain ⟨N, rfl, hN1, hNw, rfl⟩ := hcut
    clear hqn
    have h8 : w % 8 = 0 := by omega
    have hw1024 : w ≤ 1024 := by omega
    clear hwl hw
    go_upto_region 8 with fail
    have HS1 := Lib.hid (show Bk.C1 W t w N N (.int .i64 ((0 : Nat) : Int)) w2 from ⟨0, F0, by omega, rfl, HS.out⟩)
    clear HS
    go_loopg [11] N (fun m i wr => Bk.C1 W t w N m i wr)
    case atStart => exact HS1.out
    case round =>
      clear HS1 F0 w2
      obtain ⟨k, F, hmk, rfl, hbg⟩ := hrel
      by_cases hkn : k = N
      · have u1 : decide (k < N) = false := decide_eq_false (by omega)
        go_upto_region 15 with fail
        subst hkn
        have HS2 := Lib.hid (show Bk.C2 W t w k L.length L.length (.int .i64 (k : Nat)) (.int .i64 ((0 : Nat) : Int)) wr from ⟨0, ⟨w, Bk.chain w k, 0⟩, F, by omega, rfl, congrArg (fun z : Nat => Value.int .i64 (z : Int)) (Bk.chain_live w k).symm, hbg, Bk.Ch.start h8 hNw hw1024⟩)
        clear hbg hmk u1
        generalize k = N at *
        go_loopg [14, 15] L.length (fun m lv i wr => Bk.C2 W t w N L.length m lv i wr)
        case atStart => exact HS2.out
        case round =>
          clear HS2
          obtain ⟨k, T, F, hmk, rfl, rfl, hbg, hch⟩ := hrel
          by_cases hkn : k = L.length
          · have u1 : decide (k < L.length) = false := decide_eq_false (by omega)
            clear hkn hmk
            go_upto_region 20 with fail
            go_cut [99] (fun v X => ∃ q : Bool, v = .bool q ∧ (q = false → 0 ≤ q0 ∧ q0 < (N : Int)) ∧ wr = X)
            case first =>
              by_cases c1 : q0 < 0
              · go_wp2_with fail
                go_meet
                exact ⟨true, rfl, (fun h => by cases h), rfl⟩
              · by_cases c2 : (N : Int) ≤ q0
                · go_wp2_with fail
                  go_meet
                  exact ⟨true, rfl, (fun h => by cases h), rfl⟩
                · go_wp2_with fail
                  go_meet
                  exact ⟨false, rfl, (fun h => by omega), rfl⟩
            case rest =>
            obtain ⟨qn, rfl, hqn, rfl⟩ := hcut
            go_upto_if 99 with fail
            go_cut [3] (fun v X => ∃ q : Nat, v = .int .i64 (q : Nat) ∧ q < N ∧ wr = X)
            case first =>
              cases qn with
              | true =>
                go_wp2_with fail
                go_meet
                exact ⟨0, rfl, by omega, rfl⟩
              | false =>
                have hq := hqn rfl
                clear hqn
                go_wp2_with fail
                go_meet
                exact ⟨q0.toNat, congrArg (Value.int .i64) (by omega), by omega, rfl⟩
            case rest =>
            clear hqn
            obtain ⟨q, rfl, hqN, rfl⟩ := hcut
            clear u1
            have hTl : T.l.length ≤ 4398046511104 := by have := hch.len; omega
            have hbl : (Bk.bitC w q).length ≤ 9223372036854775807 := by rw [Bk.bitC_len]; omega
            have m1 := hch.within (q := q) h8 hNw hqN
            have s1 := Bk.within_l T (Bk.bitC w q) 2
            have hch1 := hch.same s1
            have m2 := hch1.nearest (q := q)
            have s2 := Bk.nearest_l (Bk.within T (Bk.bitC w q) 2).1 (Bk.bitC w q) 1
            rw [Bk.all_same s1.1] at m2
            have hal := Bk.all_len T (Bk.bitC w q)
            have hhas := hch.good.has_is (Bk.bitC w q)
            have hfst := hch.first (q := q) h8 hNw hqN
            have z1 := s1.1
            have z2 : (Bk.nearest (Bk.within T (Bk.bitC w q) 2).1 (Bk.bitC w q) 1).1.l = T.l := s2.1.trans s1.1
            have kh : ∀ X, Bk.Bg W t T F X → Calls Tryd.prog 12 #[.pointer (some ⟨t, 0, none⟩), Tx.v (Bk.bitC w q)] X fun e w' => e = .returned (.bool (Bk.has T (Bk.bitC w q))) ∧ X = w' := fun X h => h.has _ hbl
            have kw := fun X (h : Bk.Bg W t T F X) => h.within hTl _ hbl 2 m1
            have hT1 : (Bk.within T (Bk.bitC w q) 2).1.l.length ≤ 4398046511104 := by rw [z1]; exact hTl
            generalize (Bk.within T (Bk.bitC w q) 2).1 = T1 at *
            have kn := fun X (h : Bk.Bg W t T1 F X) => h.nearest hT1 _ hbl 1 m2
            generalize (Bk.nearest T1 (Bk.bitC w q) 1).1 = T2 at *
            generalize Bk.all T (Bk.bitC w q) = S at *
            obtain ⟨lv, hlv⟩ : ∃ lv, Bk.live T.l = lv := ⟨_, rfl⟩
            obtain ⟨hv, hhv⟩ : ∃ hv, Bk.has T (Bk.bitC w q) = hv := ⟨_, rfl⟩
            have hbit := fun X => Bk.bit_any (i := q) hw1024 h8 (by omega) X
            obtain ⟨bq, hbq, _⟩ := Tx.of (Bk.bitC w q)
            rw [hlv] at hal ⊢
            rw [hhv] at hhas
            simp only [hhv] at kh
            have e1 := Tx.v_eq hbq
            simp only [e1] at kh kw kn hbit
            have HE := Lib.hid (And.intro hhas (And.intro hfst (And.intro hlv (And.intro z2 (And.intro hal e1)))))
            clear hhas hfst hlv hal z1 z2 s1 s2 hch hch1 m1 m2 hTl hbl hT1 e1 hbq hhv
            go_upto_region 23 with (first | (go_at_call 9; refine (hbit _).mono ?_; rintro e wx ⟨rfl, hbx⟩; have hbg1 := hbg.later hbx) | (go_at_call 12; refine (kh _ hbg1).mono ?_; clear kh; rintro e wy ⟨rfl, rfl⟩))
            clear hbg hbx
            go_upto_region 24 with (first | (go_at_call 9; refine (hbit _).mono ?_; rintro e wa ⟨rfl, hba⟩; have hbg2 := hbg1.later hba) | (go_at_call 13; refine (kw _ hbg2).mono ?_; clear kw; rintro e wb ⟨v1, rfl, hbg3, hr1, ho1, _⟩; obtain ⟨A1, cp1, rfl⟩ := Bk.row_form hr1))
            clear hbg1 hbg2 hba
            go_upto_region 25 with (first | (go_at_call 9; refine (hbit _).mono ?_; rintro e wc ⟨rfl, hbc⟩; have hbg4 := hbg3.later hbc; have hr2 := Bk.own_later hr1 hbc (Nat.le_refl _); clear hr1) | (go_at_call 14; refine (kn _ hbg4).mono ?_; clear kn; rintro e wd ⟨v2, rfl, hbg5, hr3, hon⟩; have hr4 := Bk.own_of hr2 (fun j hj => hon.block j (hr2.lt j hj).2 (ho1 j hj)); clear hr2; obtain ⟨A2, cp2, rfl⟩ := Bk.row_form hr3))
            clear hbg3 hbg4 hbc ho1 hon
            have hln : Calls Tryd.prog 15 #[.pointer (some ⟨t, 0, none⟩)] wd fun e W' => e = .returned (.int .i64 (lv : Nat)) ∧ wd = W' := by
              have := Bk.len_any hbg5.tree.at'
              rw [HE.out.2.2.2.1, HE.out.2.2.1] at this
              exact this
            cases hv with
            | false =>
              have HB := Lib.hid hbg5.bel
              have hal := HE.out.2.2.2.2.1
              clear hbg5 hr3 hr4
              go_upto_region 27 with (go_at_call 15; refine hln.mono ?_; clear hln; rintro e we ⟨rfl, rfl⟩)
              go_quiet (fail)
              go_wp2_with fail
              go_ret
              exact ⟨rfl, below_dn HB.out _⟩
            | true =>
              obtain ⟨R, hR, hF⟩ := HE.out.2.1 (of_decide_eq_true HE.out.1.symm)
              have hlen := HE.out.2.2.2.2.1
              have e1 := HE.out.2.2.2.2.2
              rw [hF] at hr3 ⊢
              rw [hR] at hr4 hlen ⊢
              obtain ⟨g1, c1, hA1, n1, n2, -, x2⟩ := Bk.row_cons hr4
              obtain ⟨g2, c2, hA2, n3, n4, y0, -⟩ := Bk.row_cons hr3
              rw [Value.slice.injEq] at hA1 hA2
              obtain ⟨rfl, -, rfl⟩ := hA1
              obtain ⟨rfl, -, rfl⟩ := hA2
              rw [show (⟨0, Bk.bitC w q⟩ : Bk.H).c = Bk.bitC w q from rfl, e1] at x2
              rw [show (((⟨0, Bk.bitC w q⟩ : Bk.H).d : Nat) : Int) = 0 from rfl] at y0
              rw [hlen] at n1 ⊢
              have hl1 : 1 ≤ lv := by rw [← hlen]; simp
              have hl2 : 0 < lv := hl1
              have hl3 : (0 : Int) < (lv : Int) := by omega
              have HB := Lib.hid hbg5.bel
              have E := (show Bk.E2 g2 g1 (.string bq) wd from ⟨y0, x2⟩)
              clear hbg5 hr3 hr4 hlen e1 hR hF
              rw [show ([(⟨0, Bk.bitC w q⟩ : Bk.H)]).length = 1 from rfl] at n3 ⊢
              go_upto_region 27 with (go_at_call 15; refine hln.mono ?_; clear hln; rintro e we ⟨rfl, rfl⟩)
              have S0 : wd.cell? ⟨g2, 0, none⟩ = some (.int .i64 0) ∧ wd.cell? ⟨g1, 2, none⟩ = some (.string bq) ∧ Below W.heap.size W wd := ⟨E.a0, E.b2, HB.out⟩
              have S1 : wd.drew.cell? ⟨g2, 0, none⟩ = some (.int .i64 0) ∧ wd.drew.cell? ⟨g1, 2, none⟩ = some (.string bq) ∧ Below W.heap.size W wd.drew := ⟨E.a0, E.b2, below_dn HB.out 1⟩
              go_region_held3 (fun W' => W'.cell? ⟨g2, 0, none⟩ = some (.int .i64 0) ∧ W'.cell? ⟨g1, 2, none⟩ = some (.string bq) ∧ Below W.heap.size W W')
                (first
                  | with_reducible assumption)
                (first
                  | (go_at_call 9; refine (hbit _).mono ?_; rintro e wx2 ⟨rfl, hbx2⟩; have S2 := Bk.cc_later (by with_reducible assumption) hbx2))
              all_goals
                go_wp2_with fail
                go_ret
                exact ⟨rfl, S2.2.2⟩
          · have u1 : decide (k < L.length) = true := decide_eq_true (by omega)
            obtain ⟨z, hz⟩ : ∃ z, L[k]? = some z := ⟨_, List.getElem?_eq_getElem (by omega)⟩
            obtain ⟨b, off, rfl, hb, hcells⟩ := hI (by omega)
            have q0' := (hbg.bel.cell (p := ⟨b, off + k, none⟩) hb).trans (hcells k z hz)
            have hkl : k < L.length := by omega
            have HX := Lib.hid (And.intro hz (And.intro hcells hmk))
            clear hz hcells
            by_cases c1 : 0 ≤ z
            · by_cases c2 : z < (N : Int)
              · obtain ⟨j, rfl⟩ : ∃ j : Nat, z = (j : Int) := ⟨z.toNat, by omega⟩
                have v1 : decide ((0 : Int) ≤ (j : Int)) = true := decide_eq_true c1
                have v2 : decide (j < N) = true := decide_eq_true (by omega)
                obtain ⟨hch', hlv⟩ := hch.drop (Bk.bitC w j)
                obtain ⟨cv, hcv⟩ : ∃ cv, Tx.v (Bk.bitC w j) = cv := ⟨_, rfl⟩
                have hbit := fun X => Bk.bit_any (i := j) hw1024 h8 (by omega) X
                simp only [hcv] at hbit
                have hdr := fun X (h : Bk.Bg W t T F X) => h.drop (by have := hch.len; omega) (Bk.bitC w j) (by rw [Bk.bitC_len]; omega)
                simp only [hcv] at hdr
                generalize Bk.drop T (Bk.bitC w j) = R at *
                obtain ⟨T', yes⟩ := R
                simp only at hch' hlv hdr
                have hl0 := Bk.live_le T.l
                have hl1 := hch.len
                have HC := Lib.hid (And.intro hch' (And.intro hch (And.intro hcv (And.intro c1 c2))))
                clear hch' hch hcv c1 c2
                obtain ⟨lv, hlv0⟩ : ∃ lv, Bk.live T.l = lv := ⟨_, rfl⟩
                obtain ⟨lv', hlv1⟩ : ∃ lv', Bk.live T'.l = lv' := ⟨_, rfl⟩
                rw [hlv0] at hlv hl0 ⊢
                rw [hlv1] at hlv
                have HL := Lib.hid (And.intro hlv0 hlv1)
                clear hlv0 hlv1
                cases yes with
                | true =>
                  have e1 : (lv : Int) - 1 = (lv' : Int) := by rw [if_pos rfl] at hlv; omega
                  have HL2 := Lib.hid hlv
                  clear hlv
                  go_wp2_with (first | (go_at_call 9; refine (hbit _).mono ?_; clear hbit; rintro e wx ⟨rfl, hbx⟩; have hbg1 := hbg.later hbx) | (go_at_call 11; refine (hdr _ hbg1).mono ?_; clear hdr; rintro e wy ⟨rfl, F', hbg2⟩))
                  go_roundg (gk - 1)
                  case measure => omega
                  case rel => exact ⟨k + 1, T', F', by have := HX.out.2.2; omega, congrArg (Value.int .i64) (by omega), by rw [HL.out.2], hbg2, HC.out.1⟩
                | false =>
                  have e1 : lv = lv' := by rw [if_neg (by decide)] at hlv; omega
                  subst e1
                  clear hlv
                  go_wp2_with (first | (go_at_call 9; refine (hbit _).mono ?_; clear hbit; rintro e wx ⟨rfl, hbx⟩; have hbg1 := hbg.later hbx) | (go_at_call 11; refine (hdr _ hbg1).mono ?_; clear hdr; rintro e wy ⟨rfl, F', hbg2⟩))
                  go_roundg (gk - 1)
                  case measure => omega
                  case rel => exact ⟨k + 1, T', F', by have := HX.out.2.2; omega, congrArg (Value.int .i64) (by omega), by rw [HL.out.2], hbg2, HC.out.1⟩
              · have v1 : decide ((0 : Int) ≤ z) = true := decide_eq_true c1
                have v2 : decide (z < (N : Int)) = false := decide_eq_false c2
                go_wp2_with fail
                go_roundg (gk - 1)
                case measure => omega
                case rel => exact ⟨k + 1, T, F, by have := HX.out.2.2; omega, congrArg (Value.int .i64) (by omega), rfl, hbg, hch⟩
            · have v1 : decide ((0 : Int) ≤ z) = false := decide_eq_false c1
              go_wp2_with fail
              go_roundg (gk - 1)
              case measure => omega
              case rel => exact ⟨k + 1, T, F, by have := HX.out.2.2; omega, congrArg (Value.int .i64) (by omega), rfl, hbg, hch⟩
      · have u1 : decide (k < N) = true := decide_eq_true (by omega)
        have had := Bk.chain_add (s := 0) h8 (Bk.chain_good h8 k (by omega)) (show k < w by omega)
        obtain ⟨cv, hcv⟩ : ∃ cv, Tx.v (Bk.bitC w k) = cv := ⟨_, rfl⟩
        have hbit := fun X => Bk.bit_any (i := k) hw1024 h8 (by omega) X
        simp only [hcv] at hbit
        have hadd : ∀ X, Bk.Bg W t ⟨w, Bk.chain w k, 0⟩ F X → Calls Tryd.prog 8 #[.pointer (some ⟨t, 0, none⟩), cv] X fun e w' => e = .returned (.tuple #[.bool true, .int .i64 0]) ∧ ∃ F', Bk.Bg W t ⟨w, Bk.chain w (k + 1), 0⟩ F' w' := fun X h => by
          have hx := h.add (by show (Bk.chain w k).length ≤ _; rw [Bk.chain_len]; omega) (Bk.bitC w k) (by rw [Bk.bitC_len]; omega)
          rw [had, hcv] at hx
          exact hx
        have HH := Lib.hid (And.intro had hcv)
        clear had hcv
        go_upto_region 11 with (first | (go_at_call 9; refine (hbit _).mono ?_; clear hbit; rintro e wx ⟨rfl, hbx⟩; have hbg1 := hbg.later hbx) | (go_at_call 8; refine (hadd _ hbg1).mono ?_; clear hadd; rintro e wy ⟨rfl, F', hbg2⟩))
        have hd : Calls Tryd.prog 10 #[.pointer (some ⟨t, 0, none⟩)] wy fun e W' => e = .returned (.int .i64 ((k + 1 : Nat) : Int)) ∧ wy = W' := by
          have := Bk.depth_any hbg2.tree.at'
          rw [show Bk.depth (Bk.os (⟨w, Bk.chain w (k + 1), 0⟩ : Bk.T).l) = k + 1 from Bk.chain_depth w (k + 1)] at this
          exact this
        obtain ⟨k1, hk1⟩ : ∃ k1, k + 1 = k1 := ⟨_, rfl⟩
        have e1 : (k : Int) + 1 = (k1 : Int) := by omega
        rw [hk1] at hd hbg2
        have HG := Lib.hid (And.intro hbg2 hk1)
        clear hbg hbg1 hbg2 hk1
        go_wp2_with (go_at_call 10; refine hd.mono ?_; clear hd; rintro e wz ⟨rfl, rfl⟩)
        go_roundg (gk - 1)
        case measure => omega
        case rel => exact ⟨k1, F', by have := HG.out.2; omega, rfl, HG.out.1⟩
end Go.Proofs.YtikhahkmebkccaaDoor
