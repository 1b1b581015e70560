/- The law TreeTwo. Conditions: each theorem's own hypotheses. -/
import Derived.Test.YtikhahkmebkccaaGreatDoorBrN
namespace Go.Proofs.YtikhahkmebkccaaGreatDoor
open Go.RowKit Go.Maps Go.Sort Go.Shelf
set_option linter.unusedVariables false
set_option linter.unusedSimpArgs false

theorem Br.Ex.apart {W X X' : World} {t d : Nat} {T : Bk.T} {F G H : Nat → Prop} (h : Br.Ex W t d T F G X) (ho : Bk.Only H X X') (hs : ∀ j, F j ∨ G j → ¬ H j) (hb : Below W.heap.size W X') : Br.Ex W t d T F G X' :=
  ⟨h.bk.keep fun k hk => ho.block k (h.bk.at'.lt hk) (hs k (.inl hk)), h.br.keep fun k hk => ho.block k (h.br.at'.lt hk) (hs k (.inr hk)), hb, h.fge, h.gge, h.dis⟩
theorem Br.Ex.lt {W X : World} {t d : Nat} {T : Bk.T} {F G : Nat → Prop} (h : Br.Ex W t d T F G X) {k : Nat} (hk : F k ∨ G k) : k < X.heap.size := hk.elim h.bk.at'.lt h.br.at'.lt
/-- Two such pairs side by side. -/
structure Br.Tw (W : World) (a c b d : Nat) (T1 T2 : Bk.T) (F1 G1 F2 G2 : Nat → Prop) (X : World) : Prop where
  one : Br.Ex W a c T1 F1 G1 X
  two : Br.Ex W b d T2 F2 G2 X
  sep : ∀ j, F1 j ∨ G1 j → ¬ (F2 j ∨ G2 j)
section
variable {W X X1 X2 : World} {a b c d : Nat} {T1 T2 T' : Bk.T} {F1 F2 F' G1 G2 G' : Nat → Prop}
theorem Br.Tw.later (h : Br.Tw W a c b d T1 T2 F1 G1 F2 G2 X) (hb : Below X.heap.size X X1) : Br.Tw W a c b d T1 T2 F1 G1 F2 G2 X1 := ⟨h.one.later hb, h.two.later hb, h.sep⟩
theorem Br.Tw.dn (h : Br.Tw W a c b d T1 T2 F1 G1 F2 G2 X) (n : Nat) : Br.Tw W a c b d T1 T2 F1 G1 F2 G2 (X.drewN n) := h.later (below_dn (Below.refl _ X) n)
theorem Br.Tw.swap (h : Br.Tw W a c b d T1 T2 F1 G1 F2 G2 X) : Br.Tw W b d a c T2 T1 F2 G2 F1 G1 X := ⟨h.two, h.one, fun j hj hk => h.sep j hk hj⟩
theorem Br.Tw.step (h : Br.Tw W a c b d T1 T2 F1 G1 F2 G2 X) (h1 : Br.Ex W a c T' F' G' X2 ∧ Bk.Only (fun k => F1 k ∨ G1 k) X X2 ∧ (∀ k, F' k ∨ G' k → (F1 k ∨ G1 k) ∨ X.heap.size ≤ k)) : Br.Tw W a c b d T' T2 F' G' F2 G2 X2 :=
  ⟨h1.1, h.two.apart h1.2.1 (fun j hj hk => h.sep j hk hj) h1.1.bel, fun j hj hk => (h1.2.2 j hj).elim (fun e => h.sep j e hk) fun e => by have := h.two.lt hk; omega⟩
end
/-- Between two rounds of TreeTwo. -/
def Br.TR (W : World) (a c b d N M : Nat) (m : Nat) (i : Value) (wr : World) : Prop :=
  ∃ (k : Nat) (T1 T2 : Bk.T) (F1 G1 F2 G2 : Nat → Prop), m + k = max N M ∧ i = .int .i64 (k : Nat) ∧ Br.Tw W a c b d T1 T2 F1 G1 F2 G2 wr ∧ (Bk.Slim T1 ∧ Bk.Slim T2) ∧ (T1.l.length ≤ k ∧ T1.l.length ≤ N) ∧ (T2.l.length ≤ k ∧ T2.l.length ≤ M)
set_option maxRecDepth 100000 in
set_option maxHeartbeats 16000000 in
theorem Br.two_law (w0 v0 : Int) (L : List Bk.O) (A : Option Addr) (cp : Nat) (L' : List Bk.O) (A' : Option Addr) (cp' : Nat) (W : World) (hI : Bk.Ops W W.heap.size A L) (hn : L.length ≤ 4398046511104) (hs : ∀ x ∈ L, x.c.size ≤ 140737488355328) (hI' : Bk.Ops W W.heap.size A' L') (hn' : L'.length ≤ 4398046511104) (hs' : ∀ x ∈ L', x.c.size ≤ 140737488355328) (hT : TabO W) :
    Calls Tryz.prog 4 #[.int .i64 w0, .int .i64 v0, .slice A L.length cp, .slice A' L'.length cp'] W fun e W' => e = .returned (.bool true) ∧ Below W.heap.size W W' := by
  cases hw : Bt.wide w0 with
  | false =>
    have h1 := fun X => Bk.new_none w0 hw X
    have h2 := fun X => Br.new_none w0 hw X
    cases hv : Bt.wide v0 with
    | false =>
      have h3 := fun X => Bk.new_none v0 hv X
      have h4 := fun X => Br.new_none v0 hv X
      go_enter Tryz.func4, Tryz.ntmps4
      go_wp2_with (first | (go_at_call 6; refine (h1 _).mono ?_; clear h1; rintro e w2 ⟨rfl, rfl⟩) | (go_at_call 6; refine (h3 _).mono ?_; clear h3; rintro e w2 ⟨rfl, rfl⟩) | (go_at_call 7; refine (h2 _).mono ?_; clear h2; rintro e w2 ⟨rfl, rfl⟩) | (go_at_call 7; refine (h4 _).mono ?_; clear h4; rintro e w2 ⟨rfl, rfl⟩))
      go_ret
      exact ⟨rfl, Below.refl _ _⟩
    | true =>
      obtain ⟨v, rfl⟩ : ∃ v : Nat, v0 = (v : Int) := ⟨v0.toNat, by have := Bt.wide_in hv; omega⟩
      have h3 := Bk.new_tree v hv W hT
      have h4 := fun X => Br.new_any v hv X
      go_enter Tryz.func4, Tryz.ntmps4
      go_wp2_with (first | (go_at_call 6; refine (h1 _).mono ?_; clear h1; rintro e w2 ⟨rfl, rfl⟩) | (go_at_call 6; refine h3.mono ?_; clear h3; rintro e w3 ⟨t, F0, rfl, a1, a2, a3, a4⟩) | (go_at_call 7; refine (h2 _).mono ?_; clear h2; rintro e w4 ⟨rfl, rfl⟩) | (go_at_call 7; refine (h4 _).mono ?_; clear h4; rintro e w5 ⟨d, G0, rfl, b1, b2, b3⟩))
      go_ret
      exact ⟨rfl, a2.trans (b2.mono a2.size)⟩
  | true =>
    obtain ⟨w, rfl⟩ : ∃ w : Nat, w0 = (w : Int) := ⟨w0.toNat, by have := Bt.wide_in hw; omega⟩
    have h1 := Bk.new_tree w hw W hT
    have h2 := fun X => Br.new_any w hw X
    cases hv : Bt.wide v0 with
    | false =>
      have h3 := fun X => Bk.new_none v0 hv X
      have h4 := fun X => Br.new_none v0 hv X
      go_enter Tryz.func4, Tryz.ntmps4
      go_wp2_with (first | (go_at_call 6; refine h1.mono ?_; clear h1; rintro e w3 ⟨t, F0, rfl, a1, a2, a3, a4⟩) | (go_at_call 6; refine (h3 _).mono ?_; clear h3; rintro e w2 ⟨rfl, rfl⟩) | (go_at_call 7; refine (h2 _).mono ?_; clear h2; rintro e w5 ⟨d, G0, rfl, b1, b2, b3⟩) | (go_at_call 7; refine (h4 _).mono ?_; clear h4; rintro e w4 ⟨rfl, rfl⟩))
      go_ret
      exact ⟨rfl, a2.trans (b2.mono a2.size)⟩
    | true =>
      obtain ⟨v, rfl⟩ : ∃ v : Nat, v0 = (v : Int) := ⟨v0.toNat, by have := Bt.wide_in hv; omega⟩
      have h3 := fun X hX => Bk.new_tree v hv X hX
      have h4 := fun X => Br.new_any v hv X
      go_enter Tryz.func4, Tryz.ntmps4
      go_upto_region 5 with (first | (go_at_call 6; refine h1.mono ?_; clear h1; rintro e w1 ⟨a, F1, rfl, a1, a2, a3, a4⟩) | (go_at_call 6; refine (h3 _ a4).mono ?_; clear h3; rintro e w2 ⟨b, F2, rfl, b1, b2, b3, b4⟩) | (go_at_call 7; refine (h2 _).mono ?_; clear h2; rintro e w3 ⟨c, G1, rfl, c1, c2, c3⟩) | (go_at_call 7; refine (h4 _).mono ?_; clear h4; rintro e w4 ⟨d, G2, rfl, d1, d2, d3⟩))
      have b2' := a2.trans (b2.mono a2.size)
      have c2' := b2'.trans (c2.mono b2'.size)
      have d2' := c2'.trans (d2.mono c2'.size)
      have l1 := fun j (h : F1 j) => a1.at'.lt h
      have l2 := fun j (h : F2 j) => b1.at'.lt h
      have l3 := fun j (h : G1 j) => c1.lt h
      have z1 := a2.size
      have z2 := b2.size
      have z3 := c2.size
      have htw : Br.Tw W a c b d ⟨w, [], 0⟩ ⟨v, [], 0⟩ F1 G1 F2 G2 w4 := by
        refine ⟨⟨(a1.later b2 (Nat.le_refl _)).later (c2.trans (d2.mono z3)) (Nat.le_refl _), ⟨c1.later d2 (Nat.le_refl _), Bk.Good.nil w, hw⟩, d2', a3, fun j hj => ?_, fun j hj hf => ?_⟩, ⟨b1.later (c2.trans (d2.mono z3)) (Nat.le_refl _), ⟨d1, Bk.Good.nil v, hv⟩, d2', fun j hj => ?_, fun j hj => ?_, fun j hj hf => ?_⟩, fun j hj hk => ?_⟩
        · have := c3 j hj; omega
        · have := c3 j hj; have := l1 j hf; omega
        · have := b3 j hj; omega
        · have := d3 j hj; omega
        · have := d3 j hj; have := l2 j hf; omega
        · rcases hj with hj | hj <;> rcases hk with hk | hk
          · have := b3 j hk; have := l1 j hj; omega
          · have := d3 j hk; have := l1 j hj; omega
          · have := c3 j hj; have := l2 j hk; omega
          · have := d3 j hk; have := l3 j hj; omega
      have HS := Lib.hid (show Br.TR W a c b d L.length L'.length (max L.length L'.length) (.int .i64 ((0 : Nat) : Int)) w4 from ⟨0, _, _, F1, G1, F2, G2, by omega, rfl, htw, ⟨by unfold Bk.Slim; simp, by unfold Bk.Slim; simp⟩, ⟨Nat.zero_le _, Nat.zero_le _⟩, ⟨Nat.zero_le _, Nat.zero_le _⟩⟩)
      clear htw a1 a2 a3 a4 b1 b2 b3 b4 c1 c2 c3 d1 d2 d3 b2' c2' d2' l1 l2 l3 z1 z2 z3
      go_upto_region 10 with fail
      go_loopg [13] (max L.length L'.length) (fun m i wr => Br.TR W a c b d L.length L'.length m i wr)
      case atStart => exact HS.out
      case round =>
        clear HS F1 F2 G1 G2 w4
        obtain ⟨k, T1, T2, F1, G1, F2, G2, hmk, rfl, htw, hsl, hl1, hl2⟩ := hrel
        go_upto_region 10 with fail
        go_cut [49] (fun v X => ∃ q : Bool, v = .bool q ∧ (q = true ↔ k < L.length ∨ k < L'.length) ∧ wr = X)
        case first =>
          by_cases hk1 : k < L.length
          · have u1 : decide (k < L.length) = true := decide_eq_true hk1
            go_wp2_with fail
            go_meet
            exact ⟨_, rfl, by simp [hk1], rfl⟩
          · have u1 : decide (k < L.length) = false := decide_eq_false hk1
            by_cases hk2 : k < L'.length
            · have u2 : decide (k < L'.length) = true := decide_eq_true hk2
              go_wp2_with fail
              go_meet
              exact ⟨_, rfl, by simp [hk2], rfl⟩
            · have u2 : decide (k < L'.length) = false := decide_eq_false hk2
              go_wp2_with fail
              go_meet
              exact ⟨_, rfl, by simp [hk1, hk2], rfl⟩
        case rest =>
        obtain ⟨qq, rfl, hqq, rfl⟩ := hcut
        by_cases hq0 : qq = false
        · subst hq0
          have hT1 : T1.l.length ≤ 4398046511104 := by omega
          have hT2 : T2.l.length ≤ 4398046511104 := by omega
          clear hqq
          have hR1 : Bk.run T1 6 (⟨#[]⟩ : ByteArray).data.toList 0 = (T1, { len := Bk.live T1.l, nodes := T1.l.length, depth := Bk.depth (Bk.os T1.l), looked := Bk.w64 T1.seen }) := by
            unfold Bk.run; rw [if_neg (by decide), if_neg (by decide), if_neg (by decide), if_neg (by decide), if_neg (by decide), if_pos rfl]
          have hdo1 := fun X (h : Br.Ex W a c T1 F1 G1 X) => Bk.do_tell h.bk (hT.below h.bel (Nat.le_refl _)) hT1 ⟨#[]⟩ (by decide) 0
          have hto1 := fun X0 X F' T' (h : Br.Ex1 W a c T1 T' F1 F' G1 X0 X) => Br.told_tell h.br hT1 ⟨#[]⟩ (by decide) 0
          simp only [hR1] at hdo1 hto1
          unfold Bk.Did at hdo1
          unfold Br.Did at hto1
          dsimp only at hdo1 hto1
          generalize Bk.live T1.l = q11 at *
          generalize Bk.depth (Bk.os T1.l) = q21 at *
          generalize Bk.w64 T1.seen = q31 at *
          have hsm1 := fun X v1 v2 h1 h2 => Br.same_any (W := X) (v1 := v1) (v2 := v2) (l := []) h1 h2 (by simp) false 0 q11 T1.l.length q21 q31
          clear hR1
          have hR2 : Bk.run T2 6 (⟨#[]⟩ : ByteArray).data.toList 0 = (T2, { len := Bk.live T2.l, nodes := T2.l.length, depth := Bk.depth (Bk.os T2.l), looked := Bk.w64 T2.seen }) := by
            unfold Bk.run; rw [if_neg (by decide), if_neg (by decide), if_neg (by decide), if_neg (by decide), if_neg (by decide), if_pos rfl]
          have hdo2 := fun X (h : Br.Ex W b d T2 F2 G2 X) => Bk.do_tell h.bk (hT.below h.bel (Nat.le_refl _)) hT2 ⟨#[]⟩ (by decide) 0
          have hto2 := fun X0 X F' T' (h : Br.Ex1 W b d T2 T' F2 F' G2 X0 X) => Br.told_tell h.br hT2 ⟨#[]⟩ (by decide) 0
          simp only [hR2] at hdo2 hto2
          unfold Bk.Did at hdo2
          unfold Br.Did at hto2
          dsimp only at hdo2 hto2
          generalize Bk.live T2.l = q12 at *
          generalize Bk.depth (Bk.os T2.l) = q22 at *
          generalize Bk.w64 T2.seen = q32 at *
          have hsm2 := fun X v1 v2 h1 h2 => Br.same_any (W := X) (v1 := v1) (v2 := v2) (l := []) h1 h2 (by simp) false 0 q12 T2.l.length q22 q32
          clear hR2
          go_wp2_with (first
            | (go_at_call 9; refine (hdo1 _ htw.one).mono ?_; clear hdo1; rintro e x5 ⟨v, F', rfl, hrow, htr, ho, hF', hvF, htab⟩; have E21 := htw.one.one htr ho hF')
            | (go_at_call 10; refine (hto1 _ _ _ _ E21).mono ?_; clear hto1; rintro e x6 ⟨v2, G', rfl, hrow2, htr2, ho2, hG', hvG⟩; have E31 := E21.two htr2 ho2 hG'; have hrow3 := Bk.own_base (Bk.own_of hrow fun j hj => ho2.block j (hrow.lt j hj).2 fun hg => by have := (hrow.lt j hj).1; have := (E21.gge j hg).2; omega) (Nat.zero_le _); have hrow4 := Bk.own_base hrow2 (Nat.zero_le _); clear hrow hrow2 htr htr2 ho ho2 hF' hvF hG' hvG htab)
            | (go_at_call 8; refine (hsm1 _ _ _ hrow3 hrow4).mono ?_; clear hsm1; rintro e x7 ⟨rfl, hb7⟩; have htw2 := (htw.step E31).later hb7; clear hrow3 hrow4 E21)
            | (go_at_call 9; refine (hdo2 _ htw2.two).mono ?_; clear hdo2; rintro e x5 ⟨v, F', rfl, hrow, htr, ho, hF', hvF, htab⟩; have E22 := htw2.two.one htr ho hF')
            | (go_at_call 10; refine (hto2 _ _ _ _ E22).mono ?_; clear hto2; rintro e x6 ⟨v2, G', rfl, hrow2, htr2, ho2, hG', hvG⟩; have E32 := E22.two htr2 ho2 hG'; have hrow3 := Bk.own_base (Bk.own_of hrow fun j hj => ho2.block j (hrow.lt j hj).2 fun hg => by have := (hrow.lt j hj).1; have := (E22.gge j hg).2; omega) (Nat.zero_le _); have hrow4 := Bk.own_base hrow2 (Nat.zero_le _); clear hrow hrow2 htr htr2 ho ho2 hF' hvF hG' hvG htab)
            | (go_at_call 8; refine (hsm2 _ _ _ hrow3 hrow4).mono ?_; clear hsm2; rintro e x7 ⟨rfl, hb7⟩; have hend := E32.1.bel.trans (hb7.mono E32.1.bel.size); clear hrow3 hrow4 E22))
          go_ret
          exact ⟨rfl, hend⟩
        obtain rfl : qq = true := by simpa using hq0
        have hor := hqq.1 rfl
        clear hqq hq0
        go_upto_region 12 with fail
        go_cut [71] (fun v X => ∃ (w7 : World) (T' : Bk.T) (F' G' : Nat → Prop), w7 = X ∧ v = .bool false ∧ Br.Tw W a c b d T' T2 F' G' F2 G2 w7 ∧ Bk.Slim T' ∧ T'.l.length ≤ k + 1 ∧ T'.l.length ≤ L.length)
        case first =>
          by_cases hk : k < L.length
          · have u1 : decide (k < L.length) = true := decide_eq_true hk
            obtain ⟨x, hx⟩ : ∃ x, L[k]? = some x := ⟨_, List.getElem?_eq_getElem hk⟩
            obtain ⟨b9, off, hA9, hb, hcells⟩ := hI (by omega)
            subst hA9
            obtain ⟨q0', q1', q2'⟩ := hcells k x hx
            have E0 := htw.one
            have S0 := Br.ccc_later E0.bel ⟨hb, hb, hb⟩ ⟨q0', q1', q2'⟩
            have hxs := hs x (List.mem_of_getElem? hx)
            have hnum := E0.bk.good.num hsl.1 x.k x.c.data.toList x.n
            have hTl : T1.l.length ≤ 4398046511103 := by omega
            clear hx hcells q0' q1' q2'
            obtain ⟨kd, cc, nn⟩ := x
            simp only at S0 hxs hnum
            have hdo := fun X (h : Br.Ex W a c T1 F1 G1 X) => Bk.do_any h.bk (hT.below h.bel (Nat.le_refl _)) (by omega) cc (by omega) kd nn
            have hto := fun X0 X F' T' (h : Br.Ex1 W a c T1 T' F1 F' G1 X0 X) => Br.told_any h.br hTl cc (by omega) kd nn
            obtain ⟨R, hR⟩ : ∃ R, Bk.run T1 kd cc.data.toList nn = R := ⟨_, rfl⟩
            simp only [hR] at hdo hto
            rw [hR] at hnum
            obtain ⟨T', yes, er, l, len, nodes, depth, looked⟩ := R
            unfold Bk.Did at hdo
            unfold Br.Did at hto
            dsimp only at hdo hto
            have hll : l.length ≤ 4611686018427387903 := by
              have h1 := hnum.hits
              have h2 := hnum.le
              have h3 := hnum.len
              simp only at h1 h2 h3
              omega
            have hsm := fun X v1 v2 h1 h2 => Br.same_any (W := X) (v1 := v1) (v2 := v2) (l := l) h1 h2 hll yes er len nodes depth looked
            have HN := Lib.hid (And.intro hnum htw)
            clear hnum hR
            have E1 := E0.dn 1
            have S1 : (wr.drewN 1).cell? ⟨b9, off + k * 3, none⟩ = some (.int .i64 kd) ∧ (wr.drewN 1).cell? ⟨b9, off + k * 3 + 1, none⟩ = some (.string cc) ∧ (wr.drewN 1).cell? ⟨b9, off + k * 3 + 2, none⟩ = some (.int .i64 nn) := S0
            have e1w : wr.drewN 1 = wr.drew := rfl
            rw [e1w] at E1 S1
            clear E0 htw e1w
            go_region_held3 (fun W' => W'.cell? ⟨b9, off + k * 3, none⟩ = some (.int .i64 kd) ∧ W'.cell? ⟨b9, off + k * 3 + 1, none⟩ = some (.string cc) ∧ W'.cell? ⟨b9, off + k * 3 + 2, none⟩ = some (.int .i64 nn))
              (first
                | with_reducible assumption)
              (first
                | (go_at_call 9; refine (hdo _ (by with_reducible assumption)).mono ?_; clear hdo; rintro e w5 ⟨v, F', rfl, hrow, htr, ho, hF', hvF, htab⟩; have E2 := E1.one htr ho hF'; have S2 := Br.ccc_later (ho.below E1.bel.size E1.fge) ⟨hb, hb, hb⟩ S1)
                | (go_at_call 10; refine (hto _ _ _ _ E2).mono ?_; clear hto; rintro e w6 ⟨v2, G', rfl, hrow2, htr2, ho2, hG', hvG⟩; have E3 := E2.two htr2 ho2 hG'; have S3 := Br.ccc_later (ho2.below E2.bel.size (fun j hj => (E2.gge j hj).1)) ⟨hb, hb, hb⟩ S2; have hrow3 := Bk.own_base (Bk.own_of hrow fun j hj => ho2.block j (hrow.lt j hj).2 fun hg => by have := (hrow.lt j hj).1; have := (E2.gge j hg).2; omega) (Nat.zero_le _); have hrow4 := Bk.own_base hrow2 (Nat.zero_le _))
                | (go_at_call 8; refine (hsm _ _ _ hrow3 hrow4).mono ?_; rintro e w7 ⟨rfl, hb7⟩; have S4 := Br.ccc_later (hb7.mono E3.1.bel.size) ⟨hb, hb, hb⟩ S3))
            all_goals
              go_wp2_with fail
              go_meet
              exact ⟨_, T', F', G', rfl, rfl, ((HN.out.2.dn 1).step E3).later hb7, HN.out.1.slim, Nat.le_trans HN.out.1.len (by omega), Nat.le_trans HN.out.1.len (by omega)⟩
          · have u1 : decide (k < L.length) = false := decide_eq_false hk
            have HN := Lib.hid htw
            clear htw
            go_quiet (fail)
            go_wp2_with fail
            go_meet
            exact ⟨_, T1, F1, G1, rfl, rfl, HN.out.dn _, hsl.1, by omega, by omega⟩
        case rest =>
        obtain ⟨w7, T1', F1', G1', rfl, rfl, htw', hs1', hl1'⟩ := hcut
        have hsw := htw'.swap
        have HT1 := Lib.hid (And.intro hs1' hl1')
        clear htw htw' hs1' hl1'
        go_upto_region 14 with fail
        go_cut [91] (fun v X => ∃ (w7 : World) (T' : Bk.T) (F' G' : Nat → Prop), w7 = X ∧ v = .bool false ∧ Br.Tw W b d a c T' T1' F' G' F1' G1' w7 ∧ Bk.Slim T' ∧ T'.l.length ≤ k + 1 ∧ T'.l.length ≤ L'.length)
        case first =>
          by_cases hk : k < L'.length
          · have u1 : decide (k < L'.length) = true := decide_eq_true hk
            obtain ⟨x, hx⟩ : ∃ x, L'[k]? = some x := ⟨_, List.getElem?_eq_getElem hk⟩
            obtain ⟨b9, off, hA9, hb, hcells⟩ := hI' (by omega)
            subst hA9
            obtain ⟨q0', q1', q2'⟩ := hcells k x hx
            have E0 := hsw.one
            have S0 := Br.ccc_later E0.bel ⟨hb, hb, hb⟩ ⟨q0', q1', q2'⟩
            have hxs := hs' x (List.mem_of_getElem? hx)
            have hnum := E0.bk.good.num hsl.2 x.k x.c.data.toList x.n
            have hTl : T2.l.length ≤ 4398046511103 := by omega
            clear hx hcells q0' q1' q2'
            obtain ⟨kd, cc, nn⟩ := x
            simp only at S0 hxs hnum
            have hdo := fun X (h : Br.Ex W b d T2 F2 G2 X) => Bk.do_any h.bk (hT.below h.bel (Nat.le_refl _)) (by omega) cc (by omega) kd nn
            have hto := fun X0 X F' T' (h : Br.Ex1 W b d T2 T' F2 F' G2 X0 X) => Br.told_any h.br hTl cc (by omega) kd nn
            obtain ⟨R, hR⟩ : ∃ R, Bk.run T2 kd cc.data.toList nn = R := ⟨_, rfl⟩
            simp only [hR] at hdo hto
            rw [hR] at hnum
            obtain ⟨T', yes, er, l, len, nodes, depth, looked⟩ := R
            unfold Bk.Did at hdo
            unfold Br.Did at hto
            dsimp only at hdo hto
            have hll : l.length ≤ 4611686018427387903 := by
              have h1 := hnum.hits
              have h2 := hnum.le
              have h3 := hnum.len
              simp only at h1 h2 h3
              omega
            have hsm := fun X v1 v2 h1 h2 => Br.same_any (W := X) (v1 := v1) (v2 := v2) (l := l) h1 h2 hll yes er len nodes depth looked
            have HN := Lib.hid (And.intro hnum hsw)
            clear hnum hR
            have E1 := E0.dn 1
            have S1 : (w7.drewN 1).cell? ⟨b9, off + k * 3, none⟩ = some (.int .i64 kd) ∧ (w7.drewN 1).cell? ⟨b9, off + k * 3 + 1, none⟩ = some (.string cc) ∧ (w7.drewN 1).cell? ⟨b9, off + k * 3 + 2, none⟩ = some (.int .i64 nn) := S0
            have e1w : w7.drewN 1 = w7.drew := rfl
            rw [e1w] at E1 S1
            clear E0 hsw e1w
            go_region_held3 (fun W' => W'.cell? ⟨b9, off + k * 3, none⟩ = some (.int .i64 kd) ∧ W'.cell? ⟨b9, off + k * 3 + 1, none⟩ = some (.string cc) ∧ W'.cell? ⟨b9, off + k * 3 + 2, none⟩ = some (.int .i64 nn))
              (first
                | with_reducible assumption)
              (first
                | (go_at_call 9; refine (hdo _ (by with_reducible assumption)).mono ?_; clear hdo; rintro e w5 ⟨v, F', rfl, hrow, htr, ho, hF', hvF, htab⟩; have E2 := E1.one htr ho hF'; have S2 := Br.ccc_later (ho.below E1.bel.size E1.fge) ⟨hb, hb, hb⟩ S1)
                | (go_at_call 10; refine (hto _ _ _ _ E2).mono ?_; clear hto; rintro e w6 ⟨v2, G', rfl, hrow2, htr2, ho2, hG', hvG⟩; have E3 := E2.two htr2 ho2 hG'; have S3 := Br.ccc_later (ho2.below E2.bel.size (fun j hj => (E2.gge j hj).1)) ⟨hb, hb, hb⟩ S2; have hrow3 := Bk.own_base (Bk.own_of hrow fun j hj => ho2.block j (hrow.lt j hj).2 fun hg => by have := (hrow.lt j hj).1; have := (E2.gge j hg).2; omega) (Nat.zero_le _); have hrow4 := Bk.own_base hrow2 (Nat.zero_le _))
                | (go_at_call 8; refine (hsm _ _ _ hrow3 hrow4).mono ?_; rintro e w7 ⟨rfl, hb7⟩; have S4 := Br.ccc_later (hb7.mono E3.1.bel.size) ⟨hb, hb, hb⟩ S3))
            all_goals
              go_wp2_with fail
              go_meet
              exact ⟨_, T', F', G', rfl, rfl, ((HN.out.2.dn 1).step E3).later hb7, HN.out.1.slim, Nat.le_trans HN.out.1.len (by omega), Nat.le_trans HN.out.1.len (by omega)⟩
          · have u1 : decide (k < L'.length) = false := decide_eq_false hk
            have HN := Lib.hid hsw
            clear hsw
            go_quiet (fail)
            go_wp2_with fail
            go_meet
            exact ⟨_, T2, F2, G2, rfl, rfl, HN.out.dn _, hsl.2, by omega, by omega⟩
        case rest =>
        obtain ⟨w8, T2', F2', G2', rfl, rfl, htw2, hs2', hl2'⟩ := hcut
        go_wp2_with fail
        go_roundg (gk - 1)
        case measure => omega
        case rel => exact ⟨k + 1, T1', T2', F1', G1', F2', G2', by omega, congrArg (Value.int .i64) (by omega), htw2.swap, ⟨HT1.out.1, hs2'⟩, HT1.out.2, hl2'⟩
end Go.Proofs.YtikhahkmebkccaaGreatDoor
