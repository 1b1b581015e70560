/- The law TreeExact, the walk. Conditions: each theorem's own hypotheses. -/
import Derived.Test.YtikhahkmebkccaaGreatDoorBrM
namespace Go.Proofs.YtikhahkmebkccaaGreatDoor
open Go.RowKit Go.Maps Go.Sort Go.Shelf
set_option linter.unusedVariables false
set_option linter.unusedSimpArgs false

/-- Between two pairs of calls. -/
def Br.XR (W : World) (t d N w : Nat) (m : Nat) (i : Value) (wr : World) : Prop :=
  ∃ (k : Nat) (T : Bk.T) (F G : Nat → Prop), m + k = N ∧ i = .int .i64 (k : Nat) ∧ Br.Ex W t d T F G wr ∧ Bk.Slim T ∧ T.l.length ≤ k
/-- Three cells of an argument. -/
theorem Br.ccc_later {B : Nat} {w w' : World} {p q r : Addr} {x y z : Value} (hb : Below B w w') (hp : p.block < B ∧ q.block < B ∧ r.block < B) (h : w.cell? p = some x ∧ w.cell? q = some y ∧ w.cell? r = some z) : w'.cell? p = some x ∧ w'.cell? q = some y ∧ w'.cell? r = some z :=
  ⟨(hb.cell hp.1).trans h.1, (hb.cell hp.2.1).trans h.2.1, (hb.cell hp.2.2).trans h.2.2⟩
set_option maxRecDepth 100000 in
set_option maxHeartbeats 8000000 in
theorem Br.exact_law (w0 : Int) (L : List Bk.O) (A : Option Addr) (c : Nat) (W : World) (hI : Bk.Ops W W.heap.size A L) (hn : L.length ≤ 4398046511104) (hs : ∀ x ∈ L, x.c.size ≤ 140737488355328) (hT : TabO W) :
    Calls Tryz.prog 3 #[.int .i64 w0, .slice A L.length c] W fun e W' => e = .returned (.bool true) ∧ Below W.heap.size W W' := by
  cases hw : Bt.wide w0 with
  | false =>
    have hnew := fun W' => Bk.new_none w0 hw W'
    have hnew2 := fun W' => Br.new_none w0 hw W'
    go_enter Tryz.func3, Tryz.ntmps3
    go_wp2_with (first | (go_at_call 6; refine (hnew _).mono ?_; clear hnew; rintro e w2 ⟨rfl, rfl⟩) | (go_at_call 7; refine (hnew2 _).mono ?_; clear hnew2; rintro e w2 ⟨rfl, rfl⟩))
    go_ret
    exact ⟨rfl, Below.refl _ _⟩
  | true =>
    obtain ⟨w, rfl⟩ : ∃ w : Nat, w0 = (w : Int) := ⟨w0.toNat, by have := Bt.wide_in hw; omega⟩
    have hwl := Bt.wide_in hw
    have hnew := Bk.new_tree w hw W hT
    have hnew2 := fun W' => Br.new_any w hw W'
    go_enter Tryz.func3, Tryz.ntmps3
    go_upto_region 3 with (first | (go_at_call 6; refine hnew.mono ?_; clear hnew; rintro e w1 ⟨t, F0, rfl, h1, h2, h3, h4⟩) | (go_at_call 7; refine (hnew2 _).mono ?_; clear hnew2; rintro e w2 ⟨d, G0, rfl, k1, k2, k3⟩))
    have hex : Br.Ex W t d ⟨w, [], 0⟩ F0 G0 w2 := ⟨h1.later k2 (Nat.le_refl _), ⟨k1, Bk.Good.nil w, hw⟩, h2.trans (k2.mono h2.size), h3, fun j hj => Nat.le_trans h2.size (k3 j hj), fun j hj hf => by have := k3 j hj; have := h1.at'.lt hf; omega⟩
    have HS := Lib.hid (show Br.XR W t d L.length w L.length (.int .i64 ((0 : Nat) : Int)) w2 from ⟨0, ⟨w, [], 0⟩, F0, G0, by omega, rfl, hex, by unfold Bk.Slim; simp, Nat.le_refl _⟩)
    clear hex h1 h2 h3 h4 k1 k2 k3
    go_upto_region 8 with fail
    go_loopg [7] L.length (fun m i wr => Br.XR W t d L.length w m i wr)
    case atStart => exact HS.out
    case round =>
      clear HS F0 G0 w2
      obtain ⟨k, T, F, G, hmk, rfl, hex, hsl, hlk⟩ := hrel
      by_cases hkn : k = L.length
      · have u1 : decide (k < L.length) = false := decide_eq_false (by omega)
        have hTl : T.l.length ≤ 4398046511104 := by omega
        clear hmk hkn
        have hR : Bk.run T 6 (⟨#[]⟩ : ByteArray).data.toList 0 = (T, { len := Bk.live T.l, nodes := T.l.length, depth := Bk.depth (Bk.os T.l), looked := Bk.w64 T.seen }) := by
          unfold Bk.run; rw [if_neg (by decide), if_neg (by decide), if_neg (by decide), if_neg (by decide), if_neg (by decide), if_pos rfl]
        have hdo := Bk.do_tell hex.bk (hT.below hex.bel (Nat.le_refl _)) hTl ⟨#[]⟩ (by decide) 0
        have hto := fun X0 X F' T' (h : Br.Ex1 W t d T T' F F' G X0 X) => Br.told_tell h.br hTl ⟨#[]⟩ (by decide) 0
        simp only [hR] at hdo hto
        unfold Bk.Did at hdo
        unfold Br.Did at hto
        dsimp only at hdo hto
        generalize Bk.live T.l = q1 at *
        generalize Bk.depth (Bk.os T.l) = q2 at *
        generalize Bk.w64 T.seen = q3 at *
        have hsm := fun X v1 v2 h1 h2 => Br.same_any (W := X) (v1 := v1) (v2 := v2) (l := []) h1 h2 (by simp) false 0 q1 T.l.length q2 q3
        clear hR
        go_wp2_with (first
          | (go_at_call 9; refine hdo.mono ?_; clear hdo; rintro e w5 ⟨v, F', rfl, hrow, htr, ho, hF', hvF, htab⟩; have E2 := hex.one htr ho hF')
          | (go_at_call 10; refine (hto _ _ _ _ E2).mono ?_; clear hto; rintro e w6 ⟨v2, G', rfl, hrow2, htr2, ho2, hG', hvG⟩; obtain ⟨E3, -, -⟩ := E2.two htr2 ho2 hG'; have hrow3 := Bk.own_base (Bk.own_of hrow fun j hj => ho2.block j (hrow.lt j hj).2 fun hg => by have := (hrow.lt j hj).1; have := (E2.gge j hg).2; omega) (Nat.zero_le _); have hrow4 := Bk.own_base hrow2 (Nat.zero_le _))
          | (go_at_call 8; refine (hsm _ _ _ hrow3 hrow4).mono ?_; rintro e w7 ⟨rfl, hb7⟩))
        go_ret
        exact ⟨rfl, E3.bel.trans (hb7.mono E3.bel.size)⟩
      · have u1 : decide (k < L.length) = true := decide_eq_true (by omega)
        obtain ⟨x, hx⟩ : ∃ x, L[k]? = some x := ⟨_, List.getElem?_eq_getElem (by omega)⟩
        obtain ⟨b, off, rfl, hb, hcells⟩ := hI (by omega)
        obtain ⟨q0', q1', q2'⟩ := hcells k x hx
        have S0 : wr.cell? ⟨b, off + k * 3, none⟩ = some (.int .i64 x.k) ∧ wr.cell? ⟨b, off + k * 3 + 1, none⟩ = some (.string x.c) ∧ wr.cell? ⟨b, off + k * 3 + 2, none⟩ = some (.int .i64 x.n) := Br.ccc_later hex.bel ⟨hb, hb, hb⟩ ⟨q0', q1', q2'⟩
        have hxs := hs x (List.mem_of_getElem? hx)
        have hkl : k < L.length := by omega
        have hnum := hex.bk.good.num hsl x.k x.c.data.toList x.n
        have HX := Lib.hid (And.intro hx (And.intro hmk (And.intro hI hs)))
        clear hx hmk hcells hs hkn q0' q1' q2'
        obtain ⟨kd, cc, nn⟩ := x
        simp only at S0 hxs hnum
        have hdo := fun X (h : Br.Ex W t d T F G X) => Bk.do_any h.bk (hT.below h.bel (Nat.le_refl _)) (by omega) cc (by omega) kd nn
        have hto := fun X0 X F' T' (h : Br.Ex1 W t d T T' F F' G X0 X) => Br.told_any h.br (by omega) cc (by omega) kd nn
        obtain ⟨R, hR⟩ : ∃ R, Bk.run T kd cc.data.toList nn = R := ⟨_, rfl⟩
        simp only [hR] at hdo hto
        rw [hR] at hnum
        obtain ⟨T', yes, er, l, len, nodes, depth, looked⟩ := R
        unfold Bk.Did at hdo
        unfold Br.Did at hto
        dsimp only at hdo hto
        have hll : l.length ≤ 4611686018427387903 := by
          have h1 := hnum.hits
          have h2 := hnum.le
          have h3 := hnum.len
          simp only at h1 h2 h3
          omega
        have hsm := fun X v1 v2 h1 h2 => Br.same_any (W := X) (v1 := v1) (v2 := v2) (l := l) h1 h2 hll yes er len nodes depth looked
        have HN := Lib.hid (And.intro hnum hR)
        clear hnum hR
        have E1 : Br.Ex W t d T F G wr.drew := hex.dn 1
        have S1 : wr.drew.cell? ⟨b, off + k * 3, none⟩ = some (.int .i64 kd) ∧ wr.drew.cell? ⟨b, off + k * 3 + 1, none⟩ = some (.string cc) ∧ wr.drew.cell? ⟨b, off + k * 3 + 2, none⟩ = some (.int .i64 nn) := S0
        clear hex
        go_upto_region 10 with fail
        go_region_held3 (fun W' => W'.cell? ⟨b, off + k * 3, none⟩ = some (.int .i64 kd) ∧ W'.cell? ⟨b, off + k * 3 + 1, none⟩ = some (.string cc) ∧ W'.cell? ⟨b, off + k * 3 + 2, none⟩ = some (.int .i64 nn))
          (first
            | with_reducible assumption)
          (first
            | (go_at_call 9; refine (hdo _ (by with_reducible assumption)).mono ?_; clear hdo; rintro e w5 ⟨v, F', rfl, hrow, htr, ho, hF', hvF, htab⟩; have E2 := E1.one htr ho hF'; have S2 := Br.ccc_later (ho.below E1.bel.size E1.fge) ⟨hb, hb, hb⟩ S1)
            | (go_at_call 10; refine (hto _ _ _ _ E2).mono ?_; clear hto; rintro e w6 ⟨v2, G', rfl, hrow2, htr2, ho2, hG', hvG⟩; have E3 := (E2.two htr2 ho2 hG').1; have S3 := Br.ccc_later (ho2.below E2.bel.size (fun j hj => (E2.gge j hj).1)) ⟨hb, hb, hb⟩ S2; have hrow3 := Bk.own_base (Bk.own_of hrow fun j hj => ho2.block j (hrow.lt j hj).2 fun hg => by have := (hrow.lt j hj).1; have := (E2.gge j hg).2; omega) (Nat.zero_le _); have hrow4 := Bk.own_base hrow2 (Nat.zero_le _))
            | (go_at_call 8; refine (hsm _ _ _ hrow3 hrow4).mono ?_; rintro e w7 ⟨rfl, hb7⟩; have S4 := Br.ccc_later (hb7.mono E3.bel.size) ⟨hb, hb, hb⟩ S3))
        all_goals
          go_wp2_with fail
          go_roundg (gk - 1)
          case measure => have := HX.out.2.1; omega
          case rel => exact ⟨k + 1, T', F', G', by have := HX.out.2.1; omega, congrArg (Value.int .i64) (by omega), E3.later hb7, HN.out.1.slim, Nat.le_trans HN.out.1.len (by omega)⟩
end Go.Proofs.YtikhahkmebkccaaGreatDoor
