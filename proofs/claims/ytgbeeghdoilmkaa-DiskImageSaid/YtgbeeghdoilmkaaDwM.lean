/- The law DiskImage: its walk. Conditions: each theorem's own hypotheses. -/
import Derived.Test.YtgbeeghdoilmkaaDwK
import Derived.Deep.RegionHeld3
import Derived.Deep.DeepCutAuto
namespace Go.Proofs.Ytgbeeghdoilmkaa
open Go.RowKit Go.Maps Go.Sort
set_option linter.unusedVariables false

set_option maxRecDepth 100000 in
set_option maxHeartbeats 8000000 in
theorem Dw.diskImage (W : World) (c : Int) (hc : -9223372036854775808 ≤ c ∧ c ≤ 9223372036854775807) (A : Option Addr) (cp : Nat) (F : List Dw.S) (hF : Dw.Steps W A F) (hl : F.length ≤ 1400000000000)
    (A2 : Option Addr) (cp2 : Nat) (G : List Dw.S) (hH : Dw.Steps W A2 G) (hl2 : G.length ≤ 1400000000000) :
    Calls Try.prog 6 #[.int .i64 c, .slice A F.length cp, .slice A2 G.length cp2] W fun e W' => e = .returned (.bool true) ∧ Below W.heap.size W W' := by
  have k0 := Dw.begun_any W
  go_enter Try.func6, Try.ntmps6
  go_upto_region 2 with (go_at_call 15; refine k0.mono ?_; rintro e w1 ⟨rfl, b1⟩; clear k0)
  go_cut [23] (fun v X => ∃ q : Bool, v = .bool q ∧ (q = false → 0 ≤ c ∧ c ≤ 1073741824) ∧ Below W.heap.size W X)
  case first =>
    by_cases h1 : c < 0
    · go_wp2_with fail
      go_meet
      exact ⟨true, rfl, (fun h => by cases h), b1⟩
    · by_cases h2 : 1073741824 < c
      · go_wp2_with fail
        go_meet
        exact ⟨true, rfl, (fun h => by cases h), b1⟩
      · go_wp2_with fail
        go_meet
        exact ⟨false, rfl, (fun h => by omega), b1⟩
  case rest =>
  obtain ⟨q, rfl, hq, b3⟩ := hcut
  clear b1
  go_upto_if 23 with fail
  go_cut [0] (fun v X => ∃ z : Int, v = .int .i64 z ∧ 0 ≤ z ∧ z ≤ 1073741824 ∧ Below W.heap.size W X)
  case first =>
    cases q with
    | true =>
      clear hq
      go_wp2_with fail
      go_meet
      exact ⟨_, rfl, by decide, by decide, b3⟩
    | false =>
      obtain ⟨hq1, hq2⟩ := hq rfl
      go_wp2_with fail
      go_meet
      exact ⟨_, rfl, hq1, hq2, b3⟩
  case rest =>
    obtain ⟨z, rfl, hz0, hn0, b2⟩ := hcut
    obtain ⟨n, rfl⟩ := Int.eq_ofNat_of_zero_le hz0
    have hn : n ≤ 1073741824 := by omega
    clear hz0 hn0
    have b2s := b2.size
    have k1 := Dw.new_on hn b2 b2s
    clear b3 hc hq
    go_wp2_with (go_at_call 9; refine k1.mono ?_; rintro e w3 ⟨d, rfl, o3⟩; clear k1)
    go_loopw [9] (fun i wr => ∃ k m, k ≤ F.length ∧ i = .int .i64 (k : Nat) ∧ Dw.On W.heap.size W wr d m ∧ Hid (m.cap = n)) (fun i _ => F.length - (intOf i).toNat)
    case atStart => exact ⟨0, _, Nat.zero_le _, rfl, o3, Lib.hid rfl⟩
    case round =>
      obtain ⟨k, m, hk, rfl, o4, HC⟩ := hrel
      by_cases hlt : k < F.length
      · obtain ⟨s, hs⟩ : ∃ s, F[k]? = some s := ⟨_, List.getElem?_eq_getElem hlt⟩
        obtain ⟨g, off, rfl, hg, hst⟩ := hF (fun e => by rw [e] at hlt; exact absurd hlt (Nat.not_lt_zero _))
        obtain ⟨hcell, hfit⟩ := hst k s hs
        have hfits : Dw.Fit wr s := hfit.keep o4.below.size fun k hk => o4.below.block k hk
        obtain ⟨m2, hm2⟩ : ∃ m2, (Dw.play m s).1 = m2 := ⟨_, rfl⟩
        have kp := o4.play s hfits rfl hm2
        have HC2 : Hid (m2.cap = n) := Lib.hid (by rw [← hm2, Dw.play_cap]; exact HC.out)
        obtain ⟨ca, cc, hcv⟩ := hfit.cuts.form
        obtain ⟨nb, hnb, _⟩ := Tx.of s.name
        obtain ⟨tb, htb, _⟩ := Tx.of s.to_
        obtain ⟨db, hdb, _⟩ := Tx.of s.data
        have hcl := fun {w} (hB : Below W.heap.size W w) => Dw.Steps.eight (k := k) hg hcell hB hnb htb hdb
        clear hs hst hcell hfit hfits hm2
        obtain ⟨what, nm, to_, da, at_, nn, dn, cv, cs⟩ := s
        simp only at hcv hnb htb hdb hcl
        subst hcv
        unfold Dw.cells at kp
        simp only at kp
        rw [Tx.v_eq hnb, Tx.v_eq htb, Tx.v_eq hdb] at kp
        obtain ⟨cn, hcn⟩ : ∃ cn, cs.length = cn := ⟨_, rfl⟩
        simp only [hcn] at kp hcl
        obtain ⟨x0, x1, x2, x3, x4, x5, x6, x7⟩ := hcl o4.below
        clear hcn hnb htb hdb hcl hF
        go_wp2_with (go_at_call 28; refine kp.mono ?_; rintro e w2 ⟨rfl, o5⟩)
        go_roundw
        case rel => exact ⟨k + 1, _, hlt, by go_num, o5, HC2⟩
        case measure => simp [intOf]; omega
      · obtain rfl : k = F.length := by omega
        obtain ⟨ib, hib, _⟩ := Tx.of (Dk.image m)
        have k2 := fun {w} (o : Dw.On W.heap.size W w d m) => o.open_ hib HC.out
        have hib2 : ib.data.toList = Dk.image (Dw.again m) := by rw [hib, Dw.image_again o4.good]
        have HIB := Lib.hid hib
        have HIB2 := Lib.hid hib2
        clear hib hib2 hF
        go_wp2_with (first
          | (go_at_call 25; refine (T6.image1 HIB2.out).mono ?_; rintro e w7 ⟨rfl, T7⟩)
          | (go_at_call 25; refine (o4.image HIB.out).mono ?_; rintro e w5 ⟨rfl, o5⟩)
          | (go_at_call 11; refine (k2 o5).mono ?_; rintro e w6 ⟨x, rfl, T6⟩)
          | (go_at_call 29; refine (T7.fst.age (u := 0) rfl).mono ?_; rintro e w ⟨rfl, rfl⟩)
          | (go_at_call 27; refine (T7.fst.writes (u := 0) rfl).mono ?_; rintro e w ⟨rfl, rfl⟩)
          | (go_at_call 18; refine T7.crash2.mono ?_; rintro e w8 ⟨rfl, T8⟩))
        have HS := Lib.hid (Dw.sim_again m)
        clear k2
        go_loopw [13] (fun i wr => ∃ k a b, k ≤ G.length ∧ i = .int .i64 (k : Nat) ∧ Dw.Two W.heap.size W wr x a d b ∧ Hid (Dw.Sim a b)) (fun i _ => G.length - (intOf i).toNat)
        case atStart => exact ⟨0, _, _, Nat.zero_le _, rfl, T8, HS⟩
        case round =>
          clear T6 T7 T8 o5 o4 HIB HIB2 HS
          obtain ⟨k, a, b, hk, rfl, T1, HS⟩ := hrel
          by_cases hlt : k < G.length
          · obtain ⟨s, hs⟩ : ∃ s, G[k]? = some s := ⟨_, List.getElem?_eq_getElem hlt⟩
            obtain ⟨g, off, rfl, hg, hst⟩ := hH (fun e => by rw [e] at hlt; exact absurd hlt (Nat.not_lt_zero _))
            obtain ⟨hcell, hfit⟩ := hst k s hs
            have hfits : ∀ {w}, Below W.heap.size W w → Dw.Fit w s := fun hB => hfit.keep hB.size fun k hk => hB.block k hk
            obtain ⟨a2, ha2⟩ : ∃ a2, (Dw.play a s).1 = a2 := ⟨_, rfl⟩
            obtain ⟨b2, hb2⟩ : ∃ b2, (Dw.play b s).1 = b2 := ⟨_, rfl⟩
            obtain ⟨e2, he2⟩ : ∃ e2, (Dw.play a s).2 = e2 := ⟨_, rfl⟩
            obtain ⟨hS1, hS2⟩ := Dw.sim_play HS.out s
            rw [he2] at hS2
            rw [ha2, hb2] at hS1
            have kp1 := T1.play1 s (hfits T1.below) he2 ha2
            have kp2 := fun {w a} (T : Dw.Two W.heap.size W w x a d b) => T.play2 s (hfits T.below) hS2.symm hb2
            obtain ⟨ib, hib, _⟩ := Tx.of (Dk.image a2)
            have hib2 : ib.data.toList = Dk.image b2 := by rw [hib, hS1.image]
            obtain ⟨u, hu⟩ : ∃ u, Dk.used a2.files = u := ⟨_, rfl⟩
            have hu2 : Dk.used b2.files = u := by rw [← hS1.files]; exact hu
            obtain ⟨o, ho⟩ : ∃ o, a2.off = o := ⟨_, rfl⟩
            have ho2 : b2.off = o := by rw [← hS1.off]; exact ho
            have HIB := Lib.hid hib
            have HIB2 := Lib.hid hib2
            have HU := Lib.hid hu
            have HU2 := Lib.hid hu2
            have HO := Lib.hid ho
            have HO2 := Lib.hid ho2
            have HS1 := Lib.hid hS1
            clear hib hib2 hu hu2 ho ho2 hS1 hS2 he2 ha2 hb2 HS
            obtain ⟨ca, cc, hcv⟩ := hfit.cuts.form
            obtain ⟨nb, hnb, _⟩ := Tx.of s.name
            obtain ⟨tb, htb, _⟩ := Tx.of s.to_
            obtain ⟨db, hdb, _⟩ := Tx.of s.data
            have hcl := fun {w} (hB : Below W.heap.size W w) => Dw.Steps.eight (k := k) hg hcell hB hnb htb hdb
            clear hs hst hcell hfit hfits
            obtain ⟨what, nm, to_, da, at_, nn, dn, cv, cs⟩ := s
            simp only at hcv hnb htb hdb hcl
            subst hcv
            unfold Dw.cells at kp1 kp2
            simp only at kp1 kp2
            simp only [Tx.v_eq hnb, Tx.v_eq htb, Tx.v_eq hdb] at kp1 kp2
            obtain ⟨cn, hcn⟩ : ∃ cn, cs.length = cn := ⟨_, rfl⟩
            simp only [hcn] at kp1 kp2 hcl
            obtain ⟨x0, x1, x2, x3, x4, x5, x6, x7⟩ := hcl T1.below
            clear hcn hnb htb hdb hH
            go_wp2_with (first
              | (go_at_call 28; refine kp1.mono ?_; clear kp1; rintro e w2 ⟨rfl, T2⟩; clear x0 x1 x2 x3 x4 x5 x6 x7; obtain ⟨y0, y1, y2, y3, y4, y5, y6, y7⟩ := hcl T2.below; have kp3 := kp2 T2; clear kp2)
              | (go_at_call 28; refine kp3.mono ?_; clear kp3; rintro e w3 ⟨rfl, T3⟩; clear y0 y1 y2 y3 y4 y5 y6 y7; have ku1 := T3.fst.used HU.out; have ku2 := T3.snd.used HU2.out; have kd1 := T3.fst.down HO.out; have kd2 := T3.snd.down HO2.out; have ki1 := T3.image1 HIB.out)
              | (go_at_call 26; refine ku1.mono ?_; clear ku1; rintro e w ⟨rfl, rfl⟩)
              | (go_at_call 26; refine ku2.mono ?_; clear ku2; rintro e w ⟨rfl, rfl⟩)
              | (go_at_call 17; refine kd1.mono ?_; clear kd1; rintro e w ⟨rfl, rfl⟩)
              | (go_at_call 17; refine kd2.mono ?_; clear kd2; rintro e w ⟨rfl, rfl⟩)
              | (go_at_call 25; refine ki1.mono ?_; clear ki1; rintro e w4 ⟨rfl, T4⟩; have ki2 := T4.image2 HIB2.out)
              | (go_at_call 25; refine ki2.mono ?_; clear ki2; rintro e w5 ⟨rfl, T5⟩))
            go_roundw
            case rel => exact ⟨k + 1, _, _, hlt, by go_num, T5, HS1⟩
            case measure => simp [intOf]; omega
          · obtain rfl : k = G.length := by omega
            have hS1 := Dw.sim_crash HS.out []
            obtain ⟨ib, hib, _⟩ := Tx.of (Dk.image (Dk.crash a []))
            have hib2 : ib.data.toList = Dk.image (Dk.crash b []) := by rw [hib, hS1.image]
            have htold : Dk.told (Dk.crash a []) = Dk.told (Dk.crash b []) := hS1.told
            obtain ⟨a2, ha2⟩ : ∃ a2, Dk.crash a [] = a2 := ⟨_, rfl⟩
            obtain ⟨b2, hb2⟩ : ∃ b2, Dk.crash b [] = b2 := ⟨_, rfl⟩
            have kc1 := T1.crash1
            have kc2 := fun {w a} (T : Dw.Two W.heap.size W w x a d b) => T.crash2
            rw [ha2] at kc1 hib htold
            rw [hb2] at kc2 hib2 htold
            have HIB := Lib.hid hib
            have HIB2 := Lib.hid hib2
            have HT := Lib.hid htold
            clear hib hib2 htold hS1 ha2 hb2 hH HS
            go_wp2_with (first
              | (go_at_call 18; refine kc1.mono ?_; clear kc1; rintro e w2 ⟨rfl, T2⟩; have kc3 := kc2 T2; clear kc2 T1)
              | (go_at_call 18; refine kc3.mono ?_; clear kc3; rintro e w3 ⟨rfl, T3⟩; clear T2; have kn1 := T3.fst.names)
              | (go_at_call 31; refine kn1.mono ?_; clear kn1; rintro e w4 ⟨v1, rfl, r1, b4⟩; have T4 := T3.later b4; clear T3; have kn2 := T4.snd.names)
              | (go_at_call 31; refine kn2.mono ?_; clear kn2; rintro e w5 ⟨v2, rfl, r2, b5⟩; have T5 := T4.later b5; clear T4; have r3 := r1.below b5; have k9 := Dw.same_any r3 r2 (Nat.le_trans T5.fst.told_len (by decide)); rw [decide_eq_true HT.out] at k9; clear b4 b5 r1)
              | (go_at_call 30; refine k9.mono ?_; clear k9; rintro e w6 ⟨rfl, nn, rfl⟩; have T6 := T5.later (below_dn (Below.refl _ _) nn); clear T5; have ki1 := T6.image1 HIB.out)
              | (go_at_call 25; refine ki1.mono ?_; clear ki1; rintro e w7 ⟨rfl, T7⟩; clear T6; have ki2 := T7.image2 HIB2.out)
              | (go_at_call 25; refine ki2.mono ?_; clear ki2; rintro e w8 ⟨rfl, T8⟩))
            go_ret
            exact ⟨rfl, T8.below⟩
#print axioms Dw.diskImage
end Go.Proofs.Ytgbeeghdoilmkaa
