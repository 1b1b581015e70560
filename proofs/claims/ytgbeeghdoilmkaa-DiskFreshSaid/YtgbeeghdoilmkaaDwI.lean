/- The law DiskQuiet: its walk. Conditions: each theorem's own hypotheses. -/
import Derived.Test.YtgbeeghdoilmkaaDwH
import Derived.Deep.RegionHeld3
import Derived.Deep.DeepCutAuto
namespace Go.Proofs.Ytgbeeghdoilmkaa
open Go.RowKit Go.Maps Go.Sort
set_option linter.unusedVariables false

/-- The cells of a step of the list, where the disk has been worked on. -/
theorem Dw.Steps.cells {W w : World} {g off : Nat} {F : List Dw.S} (hg : g < W.heap.size) {k : Nat} {s : Dw.S} (h : ∀ i v, (Dw.cells s)[i]? = some v → W.cell? ⟨g, off + k * 8 + i, none⟩ = some v) (hB : Below W.heap.size W w) {i : Nat} {v : Value} (hv : (Dw.cells s)[i]? = some v) : w.cell? ⟨g, off + k * 8 + i, none⟩ = some v :=
  (World.cell?_of_block (hB.block g hg)).trans (h i v hv)
theorem Dw.Fit.below {W w : World} {s : Dw.S} (h : Dw.Fit W s) (hB : Below W.heap.size W w) : Dw.Fit w s := h.keep hB.size fun k hk => hB.block k hk

set_option maxRecDepth 100000 in
set_option maxHeartbeats 8000000 in
theorem Dw.quiet (W : World) (c : Int) (hc : -9223372036854775808 ≤ c ∧ c ≤ 9223372036854775807) (A : Option Addr) (cp : Nat) (F : List Dw.S) (hF : Dw.Steps W A F) (hl : F.length ≤ 1400000000000) :
    Calls Try.prog 5 #[.int .i64 c, .slice A F.length cp] W fun e W' => e = .returned (.bool true) ∧ Below W.heap.size W W' := by
  have k0 := Dw.begun_any W
  go_enter Try.func5, Try.ntmps5
  go_upto_region 2 with (go_at_call 15; refine k0.mono ?_; rintro e w1 ⟨rfl, b1⟩; clear k0)
  go_cut [23] (fun v X => ∃ q : Bool, v = .bool q ∧ (q = false → 0 ≤ c ∧ c ≤ 1073741824) ∧ Below W.heap.size W X)
  case first =>
    by_cases h1 : c < 100
    · go_wp2_with fail
      go_meet
      exact ⟨true, rfl, (fun h => by cases h), b1⟩
    · by_cases h2 : 1073741824 < c
      · go_wp2_with fail
        go_meet
        exact ⟨true, rfl, (fun h => by cases h), b1⟩
      · go_wp2_with fail
        go_meet
        exact ⟨false, rfl, (fun h => by omega), b1⟩
  case rest =>
  obtain ⟨q, rfl, hq, b3⟩ := hcut
  clear b1
  go_upto_if 23 with fail
  go_cut [0] (fun v X => ∃ z : Int, v = .int .i64 z ∧ 0 ≤ z ∧ z ≤ 1073741824 ∧ Below W.heap.size W X)
  case first =>
    cases q with
    | true =>
      clear hq
      go_wp2_with fail
      go_meet
      exact ⟨_, rfl, by decide, by decide, b3⟩
    | false =>
      obtain ⟨hq1, hq2⟩ := hq rfl
      go_wp2_with fail
      go_meet
      exact ⟨_, rfl, hq1, hq2, b3⟩
  case rest =>
    obtain ⟨z, rfl, hz0, hn0, b2⟩ := hcut
    obtain ⟨n, rfl⟩ := Int.eq_ofNat_of_zero_le hz0
    have hn : n ≤ 1073741824 := by omega
    clear hz0 hn0
    have b2s := b2.size
    have k1 := Dw.new_on hn b2 b2s
    clear b3 hc hq
    go_wp2_with (go_at_call 9; refine k1.mono ?_; rintro e w3 ⟨d, rfl, o3⟩; clear k1)
    go_loopw [7] (fun i wr => ∃ k m, k ≤ F.length ∧ i = .int .i64 (k : Nat) ∧ Dw.On W.heap.size W wr d m) (fun i _ => F.length - (intOf i).toNat)
    case atStart => exact ⟨0, _, Nat.zero_le _, rfl, o3⟩
    case round =>
      obtain ⟨k, m, hk, rfl, o4⟩ := hrel
      by_cases hlt : k < F.length
      · obtain ⟨s, hs⟩ : ∃ s, F[k]? = some s := ⟨_, List.getElem?_eq_getElem hlt⟩
        obtain ⟨g, off, rfl, hg, hst⟩ := hF (fun e => by rw [e] at hlt; exact absurd hlt (Nat.not_lt_zero _))
        obtain ⟨hcell, hfit⟩ := hst k s hs
        have hfits : ∀ w, Below W.heap.size W w → Dw.Fit w s := fun w hB => hfit.below hB
        have hw := Dw.way_done m s
        have hcl : ∀ {i : Nat} {v : Value}, (Dw.cells s)[i]? = some v → wr.cell? ⟨g, off + k * 8 + i, none⟩ = some v := fun hv => Dw.Steps.cells (F := F) hg hcell o4.below hv
        have S0 := o4.sit 45 (Dw.cells s)
        obtain ⟨Z, hZ⟩ : ∃ Z, Dw.play m s = Z := ⟨_, rfl⟩
        have kp : ∀ w, Dw.Sit W.heap.size W w d m wr.heap.size 45 (Dw.cells s) → _ := fun w h => h.play s (hfits w h.on.below) hZ
        unfold Dw.play at hZ
        obtain ⟨ib, hib, _⟩ := Tx.of (Dk.image m)
        obtain ⟨u, hu⟩ : ∃ u, Dk.used m.files = u := ⟨_, rfl⟩
        obtain ⟨x, hx⟩ : ∃ x, m.writes = x := ⟨_, rfl⟩
        obtain ⟨o, ho⟩ : ∃ o, m.off = o := ⟨_, rfl⟩
        have hwi := hcl (i := 0) rfl
        obtain ⟨ca, cc, hcv⟩ := hfit.cuts.form
        clear hs hst hcell hfit hfits
        obtain ⟨what, nm, to_, da, at_, nn, dn, cv, cs⟩ := s
        simp only at hcv
        subst hcv
        obtain ⟨cn, hcn⟩ : ∃ cn, cs.length = cn := ⟨_, rfl⟩
        obtain ⟨nb, hnb, _⟩ := Tx.of nm
        obtain ⟨tb, htb, _⟩ := Tx.of to_
        obtain ⟨db, hdb, _⟩ := Tx.of da
        unfold Dw.cells at kp S0 hcl
        simp only at kp S0 hZ hw
        rw [Tx.v_eq hnb, Tx.v_eq htb, Tx.v_eq hdb] at kp S0
        rw [hcn] at kp S0 hcl
        have c0 : wr.cell? ⟨g, off + k * 8, none⟩ = some (.int .i64 what) := hcl (i := 0) rfl
        have c1 : wr.cell? ⟨g, off + k * 8 + 1, none⟩ = some (.string nb) := (Tx.v_eq hnb) ▸ hcl (i := 1) rfl
        have c2 : wr.cell? ⟨g, off + k * 8 + 2, none⟩ = some (.string tb) := (Tx.v_eq htb) ▸ hcl (i := 2) rfl
        have c3 : wr.cell? ⟨g, off + k * 8 + 3, none⟩ = some (.string db) := (Tx.v_eq hdb) ▸ hcl (i := 3) rfl
        have c4 : wr.cell? ⟨g, off + k * 8 + 4, none⟩ = some (.int .i64 at_) := hcl (i := 4) rfl
        have c5 : wr.cell? ⟨g, off + k * 8 + 5, none⟩ = some (.int .i64 nn) := hcl (i := 5) rfl
        have c6 : wr.cell? ⟨g, off + k * 8 + 6, none⟩ = some (.bool dn) := hcl (i := 6) rfl
        have c7 : wr.cell? ⟨g, off + k * 8 + 7, none⟩ = some (.slice ca cn cc) := hcl (i := 7) rfl
        have HIB := Lib.hid hib
        have HU := Lib.hid hu
        have HX := Lib.hid hx
        have HO := Lib.hid ho
        clear hcl hwi hcn hib hu hx ho hnb htb hdb hF
        by_cases e8 : what = 8
        · subst e8
          rw [if_neg (by decide), if_pos rfl] at hZ
          subst hZ
          clear hw
          go_wp2_with (first
            | (go_at_call 25; refine (S0.image HIB.out).mono ?_; rintro e w1 ⟨rfl, S1⟩; have q0 := S1.cell 0; have q1 := S1.cell 1; have q2 := S1.cell 2; have q3 := S1.cell 3; have q4 := S1.cell 4; have q5 := S1.cell 5; have q6 := S1.cell 6; have q7 := S1.cell 7; simp only [List.getElem?_toArray, List.getElem?_cons_zero, List.getElem?_cons_succ] at q0 q1 q2 q3 q4 q5 q6 q7)
            | (go_at_call 26; refine (S1.on.used HU.out).mono ?_; rintro e w ⟨rfl, rfl⟩)
            | (go_at_call 27; refine (S2.on.writesHX.out).mono ?_; rintro e w ⟨rfl, rfl⟩)
            | (go_at_call 27; refine (S1.on.writes HX.out).mono ?_; rintro e w ⟨rfl, rfl⟩)
            | (go_at_call 17; refine (S1.on.down HO.out).mono ?_; rintro e w ⟨rfl, rfl⟩)
            | (go_at_call 28; refine (kp _ S1).mono ?_; rintro e w2 ⟨rfl, S2⟩; have r0 := S2.cell 0; simp only [List.getElem?_toArray, List.getElem?_cons_zero] at r0; clear q0 q1 q2 q3 q4 q5 q6 q7))
          go_roundw
          case rel => exact ⟨k + 1, _, hlt, by go_num, S2.on⟩
          case measure => simp [intOf]; omega
        by_cases e9 : what = 9
        · subst e9
          rw [if_neg (by decide), if_neg (by decide), if_pos rfl] at hZ
          subst hZ
          clear hw
          go_wp2_with (first
            | (go_at_call 25; refine (S0.image HIB.out).mono ?_; rintro e w1 ⟨rfl, S1⟩; have q0 := S1.cell 0; have q1 := S1.cell 1; have q2 := S1.cell 2; have q3 := S1.cell 3; have q4 := S1.cell 4; have q5 := S1.cell 5; have q6 := S1.cell 6; have q7 := S1.cell 7; simp only [List.getElem?_toArray, List.getElem?_cons_zero, List.getElem?_cons_succ] at q0 q1 q2 q3 q4 q5 q6 q7)
            | (go_at_call 26; refine (S1.on.used HU.out).mono ?_; rintro e w ⟨rfl, rfl⟩)
            | (go_at_call 27; refine (S2.on.writes HY).mono ?_; rintro e w ⟨rfl, rfl⟩)
            | (go_at_call 27; refine (S1.on.writes HX.out).mono ?_; rintro e w ⟨rfl, rfl⟩)
            | (go_at_call 17; refine (S1.on.down HO.out).mono ?_; rintro e w ⟨rfl, rfl⟩)
            | (go_at_call 28; refine (kp _ S1).mono ?_; rintro e w2 ⟨rfl, S2⟩; have r0 := S2.cell 0; simp only [List.getElem?_toArray, List.getElem?_cons_zero] at r0; clear q0 q1 q2 q3 q4 q5 q6 q7))
          go_roundw
          case rel => exact ⟨k + 1, _, hlt, by go_num, S2.on⟩
          case measure => simp [intOf]; omega
        have t8 : (what == 8) = false := beq_eq_false_iff_ne.2 e8
        have t9 : (what == 9) = false := beq_eq_false_iff_ne.2 e9
        by_cases e7 : what = 7
        · subst e7
          rw [if_pos rfl] at hZ
          subst hZ
          clear hw
          go_wp2_with (first
            | (go_at_call 25; refine (S2.image HIB.out).mono ?_; rintro e w3 ⟨rfl, S3⟩)
            | (go_at_call 25; refine (S0.image HIB.out).mono ?_; rintro e w1 ⟨rfl, S1⟩; have q0 := S1.cell 0; have q1 := S1.cell 1; have q2 := S1.cell 2; have q3 := S1.cell 3; have q4 := S1.cell 4; have q5 := S1.cell 5; have q6 := S1.cell 6; have q7 := S1.cell 7; simp only [List.getElem?_toArray, List.getElem?_cons_zero, List.getElem?_cons_succ] at q0 q1 q2 q3 q4 q5 q6 q7)
            | (go_at_call 26; refine (S3.on.used HU.out).mono ?_; rintro e w ⟨rfl, rfl⟩)
            | (go_at_call 26; refine (S1.on.used HU.out).mono ?_; rintro e w ⟨rfl, rfl⟩)
            | (go_at_call 27; refine (S3.on.writes HX.out).mono ?_; rintro e w ⟨rfl, rfl⟩)
            | (go_at_call 27; refine (S1.on.writes HX.out).mono ?_; rintro e w ⟨rfl, rfl⟩)
            | (go_at_call 17; refine (S3.on.down HO.out).mono ?_; rintro e w ⟨rfl, rfl⟩)
            | (go_at_call 17; refine (S1.on.down HO.out).mono ?_; rintro e w ⟨rfl, rfl⟩)
            | (go_at_call 28; refine (kp _ S1).mono ?_; rintro e w2 ⟨rfl, S2⟩; have r0 := S2.cell 0; simp only [List.getElem?_toArray, List.getElem?_cons_zero] at r0; clear q0 q1 q2 q3 q4 q5 q6 q7))
          go_roundw
          case rel => exact ⟨k + 1, _, hlt, by go_num, S3.on⟩
          case measure => simp [intOf]; omega
        have t7 : (what == 7) = false := beq_eq_false_iff_ne.2 e7
        rw [if_neg e7, if_neg e8, if_neg e9] at hZ
        by_cases hr : 1 ≤ what ∧ what ≤ 6
        · rw [if_pos (by omega)] at hZ
          rw [hZ] at hw
          obtain ⟨m2, e2⟩ := Z
          simp only at hw kp
          clear hZ
          obtain ⟨hr1, hr2⟩ := hr
          rcases hw with ⟨rfl, hw0, hw45⟩ | ⟨hw0, HY, hw1⟩
          · have u0 : (e2 != 0) = true := bne_iff_ne.2 hw0
            by_cases h45 : e2 = 45
            · obtain rfl : o = true := by rw [← HO.out]; exact hw45 h45
              subst h45
              clear hw45 hw0 u0
              go_wp2_with (first
                | (go_at_call 25; refine (S2.image HIB.out).mono ?_; rintro e w3 ⟨rfl, S3⟩)
                | (go_at_call 25; refine (S0.image HIB.out).mono ?_; rintro e w1 ⟨rfl, S1⟩; have q0 := S1.cell 0; have q1 := S1.cell 1; have q2 := S1.cell 2; have q3 := S1.cell 3; have q4 := S1.cell 4; have q5 := S1.cell 5; have q6 := S1.cell 6; have q7 := S1.cell 7; simp only [List.getElem?_toArray, List.getElem?_cons_zero, List.getElem?_cons_succ] at q0 q1 q2 q3 q4 q5 q6 q7)
                | (go_at_call 26; refine (S3.on.used HU.out).mono ?_; rintro e w ⟨rfl, rfl⟩)
                | (go_at_call 26; refine (S1.on.used HU.out).mono ?_; rintro e w ⟨rfl, rfl⟩)
                | (go_at_call 27; refine (S3.on.writes HX.out).mono ?_; rintro e w ⟨rfl, rfl⟩)
                | (go_at_call 27; refine (S1.on.writes HX.out).mono ?_; rintro e w ⟨rfl, rfl⟩)
                | (go_at_call 17; refine (S3.on.down HO.out).mono ?_; rintro e w ⟨rfl, rfl⟩)
                | (go_at_call 17; refine (S1.on.down HO.out).mono ?_; rintro e w ⟨rfl, rfl⟩)
                | (go_at_call 28; refine (kp _ S1).mono ?_; rintro e w2 ⟨rfl, S2⟩; have r0 := S2.cell 0; simp only [List.getElem?_toArray, List.getElem?_cons_zero] at r0; clear q0 q1 q2 q3 q4 q5 q6 q7))
              go_roundw
              case rel => exact ⟨k + 1, _, hlt, by go_num, S3.on⟩
              case measure => simp [intOf]; omega
            · have u45 : (e2 != 45) = true := bne_iff_ne.2 h45
              clear hw45 hw0 h45
              go_wp2_with (first
                | (go_at_call 25; refine (S2.image HIB.out).mono ?_; rintro e w3 ⟨rfl, S3⟩)
                | (go_at_call 25; refine (S0.image HIB.out).mono ?_; rintro e w1 ⟨rfl, S1⟩; have q0 := S1.cell 0; have q1 := S1.cell 1; have q2 := S1.cell 2; have q3 := S1.cell 3; have q4 := S1.cell 4; have q5 := S1.cell 5; have q6 := S1.cell 6; have q7 := S1.cell 7; simp only [List.getElem?_toArray, List.getElem?_cons_zero, List.getElem?_cons_succ] at q0 q1 q2 q3 q4 q5 q6 q7)
                | (go_at_call 26; refine (S3.on.used HU.out).mono ?_; rintro e w ⟨rfl, rfl⟩)
                | (go_at_call 26; refine (S1.on.used HU.out).mono ?_; rintro e w ⟨rfl, rfl⟩)
                | (go_at_call 27; refine (S3.on.writes HX.out).mono ?_; rintro e w ⟨rfl, rfl⟩)
                | (go_at_call 27; refine (S1.on.writes HX.out).mono ?_; rintro e w ⟨rfl, rfl⟩)
                | (go_at_call 17; refine (S3.on.down HO.out).mono ?_; rintro e w ⟨rfl, rfl⟩)
                | (go_at_call 17; refine (S1.on.down HO.out).mono ?_; rintro e w ⟨rfl, rfl⟩)
                | (go_at_call 28; refine (kp _ S1).mono ?_; rintro e w2 ⟨rfl, S2⟩; have r0 := S2.cell 0; simp only [List.getElem?_toArray, List.getElem?_cons_zero] at r0; clear q0 q1 q2 q3 q4 q5 q6 q7))
              go_roundw
              case rel => exact ⟨k + 1, _, hlt, by go_num, S3.on⟩
              case measure => simp [intOf]; omega
          · obtain rfl : o = false := by rw [← HO.out]; exact hw0
            clear hw0
            rw [HX.out] at HY
            rcases hw1 with rfl | rfl
            · have HY := Lib.hid HY
              go_wp2_with (first
                | (go_at_call 25; refine (S0.image HIB.out).mono ?_; rintro e w1 ⟨rfl, S1⟩; have q0 := S1.cell 0; have q1 := S1.cell 1; have q2 := S1.cell 2; have q3 := S1.cell 3; have q4 := S1.cell 4; have q5 := S1.cell 5; have q6 := S1.cell 6; have q7 := S1.cell 7; simp only [List.getElem?_toArray, List.getElem?_cons_zero, List.getElem?_cons_succ] at q0 q1 q2 q3 q4 q5 q6 q7)
                | (go_at_call 26; refine (S1.on.used HU.out).mono ?_; rintro e w ⟨rfl, rfl⟩)
                | (go_at_call 27; refine (S2.on.writes HY.out).mono ?_; rintro e w ⟨rfl, rfl⟩)
                | (go_at_call 27; refine (S1.on.writes HX.out).mono ?_; rintro e w ⟨rfl, rfl⟩)
                | (go_at_call 17; refine (S1.on.down HO.out).mono ?_; rintro e w ⟨rfl, rfl⟩)
                | (go_at_call 28; refine (kp _ S1).mono ?_; rintro e w2 ⟨rfl, S2⟩; have r0 := S2.cell 0; simp only [List.getElem?_toArray, List.getElem?_cons_zero] at r0; clear q0 q1 q2 q3 q4 q5 q6 q7))
              go_roundw
              case rel => exact ⟨k + 1, _, hlt, by go_num, S2.on⟩
              case measure => simp [intOf]; omega
            · have HY := Lib.hid HY
              go_wp2_with (first
                | (go_at_call 25; refine (S0.image HIB.out).mono ?_; rintro e w1 ⟨rfl, S1⟩; have q0 := S1.cell 0; have q1 := S1.cell 1; have q2 := S1.cell 2; have q3 := S1.cell 3; have q4 := S1.cell 4; have q5 := S1.cell 5; have q6 := S1.cell 6; have q7 := S1.cell 7; simp only [List.getElem?_toArray, List.getElem?_cons_zero, List.getElem?_cons_succ] at q0 q1 q2 q3 q4 q5 q6 q7)
                | (go_at_call 26; refine (S1.on.used HU.out).mono ?_; rintro e w ⟨rfl, rfl⟩)
                | (go_at_call 27; refine (S2.on.writes HY.out).mono ?_; rintro e w ⟨rfl, rfl⟩)
                | (go_at_call 27; refine (S1.on.writes HX.out).mono ?_; rintro e w ⟨rfl, rfl⟩)
                | (go_at_call 17; refine (S1.on.down HO.out).mono ?_; rintro e w ⟨rfl, rfl⟩)
                | (go_at_call 28; refine (kp _ S1).mono ?_; rintro e w2 ⟨rfl, S2⟩; have r0 := S2.cell 0; simp only [List.getElem?_toArray, List.getElem?_cons_zero] at r0; clear q0 q1 q2 q3 q4 q5 q6 q7))
              go_roundw
              case rel => exact ⟨k + 1, _, hlt, by go_num, S2.on⟩
              case measure => simp [intOf]; omega
        · rw [if_neg (by omega)] at hZ
          subst hZ
          clear hw
          by_cases hr1 : 1 ≤ what
          · have hr2 : 6 < what := by omega
            clear hr
            go_wp2_with (first
              | (go_at_call 25; refine (S0.image HIB.out).mono ?_; rintro e w1 ⟨rfl, S1⟩; have q0 := S1.cell 0; have q1 := S1.cell 1; have q2 := S1.cell 2; have q3 := S1.cell 3; have q4 := S1.cell 4; have q5 := S1.cell 5; have q6 := S1.cell 6; have q7 := S1.cell 7; simp only [List.getElem?_toArray, List.getElem?_cons_zero, List.getElem?_cons_succ] at q0 q1 q2 q3 q4 q5 q6 q7)
              | (go_at_call 26; refine (S1.on.used HU.out).mono ?_; rintro e w ⟨rfl, rfl⟩)
              | (go_at_call 27; refine (S2.on.writes HY).mono ?_; rintro e w ⟨rfl, rfl⟩)
              | (go_at_call 27; refine (S1.on.writes HX.out).mono ?_; rintro e w ⟨rfl, rfl⟩)
              | (go_at_call 17; refine (S1.on.down HO.out).mono ?_; rintro e w ⟨rfl, rfl⟩)
              | (go_at_call 28; refine (kp _ S1).mono ?_; rintro e w2 ⟨rfl, S2⟩; have r0 := S2.cell 0; simp only [List.getElem?_toArray, List.getElem?_cons_zero] at r0; clear q0 q1 q2 q3 q4 q5 q6 q7))
            go_roundw
            case rel => exact ⟨k + 1, _, hlt, by go_num, S2.on⟩
            case measure => simp [intOf]; omega
          · have hr3 : what < 1 := by omega
            clear hr
            go_wp2_with (first
              | (go_at_call 25; refine (S0.image HIB.out).mono ?_; rintro e w1 ⟨rfl, S1⟩; have q0 := S1.cell 0; have q1 := S1.cell 1; have q2 := S1.cell 2; have q3 := S1.cell 3; have q4 := S1.cell 4; have q5 := S1.cell 5; have q6 := S1.cell 6; have q7 := S1.cell 7; simp only [List.getElem?_toArray, List.getElem?_cons_zero, List.getElem?_cons_succ] at q0 q1 q2 q3 q4 q5 q6 q7)
              | (go_at_call 26; refine (S1.on.used HU.out).mono ?_; rintro e w ⟨rfl, rfl⟩)
              | (go_at_call 27; refine (S2.on.writes HY).mono ?_; rintro e w ⟨rfl, rfl⟩)
              | (go_at_call 27; refine (S1.on.writes HX.out).mono ?_; rintro e w ⟨rfl, rfl⟩)
              | (go_at_call 17; refine (S1.on.down HO.out).mono ?_; rintro e w ⟨rfl, rfl⟩)
              | (go_at_call 28; refine (kp _ S1).mono ?_; rintro e w2 ⟨rfl, S2⟩; have r0 := S2.cell 0; simp only [List.getElem?_toArray, List.getElem?_cons_zero] at r0; clear q0 q1 q2 q3 q4 q5 q6 q7))
            go_roundw
            case rel => exact ⟨k + 1, _, hlt, by go_num, S2.on⟩
            case measure => simp [intOf]; omega
      · obtain rfl : k = F.length := by omega
        have hz := o4.size
        have K1 := o4.crash (v := .slice none 0 0) (l := []) (.inl ⟨⟨none, 0, rfl⟩, rfl⟩) (by simp) (by simp) rfl
        obtain ⟨m1, hm1⟩ : ∃ m1, Dk.crash m [] = m1 := ⟨_, rfl⟩
        rw [hm1] at K1
        obtain ⟨m2, hm2⟩ : ∃ m2, Dk.crash m1 [⟨[97], 5, 255⟩] = m2 := ⟨_, rfl⟩
        have hf2 : m2.files = m1.files := by rw [← hm2, ← hm1]; exact Dw.crash_again o4.good _ _
        obtain ⟨ib, hib, _⟩ := Tx.of (Dk.image m1)
        have hib2 : ib.data.toList = Dk.image m2 := by rw [hib]; unfold Dk.image; rw [hf2]
        obtain ⟨u, hu⟩ : ∃ u, Dk.used m1.files = u := ⟨_, rfl⟩
        have hu2 : Dk.used m2.files = u := by rw [hf2]; exact hu
        obtain ⟨x, hx⟩ : ∃ x, m1.age = x := ⟨_, rfl⟩
        have hx2 : m2.age = IntKind.i64.wrap (x + 1) := by rw [← hm2, ← hx]; rfl
        have ho2 : m2.off = false := by rw [← hm2]; rfl
        have HIB := Lib.hid hib
        have HIB2 := Lib.hid hib2
        have HU := Lib.hid hu
        have HU2 := Lib.hid hu2
        have HX := Lib.hid hx
        have HX2 := Lib.hid hx2
        have HO2 := Lib.hid ho2
        have HM2 := Lib.hid hm2
        clear hib hib2 hu hu2 hx hx2 ho2 hm2 hf2 hm1 hF
        go_wp2_with (first
          | (go_at_call 18; refine (o6.later ((Below.refl _ _).alloc (Nat.le_refl _) _)).crash (Dw.cut1 w6 ⟨#[97]⟩ 5 255 _) (by decide) (by decide) HM2.out |>.mono ?_; rintro e w7 ⟨rfl, o7⟩)
          | (go_at_call 18; refine K1.mono ?_; rintro e w5 ⟨rfl, o5⟩)
          | (go_at_call 25; refine (o7.image HIB2.out).mono ?_; rintro e w8 ⟨rfl, o8⟩)
          | (go_at_call 25; refine (o5.image HIB.out).mono ?_; rintro e w6 ⟨rfl, o6⟩)
          | (go_at_call 26; refine (o8.used HU2.out).mono ?_; rintro e w ⟨rfl, rfl⟩)
          | (go_at_call 26; refine (o6.used HU.out).mono ?_; rintro e w ⟨rfl, rfl⟩)
          | (go_at_call 29; refine (o8.age HX2.out).mono ?_; rintro e w ⟨rfl, rfl⟩)
          | (go_at_call 29; refine (o6.age HX.out).mono ?_; rintro e w ⟨rfl, rfl⟩)
          | (go_at_call 17; refine (o8.down HO2.out).mono ?_; rintro e w ⟨rfl, rfl⟩))
        go_ret
        exact ⟨rfl, o8.below⟩
#print axioms Dw.quiet
end Go.Proofs.Ytgbeeghdoilmkaa
