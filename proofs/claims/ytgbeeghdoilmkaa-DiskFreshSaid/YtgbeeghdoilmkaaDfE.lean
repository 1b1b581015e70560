/- The law DiskFresh, the walk. Conditions: each theorem's own hypotheses. -/
import Derived.Test.YtgbeeghdoilmkaaDfB
import Derived.Test.YtgbeeghdoilmkaaDfC
import Derived.Deep.RegionHeld3
namespace Go.Proofs.Ytgbeeghdoilmkaa
open Go.RowKit Go.Maps Go.Sort
set_option linter.unusedVariables false
set_option linter.unusedSimpArgs false

set_option maxRecDepth 100000 in
set_option maxHeartbeats 16000000 in
theorem Df.fresh_law (W : World) (s : ByteArray) (hs : s.size ≤ 9223372036854775807) (A : Option Addr) (cp : Nat) (L : List Dw.S) (hF : Dw.Steps W A L) (hl : L.length ≤ 1400000000000) :
    Calls Try.prog 8 #[.string s, .slice A L.length cp] W fun e W' => e = .returned (.bool true) ∧ Below W.heap.size W W' := by
  obtain ⟨il, hil, hl0, hl1, hl2⟩ := info_parts Df.listInfo
  obtain ⟨Z, hZ⟩ : ∃ Z, Dk.opened s.data.toList 1048576 = Z := ⟨_, rfl⟩
  have k3 : ∀ w, _ := fun w => Dk.open_any w s hs 1048576 (by decide)
  have k4 : ∀ w, _ := fun w => Dr.open_any w s hs 1048576 (by decide)
  rw [hZ] at k3 k4
  cases Z with
  | error x =>
    have hx := Dk.opened_error hZ
    have hwx : IntKind.i64.wrap x = x := IntWalk.i64_in _ (by omega)
    have hfg : Dk.Good (Dk.fresh 1048576) := Dk.fresh_good 1048576 (by decide)
    have k1 : ∀ w, _ := fun w => Dk.new_any 1048576 (by decide) w
    have k2 : ∀ w, _ := fun w => Dr.new_any 1048576 (by decide) w
    clear hZ hx
    go_enter Try.func8, Try.ntmps8
    go_upto_region 10 with (first
      | (go_at_call 11; refine (k3 _).mono ?_; clear k3; rintro e w3 ⟨d, rfl, b3, A3⟩; unfold Dk.openV; have k5 := k4 w3; clear k4)
      | (go_at_call 12; refine k5.mono ?_; clear k5; rintro e w4 ⟨r, rfl, b4, A4⟩; unfold Dr.openV)
      | (go_at_call 9; refine (k1 _).mono ?_; clear k1; rintro e w5 ⟨dd, F5, rfl, A5, b5, f5⟩)
      | (go_at_call 10; refine (k2 _).mono ?_; clear k2; rintro e w6 ⟨rr, F6, rfl, A6, b6, f6⟩))
    have b34 := b3.trans (b4.mono b3.size)
    have b345 := b34.trans (b5.mono b34.size)
    have b36 := b345.trans (b6.mono b345.size)
    have D0 : Dp.Duo W.heap.size W w6 dd (Dk.fresh 1048576) rr (Dk.fresh 1048576) [] := .make A5 (fun k hk => Nat.le_trans b34.size (f5 k hk)) b345.size b6 A6 f6 b36 hfg
    clear A3 A4 A5 A6 f5 f6 b3 b4 b5 b6 b34 b345 b36 d r
    have HLK := Lib.hid (Dp.Like.refl (Dk.fresh 1048576))
    have D0h := D0.hand
    go_upto_region 12 with fail
    go_loopw [10] (fun i wr => ∃ k a b, k ≤ L.length ∧ i = .int .i64 (k : Nat) ∧ Dp.Trio W wr dd a rr b w6.heap.size ∧ Hid (Dp.Like a b)) (fun i _ => L.length - (intOf i).toNat)
    case atStart => exact ⟨0, _, _, Nat.zero_le _, rfl, D0h, HLK⟩
    case round =>
      clear D0 D0h HLK
      obtain ⟨k, a, b, hk, rfl, T1, HS⟩ := hrel
      by_cases hlt : k < L.length
      · obtain ⟨s, hs⟩ : ∃ s, L[k]? = some s := ⟨_, List.getElem?_eq_getElem hlt⟩
        obtain ⟨g, off, rfl, hg, hst⟩ := hF (fun e => by rw [e] at hlt; exact absurd hlt (Nat.not_lt_zero _))
        obtain ⟨hcell, hfit⟩ := hst k s hs
        obtain ⟨a2, ha2⟩ : ∃ a2, Dp.st a s = a2 := ⟨_, rfl⟩
        obtain ⟨b2, hb2⟩ : ∃ b2, Dp.st2 b s = b2 := ⟨_, rfl⟩
        have hS1 := Dp.like_st HS.out s
        rw [ha2, hb2] at hS1
        have kp := T1.act HS.out s hfit ha2 hb2
        have HS1 := Lib.hid hS1
        clear hS1 ha2 hb2 HS
        obtain ⟨ca, cc, hcv⟩ := hfit.cuts.form
        obtain ⟨nb, hnb, _⟩ := Tx.of s.name
        obtain ⟨tb, htb, _⟩ := Tx.of s.to_
        obtain ⟨db, hdb, _⟩ := Tx.of s.data
        have hcl := fun {w} (hB : Below W.heap.size W w) => Dw.Steps.eight (k := k) hg hcell hB hnb htb hdb
        clear hs hst hcell hfit
        obtain ⟨what, nm, to_, da, at_, nn, dn, cv, cs⟩ := s
        simp only at hcv hnb htb hdb hcl
        subst hcv
        unfold Dw.cells at kp
        simp only at kp
        simp only [Tx.v_eq hnb, Tx.v_eq htb, Tx.v_eq hdb] at kp
        obtain ⟨cn, hcn⟩ : ∃ cn, cs.length = cn := ⟨_, rfl⟩
        simp only [hcn] at kp hcl
        obtain ⟨x0, x1, x2, x3, x4, x5, x6, x7⟩ := hcl T1.below
        clear hcn hnb htb hdb hF hcl T1
        go_wp2_with (go_at_call 32; refine kp.mono ?_; clear kp; rintro e w2 ⟨rfl, T2⟩; clear x0 x1 x2 x3 x4 x5 x6 x7)
        go_roundw
        case rel => exact ⟨k + 1, _, _, hlt, by go_num, T2, HS1⟩
        case measure => simp [intOf]; omega
      · obtain rfl : L.length = k := by omega
        obtain ⟨M1, M2, hLM, kwh⟩ := T1.whole HS.out
        clear hF T1 HS hk hlt
        go_upto_region 21 with (go_at_call 33; refine kwh.mono ?_; clear kwh; rintro e w7 ⟨rfl, D7⟩)
        have HL := Lib.hid (show Df.LR W.heap.size W dd rr 5 (.slice none 0 0) (.slice none 0 0) (.int .i64 ((0 : Nat) : Int)) w7 from ⟨0, M1, M2, [], none, 0, none, 0, rfl, rfl, rfl, rfl, rfl, hLM, ((Df.Lx.start D7).push (R := ⟨63, .slice none 0 0, []⟩) (Below.refl _ _) (World.ownsRow_nil _ _ _ _)).push (R := ⟨63, .slice none 0 0, []⟩) (Below.refl _ _) (World.ownsRow_nil _ _ _ _), fun p hp => (List.not_mem_nil hp).elim⟩)
        clear D7 hLM M1 M2
        go_loopg [12, 13, 14] 5 (fun m vl vw vi wr => Df.LR W.heap.size W dd rr m vl vw vi wr)
        case atStart => exact HL.out
        case round =>
          clear HL
          obtain ⟨i, N1, N2, ns, Av, cv, Aw, cw, hmi, hni, rfl, rfl, rfl, hlk, hLx, hl96⟩ := hrel
          by_cases hi5 : i = 5
          · have u1 : decide ((i : Int) < 5) = false := decide_eq_false (by omega)
            have hto := hlk.told
            have HX := Lib.hid (And.intro (hni.trans hi5) (And.intro hl96 hto))
            have HLx := Lib.hid hLx
            clear hmi hni hi5 hl96 hlk hto hLx
            go_upto_region 35 with fail
            go_loopg [19] 5 (fun m v w => ∃ j : Nat, m + j = 5 ∧ v = .int .i64 (j : Nat) ∧ Hid (Df.Lx W.heap.size W dd N1 rr N2 (Df.all (.slice Av ns.length cv) (.slice Aw ns.length cw) ns) w))
            case atStart => exact ⟨0, rfl, rfl, HLx⟩
            case round =>
              clear HLx u1
              obtain ⟨j, hmj, rfl, hL2⟩ := hrel
              by_cases hj5 : j = 5
              · have u1 : decide ((j : Int) < 5) = false := decide_eq_false (by omega)
                have kap := Df.apart_any (hL2.out.ap HX.out.2.1) hL2.out.duo.size (by rw [List.length_map]; exact Nat.le_of_eq HX.out.1)
                clear hmj hj5
                go_wp2_with (first
                  | (go_at_call 37; refine kap.mono ?_; clear kap; rintro e x1 ⟨rfl, ho⟩; have D1 := hL2.out.apart ho; have kn1 := (Df.Lx.start D1).names1)
                  | (go_at_call 31; refine kn1.mono ?_; clear kn1; rintro e x2 ⟨v1, rfl, E1⟩; have kn2 := E1.names2 HX.out.2.2.symm)
                  | (go_at_call 36; refine kn2.mono ?_; clear kn2; rintro e x3 ⟨v2, rfl, E2⟩
                     have ks := Dw.same_any (E2.txs (List.mem_append_left _ (List.mem_append_right _ (List.mem_singleton.2 rfl)))) (E2.txs (List.mem_append_right _ (List.mem_singleton.2 rfl))) (Nat.le_trans E2.told_len (by decide))
                     rw [decide_eq_true (rfl : Dk.told N1 = Dk.told N1)] at ks)
                  | (go_at_call 30; refine ks.mono ?_; clear ks; rintro e x4 ⟨rfl, n4, rfl⟩))
                go_ret
                exact ⟨rfl, (E2.later (below_dn (Below.refl _ x3) n4)).duo.below⟩
              · have u1 : decide ((j : Int) < 5) = true := decide_eq_true (by omega)
                obtain ⟨p, hp⟩ : ∃ p, ns[j]? = some p := ⟨_, List.getElem?_eq_getElem (by have := HX.out.1; omega)⟩
                have hjn : j < ns.length := by have := HX.out.1; omega
                obtain ⟨g1, hA1, hc1, hd1, s1⟩ := Df.lcell hL2.out.outer1 (show (ns.map fun p => p.1)[j]? = some p.1 by rw [List.getElem?_map, hp]; rfl)
                obtain ⟨g2, hA2, hc2, hd2, s2⟩ := Df.lcell hL2.out.outer2 (show (ns.map fun p => p.2.1)[j]? = some p.2.1 by rw [List.getElem?_map, hp]; rfl)
                obtain ⟨q1, q2⟩ := Df.nrs_get ns j p hp
                have hsm := fun (X : World) (h : Df.Lx W.heap.size W dd N1 rr N2 (Df.all (.slice Av ns.length cv) (.slice Aw ns.length cw) ns) X) => Dw.same_any (h.txs (v := p.1) (l := p.2.2) (List.mem_cons_of_mem _ (List.mem_cons_of_mem _ (List.mem_of_getElem? q1)))) (h.txs (v := p.2.1) (l := p.2.2) (List.mem_cons_of_mem _ (List.mem_cons_of_mem _ (List.mem_of_getElem? q2)))) (Nat.le_trans (HX.out.2.1 p (List.mem_of_getElem? hp)) (by decide))
                simp only [decide_true] at hsm
                obtain ⟨v1, v2, l⟩ := p
                simp only at s1 s2 hsm
                have E1 := hL2.out.later (Below.refl _ wr).drew
                have S1 : wr.drew.cell? ⟨g1, j, none⟩ = some v1 ∧ wr.drew.cell? ⟨g2, j, none⟩ = some v2 := ⟨s1, s2⟩
                have hj4 : j < 5 := by omega
                have HJ := Lib.hid hmj
                have HL3 := Lib.hid hL2.out
                clear hp q1 q2 hmj hj5 hL2 s1 s2
                subst hA1 hA2
                go_upto_region 37 with fail
                go_region_held3 (fun W' => W'.cell? ⟨g1, j, none⟩ = some v1 ∧ W'.cell? ⟨g2, j, none⟩ = some v2)
                  (first
                    | with_reducible assumption)
                  (first
                    | (go_at_call 30; refine (hsm _ (by with_reducible assumption)).mono ?_; clear hsm; rintro e x2 ⟨rfl, n2, rfl⟩; have E2 := HL3.out.later (below_dn (Below.refl _ wr) (1 + n2)); have S2 : (wr.drewN (1 + n2)).cell? ⟨g1, j, none⟩ = some v1 ∧ (wr.drewN (1 + n2)).cell? ⟨g2, j, none⟩ = some v2 := S1))
                all_goals
                  go_wp2_with fail
                  go_roundg (gk - 1)
                  case measure => have := HJ.out; omega
                  case rel => exact ⟨j + 1, by have := HJ.out; omega, congrArg (Value.int .i64) (by omega), E2⟩
          · have u1 : decide ((i : Int) < 5) = true := decide_eq_true (by omega)
            have hi4 : i < 5 := by omega
            have HX := Lib.hid (And.intro hmi (And.intro hni hl96))
            clear hmi hni hl96
            go_upto_region 23 with fail
            go_cut [77] (fun v X => ∃ q : Bool, v = .bool q ∧ wr = X)
            case first =>
              by_cases h2 : i = 2
              · have u2 : ((i : Int) == 2) = true := by rw [h2]; rfl
                clear h2
                go_wp2_with fail
                go_meet
                exact ⟨_, rfl, rfl⟩
              · have u2 : ((i : Int) == 2) = false := beq_eq_false_iff_ne.2 (by omega)
                by_cases h4 : i = 4
                · have u4 : ((i : Int) == 4) = true := by rw [h4]; rfl
                  clear h4 h2
                  go_wp2_with fail
                  go_meet
                  exact ⟨_, rfl, rfl⟩
                · have u4 : ((i : Int) == 4) = false := beq_eq_false_iff_ne.2 (by omega)
                  clear h4 h2
                  go_wp2_with fail
                  go_meet
                  exact ⟨_, rfl, rfl⟩
            case rest =>
            obtain ⟨q, rfl, rfl⟩ := hcut
            clear hi5
            cases q with
            | true =>
              obtain ⟨P1, P2, hlp, kch⟩ := Df.changed_any (B := W.heap.size) (W0 := W) (w := wr) (d := dd) (r := rr) hlk
              have kch2 := kch _ hLx.duo
              have HLx := Lib.hid hLx
              clear kch hlk hLx
              go_upto_region 27 with (go_at_call 35; refine kch2.mono ?_; clear kch2; rintro e w9 ⟨rfl, D9⟩)
              have E9 := HLx.out.moved D9
              clear HLx D9
              have hto := hlp.told
              obtain ⟨nl, hnl⟩ : ∃ nl, Dk.told P1 = nl := ⟨_, rfl⟩
              have hlen : nl.length ≤ 4096 := by rw [← hnl]; exact E9.told_len
              have kn1 := E9.names1
              rw [hnl] at kn1 hto
              have kn2 := fun {X : World} {rs : List Df.Row} (h : Df.Lx W.heap.size W dd P1 rr P2 rs X) => h.names2 hto.symm
              have HQ := Lib.hid (And.intro hlp hto)
              clear hnl hto hlp E9
              go_upto_region 32 with (first
                | (go_at_call 31; refine kn1.mono ?_; clear kn1; rintro e x1 ⟨v1, rfl, E1⟩; obtain ⟨a1, c1, rfl⟩ := (E1.txs (List.mem_append_right _ (List.mem_singleton.2 rfl))).form; have kn3 := kn2 E1; clear kn2)
                | (go_at_call 36; refine kn3.mono ?_; clear kn3; rintro e x2 ⟨v2, rfl, E2⟩; obtain ⟨a2, c2, rfl⟩ := (E2.txs (List.mem_append_right _ (List.mem_singleton.2 rfl))).form
                   have ks := Dw.same_any (E2.txs (List.mem_append_left _ (List.mem_append_right _ (List.mem_singleton.2 rfl)))) (E2.txs (List.mem_append_right _ (List.mem_singleton.2 rfl))) (by omega)
                   rw [decide_eq_true (rfl : nl = nl)] at ks)
                | (go_at_call 30; refine ks.mono ?_; clear ks; rintro e x3 ⟨rfl, n3, rfl⟩; have E3 := E2.later (below_dn (Below.refl _ x2) n3)))
              have E4 : Df.Lx W.heap.size W dd P1 rr P2 (⟨63, .slice Av ns.length cv, ns.map fun p => p.1⟩ :: ⟨63, .slice Aw ns.length cw, ns.map fun p => p.2.1⟩ :: Df.nrs (ns ++ [(.slice a1 nl.length c1, .slice a2 nl.length c2, nl)])) (x2.drewN n3) := by rw [Df.nrs_push]; exact E3
              clear E1 E2 E3
              obtain ⟨X3, hX3⟩ : ∃ X3, x2.drewN n3 = X3 := ⟨_, rfl⟩
              rw [hX3] at E4 ⊢
              clear hX3
              have r1 := E4.rows _ (List.mem_cons_self ..)
              unfold Df.Row.own at r1
              simp only [List.length_map] at r1
              have hsz := E4.duo.size
              have hn5 : ns.length ≤ 5 := by have := HX.out.2.1; omega
              have H4 := Lib.hid E4
              clear E4
              go_upto_region 33 with (at_builtin; refine wpList_append_own_at _ rfl _ _ 72 rfl W.heap.size 63 il (.slice none 0 0) 1 24 Try.underlying72 hil hl0 hl1 hl2 rfl (by decide) (.slice Av ns.length cv) ns.length _ rfl (r1.alloc _) ⟨X3.heap.size, 0, none⟩ 1 1 [.slice a1 nl.length c1] rfl rfl (cell_one_new _ _ _) (by simp [Value.oneCell']) (by unfold maxLen; omega) (by omega) (by simp; omega) ?_; intro v' y1 hown' hg' hnil hat'; obtain ⟨A9, c9, rfl⟩ := Df.row_form hown'; have H5 := Lib.hid (H4.out.grown _ (by simp) hown' hg' hat'); clear hown' hg' hnil hat')
              have r2 := H5.out.rows _ (List.mem_cons_of_mem _ (List.mem_cons_self ..))
              unfold Df.Row.own at r2
              simp only [List.length_map] at r2
              have hsz2 := H5.out.duo.size
              clear r1 H4 hsz
              go_wp2_with (at_builtin; refine wpList_append_own_at _ rfl _ _ 72 rfl W.heap.size 63 il (.slice none 0 0) 1 24 Try.underlying72 hil hl0 hl1 hl2 rfl (by decide) (.slice Aw ns.length cw) ns.length _ rfl (r2.alloc _) ⟨y1.heap.size, 0, none⟩ 1 1 [.slice a2 nl.length c2] rfl rfl (cell_one_new _ _ _) (by simp [Value.oneCell']) (by unfold maxLen; omega) (by omega) (by simp; omega) ?_; intro v' y2 hown' hg' hnil hat'; obtain ⟨A8, c8, rfl⟩ := Df.row_form hown'; have H6 := Lib.hid (H5.out.grown2 _ (by simp) hown' hg' hat'); clear hown' hg' hnil hat')
              go_roundg (gk - 1)
              case measure => have := HX.out.1; omega
              case rel => exact ⟨i + 1, P1, P2, ns ++ [(.slice a1 nl.length c1, .slice a2 nl.length c2, nl)], A9, c9, A8, c8, by have := HX.out.1; omega, by rw [List.length_append, HX.out.2.1]; rfl, congrArg (Value.int .i64) (by omega), by rw [List.length_append]; rfl, by rw [List.length_append]; rfl, HQ.out.1, by have := H6.out; unfold Df.all; rw [List.map_append, List.map_append]; exact this, fun p hp => (List.mem_append.1 hp).elim (HX.out.2.2 p) fun e => by rw [List.mem_singleton.1 e]; exact hlen⟩
            | false =>
              go_upto_region 27 with fail
              have hto := hlk.told
              obtain ⟨nl, hnl⟩ : ∃ nl, Dk.told N1 = nl := ⟨_, rfl⟩
              have hlen : nl.length ≤ 4096 := by rw [← hnl]; exact hLx.told_len
              have kn1 := hLx.names1
              rw [hnl] at kn1 hto
              have kn2 := fun {X : World} {rs : List Df.Row} (h : Df.Lx W.heap.size W dd N1 rr N2 rs X) => h.names2 hto.symm
              have HQ := Lib.hid (And.intro hlk hto)
              clear hnl hto hlk hLx
              go_upto_region 32 with (first
                | (go_at_call 31; refine kn1.mono ?_; clear kn1; rintro e x1 ⟨v1, rfl, E1⟩; obtain ⟨a1, c1, rfl⟩ := (E1.txs (List.mem_append_right _ (List.mem_singleton.2 rfl))).form; have kn3 := kn2 E1; clear kn2)
                | (go_at_call 36; refine kn3.mono ?_; clear kn3; rintro e x2 ⟨v2, rfl, E2⟩; obtain ⟨a2, c2, rfl⟩ := (E2.txs (List.mem_append_right _ (List.mem_singleton.2 rfl))).form
                   have ks := Dw.same_any (E2.txs (List.mem_append_left _ (List.mem_append_right _ (List.mem_singleton.2 rfl)))) (E2.txs (List.mem_append_right _ (List.mem_singleton.2 rfl))) (by omega)
                   rw [decide_eq_true (rfl : nl = nl)] at ks)
                | (go_at_call 30; refine ks.mono ?_; clear ks; rintro e x3 ⟨rfl, n3, rfl⟩; have E3 := E2.later (below_dn (Below.refl _ x2) n3)))
              have E4 : Df.Lx W.heap.size W dd N1 rr N2 (⟨63, .slice Av ns.length cv, ns.map fun p => p.1⟩ :: ⟨63, .slice Aw ns.length cw, ns.map fun p => p.2.1⟩ :: Df.nrs (ns ++ [(.slice a1 nl.length c1, .slice a2 nl.length c2, nl)])) (x2.drewN n3) := by rw [Df.nrs_push]; exact E3
              clear E1 E2 E3
              obtain ⟨X3, hX3⟩ : ∃ X3, x2.drewN n3 = X3 := ⟨_, rfl⟩
              rw [hX3] at E4 ⊢
              clear hX3
              have r1 := E4.rows _ (List.mem_cons_self ..)
              unfold Df.Row.own at r1
              simp only [List.length_map] at r1
              have hsz := E4.duo.size
              have hn5 : ns.length ≤ 5 := by have := HX.out.2.1; omega
              have H4 := Lib.hid E4
              clear E4
              go_upto_region 33 with (at_builtin; refine wpList_append_own_at _ rfl _ _ 72 rfl W.heap.size 63 il (.slice none 0 0) 1 24 Try.underlying72 hil hl0 hl1 hl2 rfl (by decide) (.slice Av ns.length cv) ns.length _ rfl (r1.alloc _) ⟨X3.heap.size, 0, none⟩ 1 1 [.slice a1 nl.length c1] rfl rfl (cell_one_new _ _ _) (by simp [Value.oneCell']) (by unfold maxLen; omega) (by omega) (by simp; omega) ?_; intro v' y1 hown' hg' hnil hat'; obtain ⟨A9, c9, rfl⟩ := Df.row_form hown'; have H5 := Lib.hid (H4.out.grown _ (by simp) hown' hg' hat'); clear hown' hg' hnil hat')
              have r2 := H5.out.rows _ (List.mem_cons_of_mem _ (List.mem_cons_self ..))
              unfold Df.Row.own at r2
              simp only [List.length_map] at r2
              have hsz2 := H5.out.duo.size
              clear r1 H4 hsz
              go_wp2_with (at_builtin; refine wpList_append_own_at _ rfl _ _ 72 rfl W.heap.size 63 il (.slice none 0 0) 1 24 Try.underlying72 hil hl0 hl1 hl2 rfl (by decide) (.slice Aw ns.length cw) ns.length _ rfl (r2.alloc _) ⟨y1.heap.size, 0, none⟩ 1 1 [.slice a2 nl.length c2] rfl rfl (cell_one_new _ _ _) (by simp [Value.oneCell']) (by unfold maxLen; omega) (by omega) (by simp; omega) ?_; intro v' y2 hown' hg' hnil hat'; obtain ⟨A8, c8, rfl⟩ := Df.row_form hown'; have H6 := Lib.hid (H5.out.grown2 _ (by simp) hown' hg' hat'); clear hown' hg' hnil hat')
              go_roundg (gk - 1)
              case measure => have := HX.out.1; omega
              case rel => exact ⟨i + 1, N1, N2, ns ++ [(.slice a1 nl.length c1, .slice a2 nl.length c2, nl)], A9, c9, A8, c8, by have := HX.out.1; omega, by rw [List.length_append, HX.out.2.1]; rfl, congrArg (Value.int .i64) (by omega), by rw [List.length_append]; rfl, by rw [List.length_append]; rfl, HQ.out.1, by have := H6.out; unfold Df.all; rw [List.map_append, List.map_append]; exact this, fun p hp => (List.mem_append.1 hp).elim (HX.out.2.2 p) fun e => by rw [List.mem_singleton.1 e]; exact hlen⟩
  | ok m =>
    obtain ⟨hG, _⟩ := Dk.opened_good hZ
    clear hZ
    go_enter Try.func8, Try.ntmps8
    go_upto_region 10 with (first
      | (go_at_call 11; refine (k3 _).mono ?_; clear k3; rintro e w3 ⟨d, rfl, b3, A3⟩; unfold Dk.openV; have k5 := k4 w3; clear k4)
      | (go_at_call 12; refine k5.mono ?_; clear k5; rintro e w4 ⟨r, rfl, b4, A4⟩; unfold Dr.openV))
    obtain ⟨F3, A3, f3⟩ := A3 m rfl
    obtain ⟨F4, A4, f4⟩ := A4 m rfl
    have D0 : Dp.Duo W.heap.size W w4 d m r m [] := .make A3 f3 b3.size b4 A4 f4 (b3.trans (b4.mono b3.size)) hG
    clear A3 A4 f3 f4 b3 b4 F3 F4
    have HLK := Lib.hid (Dp.Like.refl m)
    have D0h := D0.hand
    go_upto_region 12 with fail
    go_loopw [10] (fun i wr => ∃ k a b, k ≤ L.length ∧ i = .int .i64 (k : Nat) ∧ Dp.Trio W wr d a r b w4.heap.size ∧ Hid (Dp.Like a b)) (fun i _ => L.length - (intOf i).toNat)
    case atStart => exact ⟨0, _, _, Nat.zero_le _, rfl, D0h, HLK⟩
    case round =>
      clear D0 D0h HLK
      obtain ⟨k, a, b, hk, rfl, T1, HS⟩ := hrel
      by_cases hlt : k < L.length
      · obtain ⟨s, hs⟩ : ∃ s, L[k]? = some s := ⟨_, List.getElem?_eq_getElem hlt⟩
        obtain ⟨g, off, rfl, hg, hst⟩ := hF (fun e => by rw [e] at hlt; exact absurd hlt (Nat.not_lt_zero _))
        obtain ⟨hcell, hfit⟩ := hst k s hs
        obtain ⟨a2, ha2⟩ : ∃ a2, Dp.st a s = a2 := ⟨_, rfl⟩
        obtain ⟨b2, hb2⟩ : ∃ b2, Dp.st2 b s = b2 := ⟨_, rfl⟩
        have hS1 := Dp.like_st HS.out s
        rw [ha2, hb2] at hS1
        have kp := T1.act HS.out s hfit ha2 hb2
        have HS1 := Lib.hid hS1
        clear hS1 ha2 hb2 HS
        obtain ⟨ca, cc, hcv⟩ := hfit.cuts.form
        obtain ⟨nb, hnb, _⟩ := Tx.of s.name
        obtain ⟨tb, htb, _⟩ := Tx.of s.to_
        obtain ⟨db, hdb, _⟩ := Tx.of s.data
        have hcl := fun {w} (hB : Below W.heap.size W w) => Dw.Steps.eight (k := k) hg hcell hB hnb htb hdb
        clear hs hst hcell hfit
        obtain ⟨what, nm, to_, da, at_, nn, dn, cv, cs⟩ := s
        simp only at hcv hnb htb hdb hcl
        subst hcv
        unfold Dw.cells at kp
        simp only at kp
        simp only [Tx.v_eq hnb, Tx.v_eq htb, Tx.v_eq hdb] at kp
        obtain ⟨cn, hcn⟩ : ∃ cn, cs.length = cn := ⟨_, rfl⟩
        simp only [hcn] at kp hcl
        obtain ⟨x0, x1, x2, x3, x4, x5, x6, x7⟩ := hcl T1.below
        clear hcn hnb htb hdb hF hcl T1
        go_wp2_with (go_at_call 32; refine kp.mono ?_; clear kp; rintro e w2 ⟨rfl, T2⟩; clear x0 x1 x2 x3 x4 x5 x6 x7)
        go_roundw
        case rel => exact ⟨k + 1, _, _, hlt, by go_num, T2, HS1⟩
        case measure => simp [intOf]; omega
      · obtain rfl : L.length = k := by omega
        obtain ⟨M1, M2, hLM, kwh⟩ := T1.whole HS.out
        clear hF T1 HS hk hlt
        go_upto_region 21 with (go_at_call 33; refine kwh.mono ?_; clear kwh; rintro e w7 ⟨rfl, D7⟩)
        have HL := Lib.hid (show Df.LR W.heap.size W d r 5 (.slice none 0 0) (.slice none 0 0) (.int .i64 ((0 : Nat) : Int)) w7 from ⟨0, M1, M2, [], none, 0, none, 0, rfl, rfl, rfl, rfl, rfl, hLM, ((Df.Lx.start D7).push (R := ⟨63, .slice none 0 0, []⟩) (Below.refl _ _) (World.ownsRow_nil _ _ _ _)).push (R := ⟨63, .slice none 0 0, []⟩) (Below.refl _ _) (World.ownsRow_nil _ _ _ _), fun p hp => (List.not_mem_nil hp).elim⟩)
        clear D7 hLM M1 M2
        go_loopg [12, 13, 14] 5 (fun m vl vw vi wr => Df.LR W.heap.size W d r m vl vw vi wr)
        case atStart => exact HL.out
        case round =>
          clear HL
          obtain ⟨i, N1, N2, ns, Av, cv, Aw, cw, hmi, hni, rfl, rfl, rfl, hlk, hLx, hl96⟩ := hrel
          by_cases hi5 : i = 5
          · have u1 : decide ((i : Int) < 5) = false := decide_eq_false (by omega)
            have hto := hlk.told
            have HX := Lib.hid (And.intro (hni.trans hi5) (And.intro hl96 hto))
            have HLx := Lib.hid hLx
            clear hmi hni hi5 hl96 hlk hto hLx
            go_upto_region 35 with fail
            go_loopg [19] 5 (fun m v w => ∃ j : Nat, m + j = 5 ∧ v = .int .i64 (j : Nat) ∧ Hid (Df.Lx W.heap.size W d N1 r N2 (Df.all (.slice Av ns.length cv) (.slice Aw ns.length cw) ns) w))
            case atStart => exact ⟨0, rfl, rfl, HLx⟩
            case round =>
              clear HLx u1
              obtain ⟨j, hmj, rfl, hL2⟩ := hrel
              by_cases hj5 : j = 5
              · have u1 : decide ((j : Int) < 5) = false := decide_eq_false (by omega)
                have kap := Df.apart_any (hL2.out.ap HX.out.2.1) hL2.out.duo.size (by rw [List.length_map]; exact Nat.le_of_eq HX.out.1)
                clear hmj hj5
                go_wp2_with (first
                  | (go_at_call 37; refine kap.mono ?_; clear kap; rintro e x1 ⟨rfl, ho⟩; have D1 := hL2.out.apart ho; have kn1 := (Df.Lx.start D1).names1)
                  | (go_at_call 31; refine kn1.mono ?_; clear kn1; rintro e x2 ⟨v1, rfl, E1⟩; have kn2 := E1.names2 HX.out.2.2.symm)
                  | (go_at_call 36; refine kn2.mono ?_; clear kn2; rintro e x3 ⟨v2, rfl, E2⟩
                     have ks := Dw.same_any (E2.txs (List.mem_append_left _ (List.mem_append_right _ (List.mem_singleton.2 rfl)))) (E2.txs (List.mem_append_right _ (List.mem_singleton.2 rfl))) (Nat.le_trans E2.told_len (by decide))
                     rw [decide_eq_true (rfl : Dk.told N1 = Dk.told N1)] at ks)
                  | (go_at_call 30; refine ks.mono ?_; clear ks; rintro e x4 ⟨rfl, n4, rfl⟩))
                go_ret
                exact ⟨rfl, (E2.later (below_dn (Below.refl _ x3) n4)).duo.below⟩
              · have u1 : decide ((j : Int) < 5) = true := decide_eq_true (by omega)
                obtain ⟨p, hp⟩ : ∃ p, ns[j]? = some p := ⟨_, List.getElem?_eq_getElem (by have := HX.out.1; omega)⟩
                have hjn : j < ns.length := by have := HX.out.1; omega
                obtain ⟨g1, hA1, hc1, hd1, s1⟩ := Df.lcell hL2.out.outer1 (show (ns.map fun p => p.1)[j]? = some p.1 by rw [List.getElem?_map, hp]; rfl)
                obtain ⟨g2, hA2, hc2, hd2, s2⟩ := Df.lcell hL2.out.outer2 (show (ns.map fun p => p.2.1)[j]? = some p.2.1 by rw [List.getElem?_map, hp]; rfl)
                obtain ⟨q1, q2⟩ := Df.nrs_get ns j p hp
                have hsm := fun (X : World) (h : Df.Lx W.heap.size W d N1 r N2 (Df.all (.slice Av ns.length cv) (.slice Aw ns.length cw) ns) X) => Dw.same_any (h.txs (v := p.1) (l := p.2.2) (List.mem_cons_of_mem _ (List.mem_cons_of_mem _ (List.mem_of_getElem? q1)))) (h.txs (v := p.2.1) (l := p.2.2) (List.mem_cons_of_mem _ (List.mem_cons_of_mem _ (List.mem_of_getElem? q2)))) (Nat.le_trans (HX.out.2.1 p (List.mem_of_getElem? hp)) (by decide))
                simp only [decide_true] at hsm
                obtain ⟨v1, v2, l⟩ := p
                simp only at s1 s2 hsm
                have E1 := hL2.out.later (Below.refl _ wr).drew
                have S1 : wr.drew.cell? ⟨g1, j, none⟩ = some v1 ∧ wr.drew.cell? ⟨g2, j, none⟩ = some v2 := ⟨s1, s2⟩
                have hj4 : j < 5 := by omega
                have HJ := Lib.hid hmj
                have HL3 := Lib.hid hL2.out
                clear hp q1 q2 hmj hj5 hL2 s1 s2
                subst hA1 hA2
                go_upto_region 37 with fail
                go_region_held3 (fun W' => W'.cell? ⟨g1, j, none⟩ = some v1 ∧ W'.cell? ⟨g2, j, none⟩ = some v2)
                  (first
                    | with_reducible assumption)
                  (first
                    | (go_at_call 30; refine (hsm _ (by with_reducible assumption)).mono ?_; clear hsm; rintro e x2 ⟨rfl, n2, rfl⟩; have E2 := HL3.out.later (below_dn (Below.refl _ wr) (1 + n2)); have S2 : (wr.drewN (1 + n2)).cell? ⟨g1, j, none⟩ = some v1 ∧ (wr.drewN (1 + n2)).cell? ⟨g2, j, none⟩ = some v2 := S1))
                all_goals
                  go_wp2_with fail
                  go_roundg (gk - 1)
                  case measure => have := HJ.out; omega
                  case rel => exact ⟨j + 1, by have := HJ.out; omega, congrArg (Value.int .i64) (by omega), E2⟩
          · have u1 : decide ((i : Int) < 5) = true := decide_eq_true (by omega)
            have hi4 : i < 5 := by omega
            have HX := Lib.hid (And.intro hmi (And.intro hni hl96))
            clear hmi hni hl96
            go_upto_region 23 with fail
            go_cut [77] (fun v X => ∃ q : Bool, v = .bool q ∧ wr = X)
            case first =>
              by_cases h2 : i = 2
              · have u2 : ((i : Int) == 2) = true := by rw [h2]; rfl
                clear h2
                go_wp2_with fail
                go_meet
                exact ⟨_, rfl, rfl⟩
              · have u2 : ((i : Int) == 2) = false := beq_eq_false_iff_ne.2 (by omega)
                by_cases h4 : i = 4
                · have u4 : ((i : Int) == 4) = true := by rw [h4]; rfl
                  clear h4 h2
                  go_wp2_with fail
                  go_meet
                  exact ⟨_, rfl, rfl⟩
                · have u4 : ((i : Int) == 4) = false := beq_eq_false_iff_ne.2 (by omega)
                  clear h4 h2
                  go_wp2_with fail
                  go_meet
                  exact ⟨_, rfl, rfl⟩
            case rest =>
            obtain ⟨q, rfl, rfl⟩ := hcut
            clear hi5
            cases q with
            | true =>
              obtain ⟨P1, P2, hlp, kch⟩ := Df.changed_any (B := W.heap.size) (W0 := W) (w := wr) (d := d) (r := r) hlk
              have kch2 := kch _ hLx.duo
              have HLx := Lib.hid hLx
              clear kch hlk hLx
              go_upto_region 27 with (go_at_call 35; refine kch2.mono ?_; clear kch2; rintro e w9 ⟨rfl, D9⟩)
              have E9 := HLx.out.moved D9
              clear HLx D9
              have hto := hlp.told
              obtain ⟨nl, hnl⟩ : ∃ nl, Dk.told P1 = nl := ⟨_, rfl⟩
              have hlen : nl.length ≤ 4096 := by rw [← hnl]; exact E9.told_len
              have kn1 := E9.names1
              rw [hnl] at kn1 hto
              have kn2 := fun {X : World} {rs : List Df.Row} (h : Df.Lx W.heap.size W d P1 r P2 rs X) => h.names2 hto.symm
              have HQ := Lib.hid (And.intro hlp hto)
              clear hnl hto hlp E9
              go_upto_region 32 with (first
                | (go_at_call 31; refine kn1.mono ?_; clear kn1; rintro e x1 ⟨v1, rfl, E1⟩; obtain ⟨a1, c1, rfl⟩ := (E1.txs (List.mem_append_right _ (List.mem_singleton.2 rfl))).form; have kn3 := kn2 E1; clear kn2)
                | (go_at_call 36; refine kn3.mono ?_; clear kn3; rintro e x2 ⟨v2, rfl, E2⟩; obtain ⟨a2, c2, rfl⟩ := (E2.txs (List.mem_append_right _ (List.mem_singleton.2 rfl))).form
                   have ks := Dw.same_any (E2.txs (List.mem_append_left _ (List.mem_append_right _ (List.mem_singleton.2 rfl)))) (E2.txs (List.mem_append_right _ (List.mem_singleton.2 rfl))) (by omega)
                   rw [decide_eq_true (rfl : nl = nl)] at ks)
                | (go_at_call 30; refine ks.mono ?_; clear ks; rintro e x3 ⟨rfl, n3, rfl⟩; have E3 := E2.later (below_dn (Below.refl _ x2) n3)))
              have E4 : Df.Lx W.heap.size W d P1 r P2 (⟨63, .slice Av ns.length cv, ns.map fun p => p.1⟩ :: ⟨63, .slice Aw ns.length cw, ns.map fun p => p.2.1⟩ :: Df.nrs (ns ++ [(.slice a1 nl.length c1, .slice a2 nl.length c2, nl)])) (x2.drewN n3) := by rw [Df.nrs_push]; exact E3
              clear E1 E2 E3
              obtain ⟨X3, hX3⟩ : ∃ X3, x2.drewN n3 = X3 := ⟨_, rfl⟩
              rw [hX3] at E4 ⊢
              clear hX3
              have r1 := E4.rows _ (List.mem_cons_self ..)
              unfold Df.Row.own at r1
              simp only [List.length_map] at r1
              have hsz := E4.duo.size
              have hn5 : ns.length ≤ 5 := by have := HX.out.2.1; omega
              have H4 := Lib.hid E4
              clear E4
              go_upto_region 33 with (at_builtin; refine wpList_append_own_at _ rfl _ _ 72 rfl W.heap.size 63 il (.slice none 0 0) 1 24 Try.underlying72 hil hl0 hl1 hl2 rfl (by decide) (.slice Av ns.length cv) ns.length _ rfl (r1.alloc _) ⟨X3.heap.size, 0, none⟩ 1 1 [.slice a1 nl.length c1] rfl rfl (cell_one_new _ _ _) (by simp [Value.oneCell']) (by unfold maxLen; omega) (by omega) (by simp; omega) ?_; intro v' y1 hown' hg' hnil hat'; obtain ⟨A9, c9, rfl⟩ := Df.row_form hown'; have H5 := Lib.hid (H4.out.grown _ (by simp) hown' hg' hat'); clear hown' hg' hnil hat')
              have r2 := H5.out.rows _ (List.mem_cons_of_mem _ (List.mem_cons_self ..))
              unfold Df.Row.own at r2
              simp only [List.length_map] at r2
              have hsz2 := H5.out.duo.size
              clear r1 H4 hsz
              go_wp2_with (at_builtin; refine wpList_append_own_at _ rfl _ _ 72 rfl W.heap.size 63 il (.slice none 0 0) 1 24 Try.underlying72 hil hl0 hl1 hl2 rfl (by decide) (.slice Aw ns.length cw) ns.length _ rfl (r2.alloc _) ⟨y1.heap.size, 0, none⟩ 1 1 [.slice a2 nl.length c2] rfl rfl (cell_one_new _ _ _) (by simp [Value.oneCell']) (by unfold maxLen; omega) (by omega) (by simp; omega) ?_; intro v' y2 hown' hg' hnil hat'; obtain ⟨A8, c8, rfl⟩ := Df.row_form hown'; have H6 := Lib.hid (H5.out.grown2 _ (by simp) hown' hg' hat'); clear hown' hg' hnil hat')
              go_roundg (gk - 1)
              case measure => have := HX.out.1; omega
              case rel => exact ⟨i + 1, P1, P2, ns ++ [(.slice a1 nl.length c1, .slice a2 nl.length c2, nl)], A9, c9, A8, c8, by have := HX.out.1; omega, by rw [List.length_append, HX.out.2.1]; rfl, congrArg (Value.int .i64) (by omega), by rw [List.length_append]; rfl, by rw [List.length_append]; rfl, HQ.out.1, by have := H6.out; unfold Df.all; rw [List.map_append, List.map_append]; exact this, fun p hp => (List.mem_append.1 hp).elim (HX.out.2.2 p) fun e => by rw [List.mem_singleton.1 e]; exact hlen⟩
            | false =>
              go_upto_region 27 with fail
              have hto := hlk.told
              obtain ⟨nl, hnl⟩ : ∃ nl, Dk.told N1 = nl := ⟨_, rfl⟩
              have hlen : nl.length ≤ 4096 := by rw [← hnl]; exact hLx.told_len
              have kn1 := hLx.names1
              rw [hnl] at kn1 hto
              have kn2 := fun {X : World} {rs : List Df.Row} (h : Df.Lx W.heap.size W d N1 r N2 rs X) => h.names2 hto.symm
              have HQ := Lib.hid (And.intro hlk hto)
              clear hnl hto hlk hLx
              go_upto_region 32 with (first
                | (go_at_call 31; refine kn1.mono ?_; clear kn1; rintro e x1 ⟨v1, rfl, E1⟩; obtain ⟨a1, c1, rfl⟩ := (E1.txs (List.mem_append_right _ (List.mem_singleton.2 rfl))).form; have kn3 := kn2 E1; clear kn2)
                | (go_at_call 36; refine kn3.mono ?_; clear kn3; rintro e x2 ⟨v2, rfl, E2⟩; obtain ⟨a2, c2, rfl⟩ := (E2.txs (List.mem_append_right _ (List.mem_singleton.2 rfl))).form
                   have ks := Dw.same_any (E2.txs (List.mem_append_left _ (List.mem_append_right _ (List.mem_singleton.2 rfl)))) (E2.txs (List.mem_append_right _ (List.mem_singleton.2 rfl))) (by omega)
                   rw [decide_eq_true (rfl : nl = nl)] at ks)
                | (go_at_call 30; refine ks.mono ?_; clear ks; rintro e x3 ⟨rfl, n3, rfl⟩; have E3 := E2.later (below_dn (Below.refl _ x2) n3)))
              have E4 : Df.Lx W.heap.size W d N1 r N2 (⟨63, .slice Av ns.length cv, ns.map fun p => p.1⟩ :: ⟨63, .slice Aw ns.length cw, ns.map fun p => p.2.1⟩ :: Df.nrs (ns ++ [(.slice a1 nl.length c1, .slice a2 nl.length c2, nl)])) (x2.drewN n3) := by rw [Df.nrs_push]; exact E3
              clear E1 E2 E3
              obtain ⟨X3, hX3⟩ : ∃ X3, x2.drewN n3 = X3 := ⟨_, rfl⟩
              rw [hX3] at E4 ⊢
              clear hX3
              have r1 := E4.rows _ (List.mem_cons_self ..)
              unfold Df.Row.own at r1
              simp only [List.length_map] at r1
              have hsz := E4.duo.size
              have hn5 : ns.length ≤ 5 := by have := HX.out.2.1; omega
              have H4 := Lib.hid E4
              clear E4
              go_upto_region 33 with (at_builtin; refine wpList_append_own_at _ rfl _ _ 72 rfl W.heap.size 63 il (.slice none 0 0) 1 24 Try.underlying72 hil hl0 hl1 hl2 rfl (by decide) (.slice Av ns.length cv) ns.length _ rfl (r1.alloc _) ⟨X3.heap.size, 0, none⟩ 1 1 [.slice a1 nl.length c1] rfl rfl (cell_one_new _ _ _) (by simp [Value.oneCell']) (by unfold maxLen; omega) (by omega) (by simp; omega) ?_; intro v' y1 hown' hg' hnil hat'; obtain ⟨A9, c9, rfl⟩ := Df.row_form hown'; have H5 := Lib.hid (H4.out.grown _ (by simp) hown' hg' hat'); clear hown' hg' hnil hat')
              have r2 := H5.out.rows _ (List.mem_cons_of_mem _ (List.mem_cons_self ..))
              unfold Df.Row.own at r2
              simp only [List.length_map] at r2
              have hsz2 := H5.out.duo.size
              clear r1 H4 hsz
              go_wp2_with (at_builtin; refine wpList_append_own_at _ rfl _ _ 72 rfl W.heap.size 63 il (.slice none 0 0) 1 24 Try.underlying72 hil hl0 hl1 hl2 rfl (by decide) (.slice Aw ns.length cw) ns.length _ rfl (r2.alloc _) ⟨y1.heap.size, 0, none⟩ 1 1 [.slice a2 nl.length c2] rfl rfl (cell_one_new _ _ _) (by simp [Value.oneCell']) (by unfold maxLen; omega) (by omega) (by simp; omega) ?_; intro v' y2 hown' hg' hnil hat'; obtain ⟨A8, c8, rfl⟩ := Df.row_form hown'; have H6 := Lib.hid (H5.out.grown2 _ (by simp) hown' hg' hat'); clear hown' hg' hnil hat')
              go_roundg (gk - 1)
              case measure => have := HX.out.1; omega
              case rel => exact ⟨i + 1, N1, N2, ns ++ [(.slice a1 nl.length c1, .slice a2 nl.length c2, nl)], A9, c9, A8, c8, by have := HX.out.1; omega, by rw [List.length_append, HX.out.2.1]; rfl, congrArg (Value.int .i64) (by omega), by rw [List.length_append]; rfl, by rw [List.length_append]; rfl, HQ.out.1, by have := H6.out; unfold Df.all; rw [List.map_append, List.map_append]; exact this, fun p hp => (List.mem_append.1 hp).elim (HX.out.2.2 p) fun e => by rw [List.mem_singleton.1 e]; exact hlen⟩
/-- The law as the statement's arguments come. -/
theorem Df.fresh_bare {W : World} (s : ByteArray) (A : Option Addr) (cp : Nat) (L : List Dw.S) (hz : s.size ≤ 140737488355328) (hF : Dw.Steps W A L) (hl : L.length ≤ 1400000000000) :
    Calls Try.prog 8 #[.string s, .slice A L.length cp] W fun e W' => e = .returned (.bool true) ∧ Below W.heap.size W W' :=
  Df.fresh_law W s (Nat.le_trans hz (by decide)) A cp L hF hl
end Go.Proofs.Ytgbeeghdoilmkaa
