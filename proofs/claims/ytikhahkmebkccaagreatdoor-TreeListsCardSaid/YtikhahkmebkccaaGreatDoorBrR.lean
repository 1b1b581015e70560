/- Contract of the law's apart, the walk. Conditions: each theorem's own hypotheses. -/
import Derived.Test.YtikhahkmebkccaaGreatDoorBrP
namespace Go.Proofs.YtikhahkmebkccaaGreatDoor
open Go.RowKit Go.Maps Go.Sort Go.Shelf
set_option linter.unusedVariables false
set_option linter.unusedSimpArgs false

theorem Br.get_fst {vs : List (Value × Nat)} {i : Nat} {p : Value × Nat} (h : vs[i]? = some p) : (vs.map fun p => p.1)[i]? = some p.1 := by rw [List.getElem?_map, h]; rfl
theorem Br.both_low {a b : Int} {n m k : Nat} (h : k < n) : (Br.mk a n ++ Br.mk b m)[k * 3]? = some (.int .i64 a) := by
  rw [List.getElem?_append_left (by rw [Br.mk_len]; omega)]; exact Br.mk_get a n k h
theorem Br.both_high {a b : Int} {n m k : Nat} (h : n ≤ k) (h2 : k < n + m) : (Br.mk a n ++ Br.mk b m)[k * 3]? = some (.int .i64 b) := by
  rw [List.getElem?_append_right (by rw [Br.mk_len]; omega), Br.mk_len, show k * 3 - n * 3 = (k - n) * 3 by omega]; exact Br.mk_get b m (k - n) (by omega)
set_option maxRecDepth 100000 in
set_option maxHeartbeats 16000000 in
theorem Br.apart_any {W : World} {B : Nat} {vs : List (Value × Nat)} {vl : Value} (hA : Br.Ap B vs vl W) (hB : B ≤ W.heap.size) (hN : vs.length ≤ 1000) :
    Calls Tryz.prog 11 #[vl] W fun e W' => e = .returned (.bool true) ∧ Bk.Only (Br.Hb vs) W W' := by
  obtain ⟨ih, hih, hh0, hh1, hh2⟩ := info_parts Bk.hitInfo
  obtain ⟨il, hil, hl0, hl1, hl2⟩ := info_parts Br.listInfo
  obtain ⟨Al, cl, rfl⟩ := Bk.row_form hA.row
  have HS := Lib.hid (show Br.A1 W B vs (.slice Al vs.length cl) 0 W from ⟨hA.row, fun j p hj => by omega, fun j p _ hp => hA.rows j p hp, Bk.Only.refl _ _⟩)
  have HA := Lib.hid hA
  clear hA
  go_enter Tryz.func11, Tryz.ntmps11
  go_upto_region 2 with fail
  go_loopg [3] vs.length (fun m v wr => ∃ i : Nat, m + i = vs.length ∧ v = .int .i64 (i : Nat) ∧ Hid (Br.A1 W B vs (.slice Al vs.length cl) i wr))
  case atStart => exact ⟨0, by omega, rfl, HS⟩
  case round =>
    clear HS
    obtain ⟨i, hmi, rfl, h1⟩ := hrel
    by_cases hin : i = vs.length
    · have u1 : decide (i < vs.length) = false := decide_eq_false (by omega)
      have hsz1 := h1.out.only.size
      have HB := Lib.hid (show Br.B1 W B wr.heap.size vs (.slice Al vs.length cl) 0 [] (.slice none 0 0) wr from Br.A1.turn HA.out (by rw [hin] at h1; exact h1.out) (by omega))
      obtain ⟨B2, hB2⟩ : ∃ B2, wr.heap.size = B2 := ⟨_, rfl⟩
      rw [hB2] at HB
      clear h1 hmi hin hsz1 hB2
      go_upto_region 10 with fail
      go_loopg [5, 6] vs.length (fun m vm v w2 => ∃ (i : Nat) (ls : List Value) (Am : Option Addr) (cm : Nat), m + i = vs.length ∧ v = .int .i64 (i : Nat) ∧ vm = .slice Am ls.length cm ∧ Hid (Br.B1 W B B2 vs (.slice Al vs.length cl) i ls (.slice Am ls.length cm) w2))
      case atStart => exact ⟨0, [], none, 0, by omega, rfl, rfl, HB⟩
      case round =>
        clear HB u1
        obtain ⟨i, ls, Am, cm, hmi, rfl, rfl, hb⟩ := hrel
        by_cases hin : i = vs.length
        · have u1 : decide (i < vs.length) = false := decide_eq_false (by omega)
          rw [hin] at hb
          clear hmi hin
          go_upto_region 19 with fail
          clear u1
          go_loopg [9] vs.length (fun m v w => ∃ i : Nat, m + i = vs.length ∧ v = .int .i64 (i : Nat) ∧ wr = w)
          case atStart => exact ⟨0, by omega, rfl, rfl⟩
          case round =>
            obtain ⟨i, hmi, rfl, rfl⟩ := hrel
            by_cases hin : i = vs.length
            · have u1 : decide (i < vs.length) = false := decide_eq_false (by omega)
              clear hmi hin
              go_wp2_with fail
              go_ret
              exact ⟨rfl, hb.out.only⟩
            · have u1 : decide (i < vs.length) = true := decide_eq_true (by omega)
              obtain ⟨p, hp⟩ : ∃ p, vs[i]? = some p := ⟨_, List.getElem?_eq_getElem (by omega)⟩
              obtain ⟨l, hl, hlr, hsee, -, -⟩ := hb.out.done i p (by omega) hp
              have hil1 : i < vs.length := by omega
              have hil2 : i < ls.length := by have := hb.out.len; omega
              have hpl := HA.out.len p (List.mem_of_getElem? hp)
              obtain ⟨gl, hAl, hg1, hg2, a0⟩ := Br.lcell hb.out.row (Br.get_fst hp)
              subst hAl
              obtain ⟨gm, hAm, hm1, hm2, a1⟩ := Br.lcell hb.out.more hl
              subst hAm
              obtain ⟨xs, hxs⟩ := HA.out.rows i p hp
              obtain ⟨v, n⟩ := p
              obtain ⟨Av, cv, hv⟩ := Bk.row_form hxs
              obtain ⟨Aw, cw, hw⟩ := Bk.row_form hlr
              simp only at hpl hv hw hlr hsee hxs a0
              subst hv hw
              obtain ⟨gw, rfl, hw1, hw2⟩ := Br.row_some hlr (by omega)
              obtain ⟨og, hog⟩ : ∃ og, og = gk := ⟨_, rfl⟩
              have HX := Lib.hid (And.intro hp (And.intro hxs (And.intro hmi (And.intro hog (And.intro hlr (And.intro hsee hl))))))
              clear hp hxs hmi hog hlr hsee hl hin
              go_upto_region 23 with fail
              go_loopg [11] (n + 64) (fun m v w => ∃ k : Nat, m + k = n + 64 ∧ v = .int .i64 (k : Nat) ∧ wr = w)
              case atStart => exact ⟨0, by omega, rfl, rfl⟩
              case round =>
                obtain ⟨k, hmk, rfl, rfl⟩ := hrel
                by_cases hkn : k = n + 64
                · have u2 : decide (k < n + 64) = false := decide_eq_false (by omega)
                  have u2' : decide ((k : Int) < (n : Int) + 64) = false := decide_eq_false (by omega)
                  clear hkn hmk
                  go_wp2_with fail
                  go_roundg (og - 1)
                  case measure => have := HX.out.2.2.1; have := HX.out.2.2.2.1; omega
                  case rel => exact ⟨i + 1, by have := HX.out.2.2.1; have := HX.out.2.2.2.1; omega, congrArg (Value.int .i64) (by omega), rfl⟩
                · have u2 : decide (k < n + 64) = true := decide_eq_true (by omega)
                  have u2' : decide ((k : Int) < (n : Int) + 64) = true := decide_eq_true (by omega)
                  have hk64 : k < n + 64 := by omega
                  by_cases hkl : k < n
                  · have u3 : decide (k < n) = true := decide_eq_true hkl
                    have u4 : decide (n ≤ k) = false := decide_eq_false (by omega)
                    obtain ⟨gv, rfl, hv1, hv2⟩ := Br.row_some HX.out.2.1 (by omega)
                    obtain ⟨g', e1, c1⟩ := HX.out.2.2.2.2.2.1 k hkl
                    obtain rfl : gv = g' := by injection e1
                    have c2 := HX.out.2.2.2.2.1.cells (g := gw) rfl _ _ (Br.both_low (k := k) hkl)
                    rw [Bk.addr_add] at c2
                    obtain ⟨a, ha⟩ : ∃ a, -1 - (i : Int) = a := ⟨_, rfl⟩
                    have ha1 : -1001 ≤ a ∧ a ≤ 0 := by omega
                    rw [ha] at c1 c2
                    have u5 : (a != a) = false := bne_self_eq_false _
                    have HM := Lib.hid hmk
                    clear hkn hmk e1
                    go_wp2_with fail
                    go_roundg (gk - 1)
                    case measure => have := HM.out; omega
                    case rel => exact ⟨k + 1, by have := HM.out; omega, congrArg (Value.int .i64) (by omega), rfl⟩
                  · have u3 : decide (k < n) = false := decide_eq_false hkl
                    have u4 : decide (n ≤ k) = true := decide_eq_true (by omega)
                    have c2 := HX.out.2.2.2.2.1.cells (g := gw) rfl _ _ (Br.both_high (k := k) (by show n ≤ k; omega) (by show k < n + 64; omega))
                    rw [Bk.addr_add] at c2
                    obtain ⟨a, ha⟩ : ∃ a, -101 - (i : Int) = a := ⟨_, rfl⟩
                    have ha1 : -1101 ≤ a ∧ a ≤ 0 := by omega
                    rw [ha] at c2
                    have u5 : (a != a) = false := bne_self_eq_false _
                    have HM := Lib.hid hmk
                    clear hkn hmk
                    go_wp2_with fail
                    go_roundg (gk - 1)
                    case measure => have := HM.out; omega
                    case rel => exact ⟨k + 1, by have := HM.out; omega, congrArg (Value.int .i64) (by omega), rfl⟩
        · have u1 : decide (i < vs.length) = true := decide_eq_true (by omega)
          obtain ⟨p, hp⟩ : ∃ p, vs[i]? = some p := ⟨_, List.getElem?_eq_getElem (by omega)⟩
          have h3 := hb.out.next hp
          have hil1 : i < vs.length := by omega
          have hpl := HA.out.len p (List.mem_of_getElem? hp)
          obtain ⟨gl, hAl, hg1, hg2, a0⟩ := Br.lcell hb.out.row (Br.get_fst hp)
          subst hAl
          obtain ⟨v, n⟩ := p
          obtain ⟨Av, cv, hv⟩ := Bk.row_form h3.cur
          simp only at hpl hv a0
          rw [Nat.add_zero] at hv
          subst hv
          have hlsl := hb.out.len
          have hBw : B ≤ wr.heap.size := by have := hb.out.only.size; omega
          obtain ⟨og, hog⟩ : ∃ og, og = gk := ⟨_, rfl⟩
          have HX := Lib.hid (And.intro hp (And.intro hmi (And.intro hog hlsl)))
          have H3 := Lib.hid h3
          have hls9 : ls.length ≤ 1000 := by omega
          have hB2w := hb.out.size
          clear hp hmi hog h3 hin hlsl
          go_upto_region 14 with fail
          clear a0
          obtain ⟨Y, hY⟩ : ∃ Y, wr = Y := ⟨_, rfl⟩
          rw [hY] at hb H3 hBw hB2w
          go_loopg [7, 8] 64 (fun m l v w3 => ∃ (k : Nat) (Aw : Option Addr) (cw : Nat), m + k = 64 ∧ v = .int .i64 (k : Nat) ∧ l = .slice Aw (n + k) cw ∧ Hid (Br.B3 B (.slice Av n cv, n) i Y (.slice Aw (n + k) cw) k w3))
          case atStart => exact ⟨0, Av, cv, by omega, rfl, rfl, by rw [hY]; exact H3⟩
          case round =>
            clear H3
            obtain ⟨k, Aw, cw, hmk, rfl, rfl, h4⟩ := hrel
            have hBw3 := h4.out.only.size
            by_cases hkn : k = 64
            · subst hkn
              have hmore := hb.out.more' HX.out.1 h4.out.only
              have u2 : decide ((64 : Nat) < 64) = false := by decide
              clear hmk
              go_wp2_with (at_builtin; refine Br.wpList_append_fit rfl _ _ 38 rfl B2 28 il (.slice none 0 0) 1 24 Tryz.underlying38 hil hl0 hl1 hl2 rfl (by decide) (.slice Am ls.length cm) ls.length ls rfl (hmore.alloc _) ⟨wr.heap.size, 0, none⟩ 1 [.slice Aw (n + 64) cw] rfl rfl (cell_one_new _ _ _) (by simp [Value.oneCell']) (by unfold maxLen; omega) (by decide) (by omega) (by omega) (by simp; omega) ?_; intro v' w9 hown' hg'; obtain ⟨A9, c9, rfl⟩ := Bk.row_form hown'; have hb9 := Lib.hid (hb.out.grow HA.out HX.out.1 h4.out _ hown' hg'); clear hown' hg')
              go_roundg (og - 1)
              case measure => have := HX.out.2.1; have := HX.out.2.2.1; omega
              case rel => exact ⟨i + 1, ls ++ [.slice Aw (n + 64) cw], A9, c9, by have := HX.out.2.1; have := HX.out.2.2.1; omega, congrArg (Value.int .i64) (by omega), by rw [List.length_append]; rfl, by rw [List.length_append]; exact hb9⟩
            · have u2 : decide (k < 64) = true := decide_eq_true (by omega)
              have hk64 : k < 64 := by omega
              have hcur := h4.out.cur
              simp only at hcur
              clear hkn
              go_wp2_with (at_builtin; refine Br.wpList_append_fit rfl _ _ 28 rfl B 61 ih (.agg #[.int .i64 0, .int .i64 0, .string ⟨#[]⟩]) 3 32 Tryz.underlying28 hih hh0 hh1 hh2 rfl (by decide) (.slice Aw (n + k) cw) (n + k) _ rfl (hcur.alloc _) ⟨wr.heap.size, 0, none⟩ 1 [.int .i64 (-101 - (i : Int)), .int .i64 0, .string ⟨#[]⟩] rfl rfl (Bk.cells3 _ _ _ _ _) (by simp [Value.oneCell']) (by unfold maxLen; omega) (by decide) (by omega) (by omega) (by simp; omega) ?_; intro v' w9 hown' hg'; obtain ⟨A9, c9, rfl⟩ := Bk.row_form hown'; have h9 := Lib.hid (h4.out.step _ (show w9.ownsRow B 61 3 (.slice A9 (n + k + 1) c9) (n + (k + 1)) (Br.mk (-1 - (i : Int)) n ++ Br.mk (-101 - (i : Int)) (k + 1)) from by rw [Br.mk_succ, ← List.append_assoc]; exact hown') hg'); clear hown' hg')
              go_roundg (gk - 1)
              case measure => omega
              case rel => exact ⟨k + 1, A9, c9, by omega, congrArg (Value.int .i64) (by omega), rfl, h9⟩
    · have u1 : decide (i < vs.length) = true := decide_eq_true (by omega)
      obtain ⟨p, hp⟩ : ∃ p, vs[i]? = some p := ⟨_, List.getElem?_eq_getElem (by omega)⟩
      obtain ⟨xs, hxs, h2⟩ := h1.out.next hp
      have hil1 : i < vs.length := by omega
      have hpl := HA.out.len p (List.mem_of_getElem? hp)
      obtain ⟨gl, hAl, hg1, hg2, -⟩ := Br.lcell h2.row (Br.get_fst hp)
      subst hAl
      obtain ⟨v, n⟩ := p
      obtain ⟨Av, cv, hv⟩ := Bk.row_form h2.cur
      simp only at hxs hpl hv
      subst hv
      obtain ⟨og, hog⟩ : ∃ og, og = gk := ⟨_, rfl⟩
      have HX := Lib.hid (And.intro hp (And.intro hxs (And.intro hmi hog)))
      have H2 := Lib.hid h2
      clear hp hxs hmi hog h2 h1 hin
      go_upto_region 5 with fail
      go_loopg [4] n (fun m v wr => ∃ k : Nat, m + k = n ∧ v = .int .i64 (k : Nat) ∧ Hid (Br.A2 W B vs (.slice (some ⟨gl, 0, none⟩) vs.length cl) i (.slice Av n cv, n) xs k wr))
      case atStart => exact ⟨0, by omega, rfl, H2⟩
      case round =>
        clear H2
        obtain ⟨k, hmk, rfl, h3⟩ := hrel
        obtain ⟨gl', hAl', -, -, a0⟩ := Br.lcell h3.out.row (Br.get_fst HX.out.1)
        obtain rfl : gl = gl' := by injection hAl' with e; injection e
        clear hAl'
        simp only at a0
        by_cases hkn : k = n
        · have u2 : decide (k < n) = false := decide_eq_false (by omega)
          have h4 := Lib.hid (show Br.A1 W B vs (.slice (some ⟨gl, 0, none⟩) vs.length cl) (i + 1) wr from Br.A2.full (by subst hkn; exact h3.out) HX.out.1 HX.out.2.1)
          clear h3 hkn hmk
          go_wp2_with fail
          go_roundg (og - 1)
          case measure => have := HX.out.2.2.1; have := HX.out.2.2.2; omega
          case rel => exact ⟨i + 1, by have := HX.out.2.2.1; have := HX.out.2.2.2; omega, congrArg (Value.int .i64) (by omega), h4⟩
        · have u2 : decide (k < n) = true := decide_eq_true (by omega)
          have hkl : k < n := by omega
          have hcur := h3.out.cur
          obtain ⟨g, rfl, hg3, hg4⟩ := Br.row_some hcur (by show 0 < n; omega)
          have hlen := hcur.1
          simp only at hlen
          obtain ⟨y0, e0⟩ : ∃ y, (Br.mk (-1 - (i : Int)) k ++ xs.drop (k * 3))[k * 3]? = some y := ⟨_, List.getElem?_eq_getElem (by omega)⟩
          obtain ⟨y1, e1⟩ : ∃ y, (Br.mk (-1 - (i : Int)) k ++ xs.drop (k * 3))[k * 3 + 1]? = some y := ⟨_, List.getElem?_eq_getElem (by omega)⟩
          obtain ⟨y2, e2⟩ : ∃ y, (Br.mk (-1 - (i : Int)) k ++ xs.drop (k * 3))[k * 3 + 2]? = some y := ⟨_, List.getElem?_eq_getElem (by omega)⟩
          have b0 := hcur.cells (g := g) rfl _ _ e0
          have b1 := hcur.cells (g := g) rfl _ _ e1
          have b2 := hcur.cells (g := g) rfl _ _ e2
          rw [Bk.addr_add] at b0 b1 b2
          have f0 := hcur.frozenAt (k * 3)
          have f1 := hcur.frozenAt (k * 3 + 1)
          have f2 := hcur.frozenAt (k * 3 + 2)
          have h4 := Lib.hid (h3.out.step HA.out HX.out.1 rfl HX.out.2.1 hkl rfl)
          clear h3 hkn hcur hlen e0 e1 e2
          go_wp2_with fail
          go_roundg (gk - 1)
          case measure => omega
          case rel => exact ⟨k + 1, by omega, congrArg (Value.int .i64) (by omega), h4⟩
end Go.Proofs.YtikhahkmebkccaaGreatDoor
