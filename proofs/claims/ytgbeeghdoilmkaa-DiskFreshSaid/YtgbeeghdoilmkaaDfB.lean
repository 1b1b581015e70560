/- The law's apart, the walk. Conditions: each theorem's own hypotheses. -/
import Derived.Test.YtgbeeghdoilmkaaDfA
import Derived.Deep.LoopGhost
import Derived.Deep.DeepCutAuto
import Derived.Deep.QuietTactic
import Derived.BigQuiet
namespace Go.Proofs.Ytgbeeghdoilmkaa
open Go.RowKit Go.Maps Go.Sort
set_option linter.unusedVariables false
set_option linter.unusedSimpArgs false

/-- The five marks. -/
def Df.ms : Array Value := #[.string ⟨#[109, 97, 114, 107, 32, 48]⟩, .string ⟨#[109, 97, 114, 107, 32, 49]⟩, .string ⟨#[109, 97, 114, 107, 32, 50]⟩, .string ⟨#[109, 97, 114, 107, 32, 51]⟩, .string ⟨#[109, 97, 114, 107, 32, 52]⟩]
def Df.mv (i : Nat) : Value := (Df.ms[i]?).getD (.string ⟨#[]⟩)
theorem Df.mv_is (i : Nat) (h : i < 5) : ∃ b : ByteArray, Df.mv i = .string b := by
  match i, h with
  | 0, _ => exact ⟨_, rfl⟩
  | 1, _ => exact ⟨_, rfl⟩
  | 2, _ => exact ⟨_, rfl⟩
  | 3, _ => exact ⟨_, rfl⟩
  | 4, _ => exact ⟨_, rfl⟩
theorem Df.mv_get (i : Nat) (h : i < 5) : Df.ms[i]? = some (Df.mv i) := by
  match i, h with
  | 0, _ => rfl
  | 1, _ => rfl
  | 2, _ => rfl
  | 3, _ => rfl
  | 4, _ => rfl
theorem Df.get_fst {vs : List (Value × Nat)} {i : Nat} {p : Value × Nat} (h : vs[i]? = some p) : (vs.map fun p => p.1)[i]? = some p.1 := by rw [List.getElem?_map, h]; rfl
theorem Df.both {a : Value} {n m k : Nat} (h : k < n + m) : (Df.mk a n ++ Df.mk a m)[k]? = some a := by
  by_cases h1 : k < n
  · rw [List.getElem?_append_left (by rw [Df.mk_len]; omega)]; exact Df.mk_get a n k h1
  · rw [List.getElem?_append_right (by rw [Df.mk_len]; omega), Df.mk_len]; exact Df.mk_get a m (k - n) (by omega)
theorem Df.Ap.later {W W' : World} {B : Nat} {vs : List (Value × Nat)} {vl : Value} (h : Df.Ap B vs vl W) (hB : Below W.heap.size W W') : Df.Ap B vs vl W' :=
  ⟨Df.own_later h.row hB (Nat.le_refl _), fun i p hp => by
    obtain ⟨xs, hx⟩ := h.rows i p hp
    exact ⟨xs, Df.own_later hx hB (Nat.le_refl _)⟩, h.len, h.dis, h.off⟩
theorem Df.A2.drew {u : Nat → Value} {W0 X : World} {B i k : Nat} {vs : List (Value × Nat)} {vl : Value} {p : Value × Nat} {xs : List Value} (h : Df.A2 u W0 B vs vl i p xs k X) : Df.A2 u W0 B vs vl i p xs k X.drew := ⟨h.row, h.done, h.todo, h.cur, h.only.drew⟩
set_option maxRecDepth 100000 in
set_option maxHeartbeats 16000000 in
theorem Df.apart_any {W : World} {B : Nat} {vs : List (Value × Nat)} {vl : Value} (hA : Df.Ap B vs vl W) (hB : B ≤ W.heap.size) (hN : vs.length ≤ 5) :
    Calls Try.prog 37 #[vl] W fun e W' => e = .returned (.bool true) ∧ Dk.Only (Df.Hb vs) W W' := by
  obtain ⟨ih, hih, hh0, hh1, hh2⟩ := info_parts Dk.strInfo
  obtain ⟨il, hil, hl0, hl1, hl2⟩ := info_parts Df.listInfo
  obtain ⟨Al, cl, rfl⟩ := Df.row_form hA.row
  have hb1 := (Below.refl _ W).alloc (Nat.le_refl _) (.cells #[.string ⟨#[109, 97, 114, 107, 32, 48]⟩, .string ⟨#[109, 97, 114, 107, 32, 49]⟩, .string ⟨#[109, 97, 114, 107, 32, 50]⟩, .string ⟨#[109, 97, 114, 107, 32, 51]⟩, .string ⟨#[109, 97, 114, 107, 32, 52]⟩] 9)
  have n1 : Blk (W.alloc (.cells #[.string ⟨#[109, 97, 114, 107, 32, 48]⟩, .string ⟨#[109, 97, 114, 107, 32, 49]⟩, .string ⟨#[109, 97, 114, 107, 32, 50]⟩, .string ⟨#[109, 97, 114, 107, 32, 51]⟩, .string ⟨#[109, 97, 114, 107, 32, 52]⟩] 9)) W.heap.size 9 Df.ms := Blk.new W 9 _
  have hO1 := Dk.Only.of (F := Df.Hb vs) hb1
  have hA1 := hA.later hb1
  have hB1 : B ≤ (W.alloc (.cells #[.string ⟨#[109, 97, 114, 107, 32, 48]⟩, .string ⟨#[109, 97, 114, 107, 32, 49]⟩, .string ⟨#[109, 97, 114, 107, 32, 50]⟩, .string ⟨#[109, 97, 114, 107, 32, 51]⟩, .string ⟨#[109, 97, 114, 107, 32, 52]⟩] 9)).heap.size := Nat.le_trans hB hb1.size
  have hnb : ¬ Df.Hb vs W.heap.size := fun h => by
    obtain ⟨p, hp, hb⟩ := h
    obtain ⟨i, hi⟩ := List.getElem?_of_mem hp
    obtain ⟨xs, hx⟩ := hA.rows i p hi
    have := (hx.lt _ hb).2
    omega
  obtain ⟨W1, hW1⟩ : ∃ W1, W.alloc (.cells #[.string ⟨#[109, 97, 114, 107, 32, 48]⟩, .string ⟨#[109, 97, 114, 107, 32, 49]⟩, .string ⟨#[109, 97, 114, 107, 32, 50]⟩, .string ⟨#[109, 97, 114, 107, 32, 51]⟩, .string ⟨#[109, 97, 114, 107, 32, 52]⟩] 9) = W1 := ⟨_, rfl⟩
  rw [hW1] at hb1 n1 hO1 hA1 hB1
  have hmk : ∀ (X : World) (i : Nat), Dk.Only (Df.Hb vs) W1 X → i < 5 → X.cell? ⟨W.heap.size, i, none⟩ = some (Df.mv i) := fun X i ho hi =>
    (World.cell?_of_block (a := ⟨W.heap.size, i, none⟩) (ho.block _ n1.lt hnb)).trans ((n1.cell i).trans (Df.mv_get i hi))
  have HS := Lib.hid (show Df.A1 Df.mv W1 B vs (.slice Al vs.length cl) 0 W1 from ⟨hA1.row, fun j p hj => by omega, fun j p _ hp => hA1.rows j p hp, Dk.Only.refl _ _⟩)
  have HA := Lib.hid hA1
  have HO := Lib.hid hO1
  have HM := Lib.hid hmk
  have HB1 := Lib.hid hB1
  have HW := Lib.hid hW1
  clear hA hA1 hb1 n1 hO1 hnb hmk hB1 hW1
  go_enter Try.func37, Try.ntmps37
  go_upto_region 3 with fail
  rw [HW.out]
  go_loopg [4] vs.length (fun m v wr => ∃ i : Nat, m + i = vs.length ∧ v = .int .i64 (i : Nat) ∧ Hid (Df.A1 Df.mv W1 B vs (.slice Al vs.length cl) i wr))
  case atStart => exact ⟨0, by omega, rfl, HS⟩
  case round =>
    clear HS
    obtain ⟨i, hmi, rfl, h1⟩ := hrel
    by_cases hin : i = vs.length
    · have u1 : decide (i < vs.length) = false := decide_eq_false (by omega)
      have hsz1 := h1.out.only.size
      have HB := Lib.hid (show Df.B1 Df.mv W1 B wr.heap.size vs (.slice Al vs.length cl) 0 [] (.slice none 0 0) wr from Df.A1.turn HA.out (by rw [hin] at h1; exact h1.out) (by have := HB1.out; omega))
      obtain ⟨B2, hB2⟩ : ∃ B2, wr.heap.size = B2 := ⟨_, rfl⟩
      rw [hB2] at HB
      clear h1 hmi hin hsz1 hB2
      go_upto_region 11 with fail
      go_loopg [6, 7] vs.length (fun m vm v w2 => ∃ (i : Nat) (ls : List Value) (Am : Option Addr) (cm : Nat), m + i = vs.length ∧ v = .int .i64 (i : Nat) ∧ vm = .slice Am ls.length cm ∧ Hid (Df.B1 Df.mv W1 B B2 vs (.slice Al vs.length cl) i ls (.slice Am ls.length cm) w2))
      case atStart => exact ⟨0, [], none, 0, by omega, rfl, rfl, HB⟩
      case round =>
        clear HB u1
        obtain ⟨i, ls, Am, cm, hmi, rfl, rfl, hb⟩ := hrel
        by_cases hin : i = vs.length
        · have u1 : decide (i < vs.length) = false := decide_eq_false (by omega)
          rw [hin] at hb
          clear hmi hin
          go_upto_region 20 with fail
          clear u1
          go_loopg [10] vs.length (fun m v w => ∃ i q : Nat, m + i = vs.length ∧ v = .int .i64 (i : Nat) ∧ w = wr.drewN q)
          case atStart => exact ⟨0, 0, by omega, rfl, rfl⟩
          case round =>
            obtain ⟨i, q, hmi, rfl, rfl⟩ := hrel
            by_cases hin : i = vs.length
            · have u1 : decide (i < vs.length) = false := decide_eq_false (by omega)
              clear hmi hin
              go_wp2_with fail
              go_ret
              exact ⟨rfl, HO.out.trans (hb.out.only.trans (.of (below_dn (Below.refl _ _) q)))⟩
            · have u1 : decide (i < vs.length) = true := decide_eq_true (by omega)
              obtain ⟨p, hp⟩ : ∃ p, vs[i]? = some p := ⟨_, List.getElem?_eq_getElem (by omega)⟩
              obtain ⟨l, hl, hlr, hsee, -, -⟩ := hb.out.done i p (by omega) hp
              have hil1 : i < vs.length := by omega
              have hil2 : i < ls.length := by have := hb.out.len; omega
              have hi5 : i < 5 := by omega
              have hpl := HA.out.len p (List.mem_of_getElem? hp)
              obtain ⟨gl, hAl, hg1, hg2, a0⟩ := Df.lcell hb.out.row (Df.get_fst hp)
              subst hAl
              obtain ⟨gm, hAm, hm1, hm2, a1⟩ := Df.lcell hb.out.more hl
              subst hAm
              have a9 := HM.out wr i hb.out.only hi5
              obtain ⟨mi, hmv⟩ := Df.mv_is i hi5
              rw [hmv] at a9 hlr hsee
              obtain ⟨xs, hxs⟩ := HA.out.rows i p hp
              obtain ⟨v, n⟩ := p
              obtain ⟨Av, cv, hv⟩ := Df.row_form hxs
              obtain ⟨Aw, cw, hw⟩ := Df.row_form hlr
              simp only at hpl hv hw hlr hsee hxs a0
              subst hv hw
              obtain ⟨gw, rfl, hw1, hw2⟩ := Df.row_some hlr (by omega)
              obtain ⟨og, hog⟩ : ∃ og, og = gk := ⟨_, rfl⟩
              have HX := Lib.hid (And.intro hp (And.intro hxs (And.intro hmi (And.intro hog (And.intro hlr (And.intro hsee (And.intro hl hmv)))))))
              clear hp hxs hmi hog hlr hsee hl hin hmv
              go_upto_region 23 with fail
              go_loopg [11] (n + 70) (fun m v w => ∃ k q : Nat, m + k = n + 70 ∧ v = .int .i64 (k : Nat) ∧ w = wr.drewN q)
              case atStart => exact ⟨0, q, by omega, rfl, rfl⟩
              case round =>
                clear q
                obtain ⟨k, q, hmk, rfl, rfl⟩ := hrel
                by_cases hkn : k = n + 70
                · have u2 : decide (k < n + 70) = false := decide_eq_false (by omega)
                  have u2' : decide ((k : Int) < (n : Int) + 70) = false := decide_eq_false (by omega)
                  clear hkn hmk
                  go_wp2_with fail
                  go_roundg (og - 1)
                  case measure => have := HX.out.2.2.1; have := HX.out.2.2.2.1; omega
                  case rel => exact ⟨i + 1, q, by have := HX.out.2.2.1; have := HX.out.2.2.2.1; omega, congrArg (Value.int .i64) (by omega), rfl⟩
                · have u2 : decide (k < n + 70) = true := decide_eq_true (by omega)
                  have u2' : decide ((k : Int) < (n : Int) + 70) = true := decide_eq_true (by omega)
                  have hk64 : k < n + 70 := by omega
                  have c2 := HX.out.2.2.2.2.1.cells (g := gw) rfl _ _ (Df.both (k := k) hk64)
                  rw [Df.addr_add] at c2
                  have u5 : (mi.toList == mi.toList) = true := beq_self_eq_true _
                  have HM2 := Lib.hid hmk
                  by_cases hkl : k < n
                  · have u3 : decide (k < n) = true := decide_eq_true hkl
                    obtain ⟨gv, rfl, hv1, hv2⟩ := Df.row_some HX.out.2.1 (by omega)
                    obtain ⟨g', e1, c1⟩ := HX.out.2.2.2.2.2.1 k hkl
                    obtain rfl : gv = g' := by injection e1
                    clear hkn hmk e1
                    go_upto_region 25 with fail
                    go_quiet (fail)
                    go_wp2_with fail
                    go_roundg (gk - 1)
                    case measure => have := HM2.out; omega
                    case rel => exact ⟨k + 1, _, by have := HM2.out; omega, congrArg (Value.int .i64) (by omega), by first | rfl | rw [World.drewN_drewN]⟩
                  · have u3 : decide (k < n) = false := decide_eq_false hkl
                    clear hkn hmk
                    go_upto_region 25 with fail
                    go_quiet (fail)
                    go_wp2_with fail
                    go_roundg (gk - 1)
                    case measure => have := HM2.out; omega
                    case rel => exact ⟨k + 1, _, by have := HM2.out; omega, congrArg (Value.int .i64) (by omega), by first | rfl | rw [World.drewN_drewN]⟩
        · have u1 : decide (i < vs.length) = true := decide_eq_true (by omega)
          obtain ⟨p, hp⟩ : ∃ p, vs[i]? = some p := ⟨_, List.getElem?_eq_getElem (by omega)⟩
          have h3 := hb.out.next hp
          have hil1 : i < vs.length := by omega
          have hi5 : i < 5 := by omega
          have hpl := HA.out.len p (List.mem_of_getElem? hp)
          obtain ⟨gl, hAl, hg1, hg2, a0⟩ := Df.lcell hb.out.row (Df.get_fst hp)
          subst hAl
          obtain ⟨v, n⟩ := p
          obtain ⟨Av, cv, hv⟩ := Df.row_form h3.cur
          simp only at hpl hv a0
          rw [Nat.add_zero] at hv
          subst hv
          have hlsl := hb.out.len
          have hBw : B ≤ wr.heap.size := by have := hb.out.only.size; have := HB1.out; omega
          obtain ⟨og, hog⟩ : ∃ og, og = gk := ⟨_, rfl⟩
          have HX := Lib.hid (And.intro hp (And.intro hmi (And.intro hog hlsl)))
          have H3 := Lib.hid h3
          have hls9 : ls.length ≤ 5 := by omega
          have hB2w := hb.out.size
          clear hp hmi hog h3 hin hlsl
          go_upto_region 15 with fail
          clear a0
          obtain ⟨Y, hY⟩ : ∃ Y, wr = Y := ⟨_, rfl⟩
          rw [hY] at hb H3 hBw hB2w
          go_loopg [8, 9] 70 (fun m l v w3 => ∃ (k : Nat) (Aw : Option Addr) (cw : Nat), m + k = 70 ∧ v = .int .i64 (k : Nat) ∧ l = .slice Aw (n + k) cw ∧ Hid (Df.B3 Df.mv B (.slice Av n cv, n) i Y (.slice Aw (n + k) cw) k w3))
          case atStart => exact ⟨0, Av, cv, by omega, rfl, rfl, by rw [hY]; exact H3⟩
          case round =>
            clear H3
            obtain ⟨k, Aw, cw, hmk, rfl, rfl, h4⟩ := hrel
            have hBw3 := h4.out.only.size
            by_cases hkn : k = 70
            · subst hkn
              have hmore := hb.out.more' HX.out.1 h4.out.only
              have u2 : decide ((70 : Nat) < 70) = false := by decide
              have u2' : decide ((70 : Int) < 70) = false := by decide
              clear hmk
              go_wp2_with (at_builtin; refine Df.wpList_append_fit rfl _ _ 72 rfl B2 63 il (.slice none 0 0) 1 24 Try.underlying72 hil hl0 hl1 hl2 rfl (by decide) (.slice Am ls.length cm) ls.length ls rfl (hmore.alloc _) ⟨wr.heap.size, 0, none⟩ 1 [.slice Aw (n + 70) cw] rfl rfl (cell_one_new _ _ _) (by simp [Value.oneCell']) (by unfold maxLen; omega) (by decide) (by omega) (by omega) (by simp; omega) ?_; intro v' w9 hown' hg'; obtain ⟨A9, c9, rfl⟩ := Df.row_form hown'; have hb9 := Lib.hid (hb.out.grow HA.out HX.out.1 h4.out _ hown' hg'); clear hown' hg')
              go_roundg (og - 1)
              case measure => have := HX.out.2.1; have := HX.out.2.2.1; omega
              case rel => exact ⟨i + 1, ls ++ [.slice Aw (n + 70) cw], A9, c9, by have := HX.out.2.1; have := HX.out.2.2.1; omega, congrArg (Value.int .i64) (by omega), by rw [List.length_append]; rfl, by rw [List.length_append]; exact hb9⟩
            · have u2 : decide (k < 70) = true := decide_eq_true (by omega)
              have u2' : decide ((k : Int) < 70) = true := decide_eq_true (by omega)
              have hk64 : k < 70 := by omega
              have hcur := h4.out.cur
              have a9 := HM.out wr i (hb.out.only.trans (h4.out.only.wide fun b _ hb => ⟨_, List.mem_of_getElem? HX.out.1, hb⟩)) hi5
              obtain ⟨mi, hmv⟩ := Df.mv_is i hi5
              rw [hmv] at a9
              have HV := Lib.hid hmv
              simp only at hcur
              clear hkn hmv
              go_wp2_with (at_builtin; refine Df.wpList_append_fit rfl _ _ 63 rfl B 9 ih (.string ⟨#[]⟩) 1 16 Try.underlying63 hih hh0 hh1 hh2 rfl (by decide) (.slice Aw (n + k) cw) (n + k) _ rfl (hcur.alloc _) ⟨wr.heap.size, 0, none⟩ 1 [.string mi] rfl rfl (cell_one_new _ _ _) (by simp [Value.oneCell']) (by unfold maxLen; omega) (by decide) (by omega) (by omega) (by simp; omega) ?_; intro v' w9 hown' hg'; obtain ⟨A9, c9, rfl⟩ := Df.row_form hown'; have h9 := Lib.hid (h4.out.step _ (show w9.ownsRow B 9 1 (.slice A9 (n + k + 1) c9) (n + (k + 1)) (Df.mk (Df.mv i) n ++ Df.mk (Df.mv i) (k + 1)) from by rw [Df.mk_succ, ← List.append_assoc, HV.out]; rw [HV.out] at hown'; exact hown') hg'); clear hown' hg')
              go_roundg (gk - 1)
              case measure => omega
              case rel => exact ⟨k + 1, A9, c9, by omega, congrArg (Value.int .i64) (by omega), rfl, h9⟩
    · have u1 : decide (i < vs.length) = true := decide_eq_true (by omega)
      obtain ⟨p, hp⟩ : ∃ p, vs[i]? = some p := ⟨_, List.getElem?_eq_getElem (by omega)⟩
      obtain ⟨xs, hxs, h2⟩ := h1.out.next hp
      have hil1 : i < vs.length := by omega
      have hi5 : i < 5 := by omega
      have hpl := HA.out.len p (List.mem_of_getElem? hp)
      obtain ⟨gl, hAl, hg1, hg2, -⟩ := Df.lcell h2.row (Df.get_fst hp)
      subst hAl
      obtain ⟨v, n⟩ := p
      obtain ⟨Av, cv, hv⟩ := Df.row_form h2.cur
      simp only at hxs hpl hv
      subst hv
      obtain ⟨og, hog⟩ : ∃ og, og = gk := ⟨_, rfl⟩
      have HX := Lib.hid (And.intro hp (And.intro hxs (And.intro hmi hog)))
      have H2 := Lib.hid h2
      clear hp hxs hmi hog h2 h1 hin
      go_upto_region 6 with fail
      go_loopg [5] n (fun m v wr => ∃ k : Nat, m + k = n ∧ v = .int .i64 (k : Nat) ∧ Hid (Df.A2 Df.mv W1 B vs (.slice (some ⟨gl, 0, none⟩) vs.length cl) i (.slice Av n cv, n) xs k wr))
      case atStart => exact ⟨0, by omega, rfl, H2⟩
      case round =>
        clear H2
        obtain ⟨k, hmk, rfl, h3⟩ := hrel
        obtain ⟨gl', hAl', -, -, a0⟩ := Df.lcell h3.out.row (Df.get_fst HX.out.1)
        obtain rfl : gl = gl' := by injection hAl' with e; injection e
        clear hAl'
        simp only at a0
        by_cases hkn : k = n
        · have u2 : decide (k < n) = false := decide_eq_false (by omega)
          have h4 := Lib.hid (show Df.A1 Df.mv W1 B vs (.slice (some ⟨gl, 0, none⟩) vs.length cl) (i + 1) wr from Df.A2.full (by subst hkn; exact h3.out) HX.out.1 HX.out.2.1)
          clear h3 hkn hmk
          go_wp2_with fail
          go_roundg (og - 1)
          case measure => have := HX.out.2.2.1; have := HX.out.2.2.2; omega
          case rel => exact ⟨i + 1, by have := HX.out.2.2.1; have := HX.out.2.2.2; omega, congrArg (Value.int .i64) (by omega), h4⟩
        · have u2 : decide (k < n) = true := decide_eq_true (by omega)
          have hkl : k < n := by omega
          have hcur := h3.out.cur
          obtain ⟨g, rfl, hg3, hg4⟩ := Df.row_some hcur (by show 0 < n; omega)
          have hlen := hcur.1
          simp only [Nat.mul_one] at hlen
          obtain ⟨y0, e0⟩ : ∃ y, (Df.mk (Df.mv i) k ++ xs.drop k)[k]? = some y := ⟨_, List.getElem?_eq_getElem (by omega)⟩
          have b0 := hcur.cells (g := g) rfl _ _ e0
          rw [Df.addr_add] at b0
          have f0 := hcur.frozenAt k
          have a9 := HM.out wr i h3.out.only hi5
          have h4 := h3.out.step HA.out HX.out.1 rfl HX.out.2.1 hkl rfl
          obtain ⟨mi, hmv⟩ := Df.mv_is i hi5
          rw [hmv] at a9 h4
          have h5 := Lib.hid h4.drew
          clear h3 hkn hcur hlen e0 h4 hmv
          go_upto_region 8 with fail
          go_region
          go_wp2_with fail
          go_roundg (gk - 1)
          case measure => omega
          case rel => exact ⟨k + 1, by omega, congrArg (Value.int .i64) (by omega), h5⟩
end Go.Proofs.Ytgbeeghdoilmkaa
