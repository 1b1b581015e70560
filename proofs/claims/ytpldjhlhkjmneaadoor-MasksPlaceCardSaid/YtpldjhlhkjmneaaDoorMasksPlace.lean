/- The tied card of the law MasksPlace: it returns true: places and masks are there and back, and in one order. Conditions: the library's table of 64 numbers, tied to the program's text. -/
import Derived.Test.YtpldjhlhkjmneaaDoorCards
import Derived.Test.YtpldjhlhkjmneaaDoorTie
import Derived.WalkKit
import Derived.ProofKit
import Derived.OpenShut
import Derived.Deep.DeepHandedRow
import Derived.Lib.LaidTab
import Derived.Test.YtpldjhlhkjmneaaDoorMasksR
namespace Go.Proofs.YtpldjhlhkjmneaaDoor.masksPlace
open Go.ChangeShapes Go.WideShapes Go.ChangeAt Go.RowKit
set_option linter.unusedVariables false

theorem own : ownKnob Tryd.prog.godebug = none := by kernel_rfl
theorem gTab : Tryd.prog.globalNamed "math/bits.deBruijn64tab" = some 0 := by kernel_rfl
theorem gTabType : (Tryd.prog.globals[0]?).map (·.type) = some 48 := by kernel_rfl
theorem cellsTab : Tryd.prog.cellsOf 48 = 64 := by kernel_rfl
theorem cellsByte : Tryd.prog.cellsOf 5 = 1 := by kernel_rfl

/-- What the row's list gives: the table's cells hold its numbers. -/
theorem table {W : World} (h : laidMetH Tryd.prog Rows.masksPlaceRow.laid W) : Lib.TabIs Tryd.prog W "math/bits.deBruijn64tab" .u8 [0, 1, 56, 2, 57, 49, 28, 3, 61, 58, 42, 50, 38, 29, 17, 4, 62, 47, 59, 36, 45, 43, 51, 22, 53, 39, 33, 30, 24, 18, 12, 5, 63, 55, 48, 27, 60, 41, 37, 16, 46, 35, 44, 21, 52, 32, 23, 11, 54, 26, 40, 15, 34, 20, 31, 10, 25, 14, 19, 9, 13, 8, 7, 6] :=
  Lib.tabIs_of_head (rest := []) gTab gTabType Tryd.underlying48 Tryd.underlying5 cellsByte cellsTab h
theorem tabW {W : World} (h : laidMetH Tryd.prog Rows.masksPlaceRow.laid W) : TabW W := by
  intro j hj
  have := (table h).cell gTab j hj
  rw [this]
  exact congrArg (fun z : Int => some (Value.int .u8 z)) ((by decide : ∀ j, j < 64 → ([0, 1, 56, 2, 57, 49, 28, 3, 61, 58, 42, 50, 38, 29, 17, 4, 62, 47, 59, 36, 45, 43, 51, 22, 53, 39, 33, 30, 24, 18, 12, 5, 63, 55, 48, 27, 60, 41, 37, 16, 46, 35, 44, 21, 52, 32, 23, 11, 54, 26, 40, 15, 34, 20, 31, 10, 25, 14, 19, 9, 13, 8, 7, 6] : List Int).getD j 0 = ((deB.getD j 0 : Nat) : Int)) j hj)

set_option maxRecDepth 100000 in
set_option maxHeartbeats 2000000 in
/-- The walk: the Go text returns true; nothing that was there has turned. -/
theorem walk (a0 : Int) (a1 : Int) (a2 : Int) (w0 : (Lit.int .i64 a0).wf = true) (w1 : (Lit.int .u64 a1).wf = true) (w2 : (Lit.int .u64 a2).wf = true) (w : World) (hT : TabW w) :
    Calls Tryd.prog 4 #[.int .i64 a0, .int .u64 a1, .int .u64 a2] w fun e w' => e = .returned (.bool true) ∧ Below w.heap.size w w' := by
  have ha : 0 ≤ a1 ∧ a1 < 18446744073709551616 := by
    have := bounds_u64 w1; omega
  have hb : 0 ≤ a2 ∧ a2 < 18446744073709551616 := by
    have := bounds_u64 w2; omega
  obtain ⟨a, rfl⟩ := Int.eq_ofNat_of_zero_le ha.1
  obtain ⟨b, rfl⟩ := Int.eq_ofNat_of_zero_le hb.1
  have ha64 : a < 18446744073709551616 := by omega
  have hb64 : b < 18446744073709551616 := by omega
  have HT := Lib.hid hT
  clear ha hb hT
  go_enter Tryd.func4, Tryd.ntmps4
  go_wp2_with fail
  refine (pick_any _ _ _ (by omega) (by omega)).mono ?_
  rintro e x1 ⟨⟨n, rfl, hn0, hn1⟩, rfl⟩
  obtain ⟨n, rfl⟩ := Int.eq_ofNat_of_zero_le hn0
  have hn : n ≤ 64 := by omega
  clear hn0 hn1
  obtain ⟨x, hx⟩ : ∃ x, a % 2 ^ n = x := ⟨_, rfl⟩
  obtain ⟨y, hy⟩ : ∃ y, b % 2 ^ n = y := ⟨_, rfl⟩
  have hxl : x < 2 ^ n := by rw [← hx]; exact Nat.mod_lt _ (Nat.two_pow_pos n)
  have hyl : y < 2 ^ n := by rw [← hy]; exact Nat.mod_lt _ (Nat.two_pow_pos n)
  have h64 := pow_le_64 hn
  obtain ⟨s, hs⟩ : ∃ s, Mm.wt n x = s := ⟨_, rfl⟩
  obtain ⟨r, hr⟩ : ∃ r, Mm.rk n x = r := ⟨_, rfl⟩
  obtain ⟨t, ht⟩ : ∃ t, Mm.wt n y = t := ⟨_, rfl⟩
  obtain ⟨q, hq⟩ : ∃ q, Mm.rk n y = q := ⟨_, rfl⟩
  have hs64 := Mm.wt_64 n x hxl hn
  have hr64 := Mm.rk_64 n x hxl hn
  have ht64 := Mm.wt_64 n y hyl hn
  have hq64 := Mm.rk_64 n y hyl hn
  have hsn := Mm.wt_le n x
  have htn := Mm.wt_le n y
  have hrc := Mm.rk_lt n x
  have hqb := rk_bound n y hn
  have hur := Mm.ur_rk n x hxl
  have hc := Cz_nat n s
  have hcl := Mm.C_lt n s hn
  rw [hs] at hs64 hsn hrc hur
  rw [hr] at hr64 hrc hur
  rw [ht] at ht64 htn
  rw [hq] at hq64 hqb
  obtain ⟨c, hcc⟩ : ∃ c, Mm.C n s = c := ⟨_, rfl⟩
  rw [hcc] at hrc hc hcl
  have hx64 : x < 18446744073709551616 := by omega
  have hy64 : y < 18446744073709551616 := by omega
  have horder : s = t → (r < q ∧ x < y) ∨ (r = q ∧ x = y) ∨ (q < r ∧ y < x) := by
    intro e
    rcases Nat.lt_trichotomy x y with h | h | h
    · left; have := Mm.rk_lt_rk n x y hxl hyl (by rw [hs, ht, e]) h; rw [hr, hq] at this; exact ⟨this, h⟩
    · right; left; subst h; exact ⟨by rw [← hr, ← hq], rfl⟩
    · right; right; have := Mm.rk_lt_rk n y x hyl hxl (by rw [hs, ht, e]) h; rw [hr, hq] at this; exact ⟨this, h⟩
  have Hx := Lib.hid hx
  have Hy := Lib.hid hy
  have Hs := Lib.hid hs64
  have Hr := Lib.hid hr64
  have Ht := Lib.hid ht64
  have Hq := Lib.hid hq64
  have Hc := Lib.hid hc
  have Hcc := Lib.hid hcc
  have Hu := Lib.hid hur
  have Ho := Lib.hid horder
  clear hx hy hs hr ht hq hs64 hr64 ht64 hq64 hur hc hcc horder hxl hyl h64
  go_wp2_with fail
  refine (lawLow_any n a x _ hn ha64 Hx.out).mono ?_
  rintro e x1 ⟨rfl, rfl⟩
  go_wp2_with fail
  refine (lawLow_any n b y _ hn hb64 Hy.out).mono ?_
  rintro e x1 ⟨rfl, rfl⟩
  go_wp2_with fail
  refine (lawWeight_any x s _ hx64 Hs.out).mono ?_
  rintro e x1 ⟨rfl, rfl⟩
  go_wp2_with fail
  refine (count_ok _ _ _ (by omega) (by omega)).mono ?_
  rintro e x1 ⟨rfl, hB1⟩
  rw [Hc.out]
  go_wp2_with fail
  refine (rank_any x r _ hx64 Hr.out (HT.out.below hB1)).mono ?_
  rintro e x2 ⟨rfl, hB2⟩
  have c2 := hB1.trans (hB2.mono hB1.size)
  clear hB1 hB2
  go_wp2_with fail
  refine (unrank_ok n s r x _ hn (by rw [Hcc.out]; exact hrc) Hu.out).mono ?_
  rintro e x3 ⟨rfl, hB3⟩
  have c3 := c2.trans (hB3.mono c2.size)
  clear hB3 c2
  go_wp2_with fail
  refine (unrank_rank _ _ _ _ (by omega) (by omega) (.inr (by rw [Hc.out]; omega))).mono ?_
  rintro e x4 ⟨rfl, hB4⟩
  have c4 := c3.trans (hB4.mono c3.size)
  have HT4 := Lib.hid (HT.out.below c4)
  clear hB4 c3
  have t1 : ((x : Int) != x) = false := by simp
  have t2 : decide (c ≤ r) = false := by simp; omega
  have t3 : decide ((r : Int) < 0) = false := by simp
  by_cases hst : s = t
  · subst hst
    have t4 : ((s : Int) != s) = false := by simp
    have ho := Ho.out rfl
    clear Ho
    rcases ho with ⟨o1, o2⟩ | ⟨rfl, rfl⟩ | ⟨o1, o2⟩
    · have u1 : ((r : Int) == q) = false := by simp; omega
      have u2 : ((x : Int) == y) = false := by simp; omega
      go_wp2_with (first | (go_at_call 11; refine (num_any _ _).mono ?_; rintro e w' ⟨rfl, rfl⟩) | (go_at_call 14; refine (lawWeight_any y s _ hy64 Ht.out).mono ?_; rintro e w' ⟨rfl, rfl⟩))
      refine (rank_any y q _ hy64 Hq.out HT4.out).mono ?_
      rintro e x5 ⟨rfl, hB5⟩
      have c5 := c4.trans (hB5.mono c4.size)
      clear hB5 c4
      go_wp2
      go_ret
      exact ⟨rfl, c5⟩
    · go_wp2_with (first | (go_at_call 11; refine (num_any _ _).mono ?_; rintro e w' ⟨rfl, rfl⟩) | (go_at_call 14; refine (lawWeight_any x s _ hy64 Ht.out).mono ?_; rintro e w' ⟨rfl, rfl⟩))
      refine (rank_any x r _ hy64 Hq.out HT4.out).mono ?_
      rintro e x5 ⟨rfl, hB5⟩
      have c5 := c4.trans (hB5.mono c4.size)
      clear hB5 c4
      go_wp2
      go_ret
      exact ⟨rfl, c5⟩
    · have u1 : ((r : Int) == q) = false := by simp; omega
      have u2 : ((x : Int) == y) = false := by simp; omega
      have u3 : decide (r < q) = false := by simp; omega
      have u4 : decide (x < y) = false := by simp; omega
      go_wp2_with (first | (go_at_call 11; refine (num_any _ _).mono ?_; rintro e w' ⟨rfl, rfl⟩) | (go_at_call 14; refine (lawWeight_any y s _ hy64 Ht.out).mono ?_; rintro e w' ⟨rfl, rfl⟩))
      refine (rank_any y q _ hy64 Hq.out HT4.out).mono ?_
      rintro e x5 ⟨rfl, hB5⟩
      have c5 := c4.trans (hB5.mono c4.size)
      clear hB5 c4
      go_wp2
      go_ret
      exact ⟨rfl, c5⟩
  · have t4 : ((t : Int) != s) = true := by simp; omega
    go_wp2_with (first | (go_at_call 11; refine (num_any _ _).mono ?_; rintro e w' ⟨rfl, rfl⟩) | (go_at_call 14; refine (lawWeight_any y t _ hy64 Ht.out).mono ?_; rintro e w' ⟨rfl, rfl⟩))
    go_ret
    exact ⟨rfl, c4⟩

theorem contract (H : Type) (enc : TypeId × Value → H) (W : World) (base : Nat) (args : Array Value) (ds gs : List (DataW H)) (before : List MemPlace)
    (hval : ∀ (j : Nat) t v, Tryd.f4.params[j]? = some t → args[j]? = some v → Value.okWide Tryd.prog W .any base t v)
    (hW : DataW.Whole enc Tryd.prog Tryd.f4.params.toList Rows.masksPlaceSpec.vars false W args.toList ds gs before) (hL : laidMetH Tryd.prog Rows.masksPlaceRow.laid W) :
    Calls Tryd.prog 4 args W fun e W' => ∃ v, e = .returned v ∧ Rows.masksPlaceSpec.post enc Tryd.prog Tryd.f4 false true false false W args v W' := by
  have hW' := hW
  obtain ⟨p, q, hA0, hV, rfl, hfz, hnd⟩ := hW
  have hA : DataW.TrodAll enc Tryd.prog W 0 (fun _ => true) true Tryd.f4.params.toList args.toList ds p := hA0
  rw [Tryd.params4] at hA hval
  obtain ⟨v0, vs0, d0, ds0, p0, q0, hargs, rfl, rfl, h0, r0⟩ := trodAll_cons hA
  obtain ⟨v1, vs1, d1, ds1, p1, q1, rfl, rfl, rfl, h1, r1⟩ := trodAll_cons r0
  obtain ⟨v2, vs2, d2, ds2, p2, q2, rfl, rfl, rfl, h2, r2⟩ := trodAll_cons r1
  obtain ⟨rfl, rfl, rfl⟩ := trodAll_nil r2
  obtain rfl : args = #[v0, v1, v2] := by cases args; simp_all
  obtain ⟨rfl, rfl⟩ := trodVars_none hV
  obtain ⟨a0, rfl, rfl, rfl, w0⟩ := open_int Tryd.underlying3 (hval 0 3 v0 rfl rfl) h0
  obtain ⟨a1, rfl, rfl, rfl, w1⟩ := open_int Tryd.underlying22 (hval 1 22 v1 rfl rfl) h1
  obtain ⟨a2, rfl, rfl, rfl, w2⟩ := open_int Tryd.underlying22 (hval 2 22 v2 rfl rfl) h2
  clear hA0
  simp only [List.append_nil] at hW'
  refine (walk a0 a1 a2 w0 w1 w2 W (tabW hL)).mono fun e W' ⟨he, hg⟩ => ?_
  subst he
  exact ⟨_, rfl, _, _, _, [], [], [], hW', (trodAll_cons_mk (shut_bool Tryd.underlying4 _) trodAll_mk0), (trodAll_cons_mk (shut_int Tryd.underlying3 w0) (trodAll_cons_mk (shut_int Tryd.underlying22 w1) (trodAll_cons_mk (shut_int Tryd.underlying22 w2) trodAll_mk0))), rfl, hg.frame _, fun h => by cases h⟩

/-- A world for the witness: the settled one, the table's block holding what its initialiser lays. -/
noncomputable def laidWorld (os : Os) : World :=
  { World.holding Tryd.prog os ⟨#[], #[], []⟩ with heap := (World.holding Tryd.prog os ⟨#[], #[], []⟩).heap.modify 0 fun
      | .cells _ t frozen => .cells #[.int .u8 0, .int .u8 1, .int .u8 56, .int .u8 2, .int .u8 57, .int .u8 49, .int .u8 28, .int .u8 3, .int .u8 61, .int .u8 58, .int .u8 42, .int .u8 50, .int .u8 38, .int .u8 29, .int .u8 17, .int .u8 4, .int .u8 62, .int .u8 47, .int .u8 59, .int .u8 36, .int .u8 45, .int .u8 43, .int .u8 51, .int .u8 22, .int .u8 53, .int .u8 39, .int .u8 33, .int .u8 30, .int .u8 24, .int .u8 18, .int .u8 12, .int .u8 5, .int .u8 63, .int .u8 55, .int .u8 48, .int .u8 27, .int .u8 60, .int .u8 41, .int .u8 37, .int .u8 16, .int .u8 46, .int .u8 35, .int .u8 44, .int .u8 21, .int .u8 52, .int .u8 32, .int .u8 23, .int .u8 11, .int .u8 54, .int .u8 26, .int .u8 40, .int .u8 15, .int .u8 34, .int .u8 20, .int .u8 31, .int .u8 10, .int .u8 25, .int .u8 14, .int .u8 19, .int .u8 9, .int .u8 13, .int .u8 8, .int .u8 7, .int .u8 6] t frozen
      | o => o }
theorem laid_met (os : Os) : laidMet Tryd.prog Rows.masksPlaceRow.laid ((laidWorld os).forCall (fun _ _ => 0) ⟨#[], #[.int .i64 0, .int .u64 0, .int .u64 0], []⟩).memory :=
  laidMet_of_run' 8 (by kernel_rfl) (by kernel_rfl)
theorem reads (os : Os) {H : Type} (enc : TypeId × Value → H) : ∃ places, DataW.whole enc Tryd.prog ((laidWorld os).forCall (fun _ _ => 0) ⟨#[], #[.int .i64 0, .int .u64 0, .int .u64 0], []⟩).memory Tryd.f4.params.toList Rows.masksPlaceSpec.vars false (#[.int .i64 0, .int .u64 0, .int .u64 0] : Array Value).toList 8 = some ([.lit (.int .i64 0), .lit (.int .u64 0), .lit (.int .u64 0)], [], places) :=
  ⟨[], by kernel_rfl⟩

set_option maxRecDepth 100000 in
theorem lifted (os : Os) (started : os.Started) (H : Type) (enc : TypeId × Value → H) (F : Stop.Interp) :
    ReturnsInHanded {} Tryd.checked os 4 .any ((OpenSpec.ofChange Rows.masksPlaceSpec).preRow enc Tryd.prog Tryd.f4 Rows.masksPlaceRow.domain false Rows.masksPlaceRow.laid) (((OpenSpec.ofChange Rows.masksPlaceSpec).at F).post enc Tryd.prog Tryd.f4 false true false false) := by
  obtain ⟨places, hx⟩ := reads os enc
  refine returnsInHanded_of_row (C := Tryd.checked) (s := OpenSpec.ofChange Rows.masksPlaceSpec) own started (by kernel_rfl) Tryd.func4
    (witness_row_at (enc := enc) (C := Tryd.checked) false (laidWorld os) #[.int .i64 0, .int .u64 0, .int .u64 0] rfl (by kernel_rfl) (by kernel_rfl) (by kernel_rfl)
      (OpenSpec.preRow_of_cond 8 hx (by kernel_rfl) (fun k hk => by cases hk) (by kernel_rfl) (laid_met os))) ?_
  intro W base args ds gs before hval hW _ _ _ hL _ _
  exact contract H enc W base args ds gs before hval hW hL

theorem said : Rows.MasksPlaceSaid :=
  OpenClaim.holds_of_cond 4 Tryd.f4 rfl rfl rfl rfl rfl rfl rfl ⟨rfl, rfl, rfl, rfl, rfl⟩ rfl rfl rfl rfl rfl (by kernel_rfl) Tryd.func4 (by kernel_rfl)
    (of_decide_eq_true (by kernel_rfl)) (by unfold Func.isWrapper; first | (rw [if_pos (by decide +kernel)]; kernel_rfl) | (rw [if_neg (by decide +kernel)]; exact ⟨rfl, rfl⟩))
    (fun os started H enc _ F => by rw [OpenClaim.pre_eq_preRow]; exact lifted os started H enc F)

/-- No parameter wants a stand-in; the program's own looks are off. -/
theorem plain (f : FuncId) (fn : Func) (hf : Tryd.pinned.checked.prog.funcNamed "kindred/kindredlaw2.MasksPlace" = some f) (hfn : Tryd.pinned.checked.prog.funcs[f]? = some fn) :
    false = Tryd.pinned.checked.prog.looks [] ∧ ∀ (j : Nat) t, fn.params[j]? = some t → Tryd.pinned.checked.prog.wantsStandIn t = false := by
  obtain rfl : f = 4 := Option.some.inj ((show Tryd.prog.funcNamed "kindred/kindredlaw2.MasksPlace" = some 4 by kernel_rfl).symm.trans hf) |>.symm
  obtain rfl : fn = Tryd.f4 := (Option.some.inj (Tryd.func4.symm.trans hfn)).symm
  refine ⟨by kernel_rfl, fun j t ht => ?_⟩
  rw [Tryd.params4] at ht
  have hm := Array.mem_of_getElem? ht
  have hd : t = 3 ∨ t = 22 := by simpa using hm
  rcases hd with rfl | rfl
  · exact (show Tryd.prog.wantsStandIn 3 = false by kernel_rfl)
  · exact (show Tryd.prog.wantsStandIn 22 = false by kernel_rfl)

/-- The card. -/
theorem card : Rows.MasksPlaceCardSaid :=
  Claim7.holds_tied_plain_at .later [] _ _ _ _ said (fun _ h => by cases h) (by kernel_rfl) (fun _ h => by cases h) masksPlace_row_tie rfl ⟨rfl, rfl⟩ (by kernel_rfl) rfl plain (by kernel_rfl)
#print axioms card
end Go.Proofs.YtpldjhlhkjmneaaDoor.masksPlace
