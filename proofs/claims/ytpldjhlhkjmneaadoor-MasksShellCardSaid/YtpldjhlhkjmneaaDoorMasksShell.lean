/- The tied card of the law MasksShell: it returns true: a walk goes through the whole shell, rising, each mask once. Conditions: the library's table of 64 numbers, tied to the program's text. -/
import Derived.Test.YtpldjhlhkjmneaaDoorCards
import Derived.Test.YtpldjhlhkjmneaaDoorTie
import Derived.WalkKit
import Derived.ProofKit
import Derived.OpenShut
import Derived.Deep.DeepHandedRow
import Derived.Lib.LaidTab
import Derived.Test.YtpldjhlhkjmneaaDoorMasksR
namespace Go.Proofs.YtpldjhlhkjmneaaDoor.masksShell
open Go.ChangeShapes Go.WideShapes Go.ChangeAt Go.RowKit
set_option linter.unusedVariables false

theorem own : ownKnob Tryd.prog.godebug = none := by kernel_rfl
theorem gTab : Tryd.prog.globalNamed "math/bits.deBruijn64tab" = some 0 := by kernel_rfl
theorem gTabType : (Tryd.prog.globals[0]?).map (·.type) = some 48 := by kernel_rfl
theorem cellsTab : Tryd.prog.cellsOf 48 = 64 := by kernel_rfl
theorem cellsByte : Tryd.prog.cellsOf 5 = 1 := by kernel_rfl

/-- What the row's list gives: the table's cells hold its numbers. -/
theorem table {W : World} (h : laidMetH Tryd.prog Rows.masksShellRow.laid W) : Lib.TabIs Tryd.prog W "math/bits.deBruijn64tab" .u8 [0, 1, 56, 2, 57, 49, 28, 3, 61, 58, 42, 50, 38, 29, 17, 4, 62, 47, 59, 36, 45, 43, 51, 22, 53, 39, 33, 30, 24, 18, 12, 5, 63, 55, 48, 27, 60, 41, 37, 16, 46, 35, 44, 21, 52, 32, 23, 11, 54, 26, 40, 15, 34, 20, 31, 10, 25, 14, 19, 9, 13, 8, 7, 6] :=
  Lib.tabIs_of_head (rest := []) gTab gTabType Tryd.underlying48 Tryd.underlying5 cellsByte cellsTab h
theorem tabW {W : World} (h : laidMetH Tryd.prog Rows.masksShellRow.laid W) : TabW W := by
  intro j hj
  have := (table h).cell gTab j hj
  rw [this]
  exact congrArg (fun z : Int => some (Value.int .u8 z)) ((by decide : ∀ j, j < 64 → ([0, 1, 56, 2, 57, 49, 28, 3, 61, 58, 42, 50, 38, 29, 17, 4, 62, 47, 59, 36, 45, 43, 51, 22, 53, 39, 33, 30, 24, 18, 12, 5, 63, 55, 48, 27, 60, 41, 37, 16, 46, 35, 44, 21, 52, 32, 23, 11, 54, 26, 40, 15, 34, 20, 31, 10, 25, 14, 19, 9, 13, 8, 7, 6] : List Int).getD j 0 = ((deB.getD j 0 : Nat) : Int)) j hj)

set_option maxRecDepth 100000 in
set_option maxHeartbeats 2000000 in
/-- The walk: the Go text returns true; nothing that was there has turned. -/
theorem walk (a0 : Int) (a1 : Int) (w0 : (Lit.int .i64 a0).wf = true) (w1 : (Lit.int .i64 a1).wf = true) (w : World) (hT : TabW w) :
    Calls Tryd.prog 5 #[.int .i64 a0, .int .i64 a1] w fun e w' => e = .returned (.bool true) ∧ Below w.heap.size w w' := by
  have HT := Lib.hid hT
  clear hT
  go_enter Tryd.func5, Tryd.ntmps5
  go_wp2_with fail
  refine (pick_any _ _ _ (by omega) (by omega)).mono ?_
  rintro e x1 ⟨⟨n, rfl, hn0, hn1⟩, rfl⟩
  obtain ⟨n, rfl⟩ := Int.eq_ofNat_of_zero_le hn0
  have hn : n ≤ 64 := by omega
  clear hn0 hn1
  go_wp2_with fail
  refine (pick_any _ _ _ (by omega) (by omega)).mono ?_
  rintro e x1 ⟨⟨s, rfl, hs0, hs1⟩, rfl⟩
  obtain ⟨s, rfl⟩ := Int.eq_ofNat_of_zero_le hs0
  have hsn : s ≤ n := by omega
  clear hs0 hs1
  have hc := Cz_nat n s
  have hcp := Mm.C_pos n s hsn
  have hcl := Mm.C_lt n s hn
  have h0 : Mm.ur n s 0 = lowN s := Mm.ur_first n s hsn
  obtain ⟨c, hcc⟩ : ∃ c, Mm.C n s = c := ⟨_, rfl⟩
  rw [hcc] at hc hcp hcl
  have Hc := Lib.hid hc
  have Hcc := Lib.hid hcc
  have H0 := Lib.hid h0
  clear hc hcc h0
  go_wp2_with fail
  refine (count_ok _ _ _ (by omega) (by omega)).mono ?_
  rintro e x1 ⟨rfl, hB⟩
  rw [Hc.out]
  go_wp2_with fail
  refine (first_yes n s _ hn hsn).mono ?_
  rintro e x2 ⟨rfl, rfl⟩
  have t0 : decide ((c : Int) < 1) = false := by simp; omega
  have t1 : decide (c < 1) = false := by simp; omega
  go_wp2_with (go_at_call 11; refine (num_any _ _).mono ?_; rintro e w' ⟨rfl, rfl⟩)
  go_loopw [9, 11] (fun m i wr => ∃ (i' m' : Nat), m = .int .u64 m' ∧ i = .int .i64 i' ∧ i' ≤ 1000 ∧ i' < c ∧ Mm.ur n s i' = m' ∧ Below w.heap.size w wr) (fun _ i _ => 1000 - (intOf i).toNat)
  case atStart => exact ⟨0, lowN s, rfl, rfl, by omega, by omega, H0.out, hB⟩
  case round =>
    obtain ⟨i, m, rfl, rfl, hi, hic, hm, hB'⟩ := hrel
    clear hB
    by_cases hlt : i < 1000
    · have hml : m < 2 ^ n := by rw [← hm]; exact Mm.ur_lt n s i
      obtain ⟨hw, hr⟩ := Mm.of_ur n s i (by rw [Hcc.out]; exact hic)
      rw [hm] at hw hr
      have hw64 := Mm.wt_64 n m hml hn
      have hr64 := Mm.rk_64 n m hml hn
      rw [hw] at hw64
      rw [hr] at hr64
      have hm64 : m < 18446744073709551616 := by have := pow_le_64 hn; omega
      have Hw := Lib.hid hw64
      have Hr := Lib.hid hr64
      have Hl : Hid (m % 2 ^ n = m) := Nat.mod_eq_of_lt hml
      have HT2 := Lib.hid (HT.out.below hB')
      have u1 : ((s : Int) != s) = false := by simp
      have u2 : ((m : Int) != m) = false := by simp
      have u3 : ((i : Int) != i) = false := by simp
      by_cases hnext : i + 1 < c
      · have hnx : Mm.rk n m + 1 < Mm.C n (Mm.wt n m) := by rw [hw, hr, Hcc.out]; exact hnext
        have hk : Mm.nextOf n m = Mm.ur n s (i + 1) := by unfold Mm.nextOf; rw [hw, hr]
        obtain ⟨k, hkk⟩ : ∃ k, Mm.ur n s (i + 1) = k := ⟨_, rfl⟩
        rw [hkk] at hk
        have hkl : k < 2 ^ n := by rw [← hkk]; exact Mm.ur_lt n s (i + 1)
        have hmk : m < k := by
          obtain ⟨hkw, hkr⟩ := Mm.of_ur n s (i + 1) (by rw [Hcc.out]; exact hnext)
          rw [hkk] at hkw hkr
          apply Nat.lt_of_not_le
          intro h
          rcases Nat.lt_or_eq_of_le h with h | h
          · have := Mm.rk_lt_rk n k m hkl hml (by rw [hkw, hw]) h
            omega
          · rw [h, hr] at hkr; omega
        have u4 : decide ((i : Int) + 1 < c) = true := by simp; omega
        have Hn := Lib.hid hnx
        have Hk := Lib.hid hk
        have Hkk := Lib.hid hkk
        have Hml := Lib.hid hml
        clear hm hw hr hw64 hr64 hml hnx hk hkk hkl
        go_wp2_with fail
        refine (lawWeight_any m s _ hm64 Hw.out).mono ?_
        rintro e y1 ⟨rfl, rfl⟩
        go_wp2_with fail
        refine (lawLow_any n m m _ hn hm64 Hl.out).mono ?_
        rintro e y1 ⟨rfl, rfl⟩
        go_wp2_with fail
        refine (rank_any m i _ hm64 Hr.out HT2.out).mono ?_
        rintro e y2 ⟨rfl, hB2⟩
        have c2 := hB'.trans (hB2.mono hB'.size)
        clear hB2 hB'
        go_wp2_with fail
        refine (next_yes n m _ hn Hml.out Hn.out).mono ?_
        rintro e y1 ⟨rfl, rfl⟩
        rw [Hk.out]
        go_wp2_with fail
        exact ⟨⟨i + 1, k, rfl, by go_num, by omega, hnext, Hkk.out, c2⟩, by simp [intOf]; omega⟩
      · have hnx : Mm.rk n m + 1 = Mm.C n (Mm.wt n m) := by rw [hw, hr, Hcc.out]; omega
        have Hn := Lib.hid hnx
        have Hml := Lib.hid hml
        have u4 : decide ((i : Int) + 1 < c) = false := by simp; omega
        clear hm hw hr hw64 hr64 hml hnx
        go_wp2_with fail
        refine (lawWeight_any m s _ hm64 Hw.out).mono ?_
        rintro e y1 ⟨rfl, rfl⟩
        go_wp2_with fail
        refine (lawLow_any n m m _ hn hm64 Hl.out).mono ?_
        rintro e y1 ⟨rfl, rfl⟩
        go_wp2_with fail
        refine (rank_any m i _ hm64 Hr.out HT2.out).mono ?_
        rintro e y2 ⟨rfl, hB2⟩
        have c2 := hB'.trans (hB2.mono hB'.size)
        clear hB2 hB'
        go_wp2_with fail
        refine (next_no n m _ hn Hml.out Hn.out).mono ?_
        rintro e y1 ⟨rfl, rfl⟩
        go_wp2_with fail
        go_ret
        exact ⟨rfl, c2⟩
    · obtain rfl : i = 1000 := by omega
      have u5 : decide ((1000 : Int) < (c : Int)) = true := by simp; omega
      clear hm
      go_wp2_with fail
      go_ret
      exact ⟨rfl, hB'⟩

theorem contract (H : Type) (enc : TypeId × Value → H) (W : World) (base : Nat) (args : Array Value) (ds gs : List (DataW H)) (before : List MemPlace)
    (hval : ∀ (j : Nat) t v, Tryd.f5.params[j]? = some t → args[j]? = some v → Value.okWide Tryd.prog W .any base t v)
    (hW : DataW.Whole enc Tryd.prog Tryd.f5.params.toList Rows.masksShellSpec.vars false W args.toList ds gs before) (hL : laidMetH Tryd.prog Rows.masksShellRow.laid W) :
    Calls Tryd.prog 5 args W fun e W' => ∃ v, e = .returned v ∧ Rows.masksShellSpec.post enc Tryd.prog Tryd.f5 false true false false W args v W' := by
  have hW' := hW
  obtain ⟨p, q, hA0, hV, rfl, hfz, hnd⟩ := hW
  have hA : DataW.TrodAll enc Tryd.prog W 0 (fun _ => true) true Tryd.f5.params.toList args.toList ds p := hA0
  rw [Tryd.params5] at hA hval
  obtain ⟨v0, vs0, d0, ds0, p0, q0, hargs, rfl, rfl, h0, r0⟩ := trodAll_cons hA
  obtain ⟨v1, vs1, d1, ds1, p1, q1, rfl, rfl, rfl, h1, r1⟩ := trodAll_cons r0
  obtain ⟨rfl, rfl, rfl⟩ := trodAll_nil r1
  obtain rfl : args = #[v0, v1] := by cases args; simp_all
  obtain ⟨rfl, rfl⟩ := trodVars_none hV
  obtain ⟨a0, rfl, rfl, rfl, w0⟩ := open_int Tryd.underlying3 (hval 0 3 v0 rfl rfl) h0
  obtain ⟨a1, rfl, rfl, rfl, w1⟩ := open_int Tryd.underlying3 (hval 1 3 v1 rfl rfl) h1
  clear hA0
  simp only [List.append_nil] at hW'
  refine (walk a0 a1 w0 w1 W (tabW hL)).mono fun e W' ⟨he, hg⟩ => ?_
  subst he
  exact ⟨_, rfl, _, _, _, [], [], [], hW', (trodAll_cons_mk (shut_bool Tryd.underlying4 _) trodAll_mk0), (trodAll_cons_mk (shut_int Tryd.underlying3 w0) (trodAll_cons_mk (shut_int Tryd.underlying3 w1) trodAll_mk0)), rfl, hg.frame _, fun h => by cases h⟩

/-- A world for the witness: the settled one, the table's block holding what its initialiser lays. -/
noncomputable def laidWorld (os : Os) : World :=
  { World.holding Tryd.prog os ⟨#[], #[], []⟩ with heap := (World.holding Tryd.prog os ⟨#[], #[], []⟩).heap.modify 0 fun
      | .cells _ t frozen => .cells #[.int .u8 0, .int .u8 1, .int .u8 56, .int .u8 2, .int .u8 57, .int .u8 49, .int .u8 28, .int .u8 3, .int .u8 61, .int .u8 58, .int .u8 42, .int .u8 50, .int .u8 38, .int .u8 29, .int .u8 17, .int .u8 4, .int .u8 62, .int .u8 47, .int .u8 59, .int .u8 36, .int .u8 45, .int .u8 43, .int .u8 51, .int .u8 22, .int .u8 53, .int .u8 39, .int .u8 33, .int .u8 30, .int .u8 24, .int .u8 18, .int .u8 12, .int .u8 5, .int .u8 63, .int .u8 55, .int .u8 48, .int .u8 27, .int .u8 60, .int .u8 41, .int .u8 37, .int .u8 16, .int .u8 46, .int .u8 35, .int .u8 44, .int .u8 21, .int .u8 52, .int .u8 32, .int .u8 23, .int .u8 11, .int .u8 54, .int .u8 26, .int .u8 40, .int .u8 15, .int .u8 34, .int .u8 20, .int .u8 31, .int .u8 10, .int .u8 25, .int .u8 14, .int .u8 19, .int .u8 9, .int .u8 13, .int .u8 8, .int .u8 7, .int .u8 6] t frozen
      | o => o }
theorem laid_met (os : Os) : laidMet Tryd.prog Rows.masksShellRow.laid ((laidWorld os).forCall (fun _ _ => 0) ⟨#[], #[.int .i64 0, .int .i64 0], []⟩).memory :=
  laidMet_of_run' 8 (by kernel_rfl) (by kernel_rfl)
theorem reads (os : Os) {H : Type} (enc : TypeId × Value → H) : ∃ places, DataW.whole enc Tryd.prog ((laidWorld os).forCall (fun _ _ => 0) ⟨#[], #[.int .i64 0, .int .i64 0], []⟩).memory Tryd.f5.params.toList Rows.masksShellSpec.vars false (#[.int .i64 0, .int .i64 0] : Array Value).toList 8 = some ([.lit (.int .i64 0), .lit (.int .i64 0)], [], places) :=
  ⟨[], by kernel_rfl⟩

set_option maxRecDepth 100000 in
theorem lifted (os : Os) (started : os.Started) (H : Type) (enc : TypeId × Value → H) (F : Stop.Interp) :
    ReturnsInHanded {} Tryd.checked os 5 .any ((OpenSpec.ofChange Rows.masksShellSpec).preRow enc Tryd.prog Tryd.f5 Rows.masksShellRow.domain false Rows.masksShellRow.laid) (((OpenSpec.ofChange Rows.masksShellSpec).at F).post enc Tryd.prog Tryd.f5 false true false false) := by
  obtain ⟨places, hx⟩ := reads os enc
  refine returnsInHanded_of_row (C := Tryd.checked) (s := OpenSpec.ofChange Rows.masksShellSpec) own started (by kernel_rfl) Tryd.func5
    (witness_row_at (enc := enc) (C := Tryd.checked) false (laidWorld os) #[.int .i64 0, .int .i64 0] rfl (by kernel_rfl) (by kernel_rfl) (by kernel_rfl)
      (OpenSpec.preRow_of_cond 8 hx (by kernel_rfl) (fun k hk => by cases hk) (by kernel_rfl) (laid_met os))) ?_
  intro W base args ds gs before hval hW _ _ _ hL _ _
  exact contract H enc W base args ds gs before hval hW hL

theorem said : Rows.MasksShellSaid :=
  OpenClaim.holds_of_cond 5 Tryd.f5 rfl rfl rfl rfl rfl rfl rfl ⟨rfl, rfl, rfl, rfl, rfl⟩ rfl rfl rfl rfl rfl (by kernel_rfl) Tryd.func5 (by kernel_rfl)
    (of_decide_eq_true (by kernel_rfl)) (by unfold Func.isWrapper; first | (rw [if_pos (by decide +kernel)]; kernel_rfl) | (rw [if_neg (by decide +kernel)]; exact ⟨rfl, rfl⟩))
    (fun os started H enc _ F => by rw [OpenClaim.pre_eq_preRow]; exact lifted os started H enc F)

/-- No parameter wants a stand-in; the program's own looks are off. -/
theorem plain (f : FuncId) (fn : Func) (hf : Tryd.pinned.checked.prog.funcNamed "kindred/kindredlaw2.MasksShell" = some f) (hfn : Tryd.pinned.checked.prog.funcs[f]? = some fn) :
    false = Tryd.pinned.checked.prog.looks [] ∧ ∀ (j : Nat) t, fn.params[j]? = some t → Tryd.pinned.checked.prog.wantsStandIn t = false := by
  obtain rfl : f = 5 := Option.some.inj ((show Tryd.prog.funcNamed "kindred/kindredlaw2.MasksShell" = some 5 by kernel_rfl).symm.trans hf) |>.symm
  obtain rfl : fn = Tryd.f5 := (Option.some.inj (Tryd.func5.symm.trans hfn)).symm
  refine ⟨by kernel_rfl, fun j t ht => ?_⟩
  rw [Tryd.params5] at ht
  have hm := Array.mem_of_getElem? ht
  have hd : t = 3 := by simpa using hm
  rcases hd with rfl
  · exact (show Tryd.prog.wantsStandIn 3 = false by kernel_rfl)

/-- The card. -/
theorem card : Rows.MasksShellCardSaid :=
  Claim7.holds_tied_plain_at .later [] _ _ _ _ said (fun _ h => by cases h) (by kernel_rfl) (fun _ h => by cases h) masksShell_row_tie rfl ⟨rfl, rfl⟩ (by kernel_rfl) rfl plain (by kernel_rfl)
#print axioms card
end Go.Proofs.YtpldjhlhkjmneaaDoor.masksShell
