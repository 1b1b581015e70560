/- Names of a store's files: contracts of decimal (the program's and the document's), of strings.Cut at a point and of strings.CutPrefix. Conditions: each theorem's own hypotheses; the program's tables and errors hold what their initialisers lay. -/
import Derived.Test.YtaljcdkgcbdceaaDoorKd
import Derived.Test.YtaljcdkgcbdceaaDoorTx
import Derived.Test.YtaljcdkgcbdceaaDoorShelf
import Derived.Lib.AppendIntMem
import Derived.Below
import Derived.Lib.SmallJoins
namespace Go.Proofs.YtaljcdkgcbdceaaDoor
open Go.RowKit
set_option linter.unusedVariables false

/-- What the program's variables hold: the table of the powers of ten, the two errors. -/
structure Kd.Laid (w : World) : Prop where
  pow : Lib.TabIs Tryd.prog w "internal/strconv.uint64pow10" .u64 Lib.pow10Tab
  syn : ∃ tp p, w.var? Tryd.prog "strconv.ErrSyntax" = some #[.iface tp p]
  ran : ∃ tp p, w.var? Tryd.prog "strconv.ErrRange" = some #[.iface tp p]
theorem Kd.gPow : Tryd.prog.globalNamed "internal/strconv.uint64pow10" = some 1 := by kernel_rfl
theorem Kd.gSyn : Tryd.prog.globalNamed "strconv.ErrSyntax" = some 2 := by kernel_rfl
theorem Kd.gRan : Tryd.prog.globalNamed "strconv.ErrRange" = some 3 := by kernel_rfl
theorem Kd.var_lt {w : World} {n : String} {g : Nat} {v : Value} (hg : Tryd.prog.globalNamed n = some g) (h : w.var? Tryd.prog n = some #[v]) : g < w.heap.size := by
  have := World.var?_cell hg h 0
  exact World.block_lt_of_cell? w _ (by simpa using this)
theorem Kd.var_below {w w' : World} {n : String} {g : Nat} {v : Value} (hg : Tryd.prog.globalNamed n = some g) (h : w.var? Tryd.prog n = some #[v]) (hb : Below w.heap.size w w') : w'.var? Tryd.prog n = some #[v] := by
  have hl := Kd.var_lt hg h
  unfold World.var? at *
  rw [hg] at *
  simp only [Option.bind_some] at *
  rw [hb.block _ hl]; exact h
theorem Kd.Laid.below {w w' : World} (h : Kd.Laid w) (hb : Below w.heap.size w w') : Kd.Laid w' := by
  obtain ⟨h1, ⟨t2, p2, h2⟩, ⟨t3, p3, h3⟩⟩ := h
  refine ⟨?_, ⟨t2, p2, Kd.var_below Kd.gSyn h2 hb⟩, ⟨t3, p3, Kd.var_below Kd.gRan h3 hb⟩⟩
  have hl := World.block_lt_of_cell? w _ (Lib.TabIs.cell h1 Kd.gPow 0 (by decide))
  unfold Lib.TabIs World.var? at *
  rw [Kd.gPow] at *
  simp only [Option.bind_some] at *
  rw [hb.block _ hl]; exact h1

theorem kdItoa_any (n : Int) (h0 : -9223372036854775808 ≤ n) (h1 : n ≤ 9223372036854775807) (w : World) (hT : Kd.Laid w) (S : ByteArray) (hS : S.data.toList = Lib.itoa n) :
    Calls Tryd.prog 9 #[.int .i64 n] w fun e w' => e = .returned (.string S) ∧ Below w.heap.size w w' := by
  rw [← Tx.v_eq hS]
  refine (Tryd.strconv_Itoa n h0 h1 w hT.pow).mono fun e w' ⟨he, k, os, hw⟩ => ⟨he, ?_⟩
  subst hw
  exact Lib.below_grow _ _ (Nat.le_refl _) k os

theorem kdWithin_any (n lo hi : Int) (w : World) :
    Calls Tryd.prog 19 #[.int .i64 n, .int .i64 lo, .int .i64 hi] w fun e w' => e = .returned (.bool (decide (lo ≤ n ∧ n ≤ hi))) ∧ w = w' := by
  by_cases h1 : lo ≤ n
  · by_cases h2 : n ≤ hi
    · rw [decide_eq_true (show lo ≤ n ∧ n ≤ hi from ⟨h1, h2⟩)]
      go_enter Tryd.func19, Tryd.ntmps19
      go_wp2_with fail
      go_ret
      exact ⟨rfl, rfl⟩
    · rw [decide_eq_false (show ¬ (lo ≤ n ∧ n ≤ hi) from fun h => h2 h.2)]
      have h3 : decide (n ≤ hi) = false := decide_eq_false h2
      clear h2
      go_enter Tryd.func19, Tryd.ntmps19
      go_wp2_with fail
      go_ret
      exact ⟨rfl, rfl⟩
  · rw [decide_eq_false (show ¬ (lo ≤ n ∧ n ≤ hi) from fun h => h1 h.1)]
    have h3 : decide (lo ≤ n) = false := decide_eq_false h1
    clear h1
    go_enter Tryd.func19, Tryd.ntmps19
    go_wp2_with fail
    go_ret
    exact ⟨rfl, rfl⟩

theorem Kd.atoi_bd {l : List UInt8} {v : Int} (h : Lib.atoiAll l = .ok v) : -9223372036854775808 ≤ v ∧ v ≤ 9223372036854775807 := by
  unfold Lib.atoiAll at h
  split at h
  · cases h
  · simp only at h
    split at h
    · cases h
    · cases h
    · split at h
      · cases h
      · split at h
        · cases h
        · injection h with h
          split at h <;> omega

set_option maxRecDepth 100000 in
set_option maxHeartbeats 1000000 in
theorem kdDecimal_any (s : ByteArray) (lo hi : Int) (h0 : 0 ≤ lo) (h2 : hi ≤ 1099511627776) (hs : s.size ≤ 281474976710656) (w : World) (hT : Kd.Laid w) (r : Int) (hr : Kd.dec s.data.toList lo hi = r) :
    Calls Tryd.prog 13 #[.string s, .int .i64 lo, .int .i64 hi] w fun e w' => e = .returned (.int .i64 r) ∧ Below w.heap.size w w' := by
  have HT := Lib.hid hT
  rcases ha : Lib.atoiAll s.data.toList with v | _ | _
  · have hv := Kd.atoi_bd ha
    rw [Kd.by_atoi h0 h2 ha] at hr
    obtain ⟨S, hS, _⟩ := Tx.of (Lib.itoa v)
    have hb := Tx.beq S s
    rw [hS] at hb
    have hat : Calls Tryd.prog 26 #[.string s] w fun e w' => e = .returned (.tuple #[.int .i64 v, .nilIface]) ∧ Below w.heap.size w w' :=
      (Tryd.strconv_Atoi_ok s (by omega) v ha w).mono fun e w' ⟨he, hw⟩ => ⟨he, by
        rcases hw with rfl | ⟨t, rfl⟩
        · exact Below.refl _ _
        · exact Joins.below_bytesWorld _ _ _ _ (Nat.le_refl _)⟩
    have HAT := Lib.hid hat
    have HS := Lib.hid hS
    clear hat hS ha hT
    by_cases he : Lib.itoa v = s.data.toList
    · rw [decide_eq_true he] at hb
      by_cases hin : lo ≤ v ∧ v ≤ hi
      · rw [if_pos ⟨he, hin⟩] at hr
        subst hr
        have hwi := kdWithin_any v lo hi
        rw [decide_eq_true hin] at hwi
        have HWI := Lib.hid hwi
        clear hwi he
        go_enter Tryd.func13, Tryd.ntmps13
        go_wp2_with fail
        refine HAT.out.mono ?_
        rintro e w1 ⟨rfl, B1⟩
        go_wp2_with fail
        refine (kdItoa_any v hv.1 hv.2 w1 (HT.out.below B1) S HS.out).mono ?_
        rintro e w2 ⟨rfl, B2⟩
        have B3 : Below w.heap.size w w2 := B1.trans (B2.mono B1.size)
        clear B1 B2
        go_wp2_with fail
        refine (HWI.out _).mono ?_
        rintro e w3 ⟨rfl, rfl⟩
        go_wp2_with fail
        go_ret
        exact ⟨rfl, B3⟩
      · rw [if_neg (fun h => hin h.2)] at hr
        subst hr
        have hwi := kdWithin_any v lo hi
        rw [decide_eq_false hin] at hwi
        have HWI := Lib.hid hwi
        clear hwi he hin
        go_enter Tryd.func13, Tryd.ntmps13
        go_wp2_with fail
        refine HAT.out.mono ?_
        rintro e w1 ⟨rfl, B1⟩
        go_wp2_with fail
        refine (kdItoa_any v hv.1 hv.2 w1 (HT.out.below B1) S HS.out).mono ?_
        rintro e w2 ⟨rfl, B2⟩
        have B3 : Below w.heap.size w w2 := B1.trans (B2.mono B1.size)
        clear B1 B2
        go_wp2_with fail
        refine (HWI.out _).mono ?_
        rintro e w3 ⟨rfl, rfl⟩
        go_wp2_with fail
        go_ret
        exact ⟨rfl, B3⟩
    · rw [decide_eq_false he] at hb
      rw [if_neg (fun h => he h.1)] at hr
      subst hr
      clear he
      go_enter Tryd.func13, Tryd.ntmps13
      go_wp2_with fail
      refine HAT.out.mono ?_
      rintro e w1 ⟨rfl, B1⟩
      go_wp2_with fail
      refine (kdItoa_any v hv.1 hv.2 w1 (HT.out.below B1) S HS.out).mono ?_
      rintro e w2 ⟨rfl, B2⟩
      have B3 : Below w.heap.size w w2 := B1.trans (B2.mono B1.size)
      clear B1 B2
      go_wp2_with fail
      go_ret
      exact ⟨rfl, B3⟩
  · obtain rfl : -1 = r := by rw [← hr, Kd.not_atoi h2 (fun v hv => by rw [ha] at hv; cases hv)]
    obtain ⟨tp, p, hsy⟩ := hT.syn
    have hat := Tryd.strconv_Atoi_syntax_var s hs ha tp p w hsy
    have HAT := Lib.hid hat
    clear hat ha hT hr hsy
    go_enter Tryd.func13, Tryd.ntmps13
    go_wp2_with fail
    refine HAT.out.mono ?_
    rintro e w1 ⟨N, rfl, _, _, B1⟩
    go_wp2_with fail
    go_ret
    exact ⟨rfl, B1⟩
  · obtain rfl : -1 = r := by rw [← hr, Kd.not_atoi h2 (fun v hv => by rw [ha] at hv; cases hv)]
    obtain ⟨tp, p, hra⟩ := hT.ran
    have hat := Tryd.strconv_Atoi_range_var s hs ha tp p w hra
    have HAT := Lib.hid hat
    clear hat ha hT hr hra
    go_enter Tryd.func13, Tryd.ntmps13
    go_wp2_with fail
    refine HAT.out.mono ?_
    rintro e w1 ⟨N, rfl, _, _, B1⟩
    go_wp2_with fail
    go_ret
    exact ⟨rfl, B1⟩
end Go.Proofs.YtaljcdkgcbdceaaDoor
