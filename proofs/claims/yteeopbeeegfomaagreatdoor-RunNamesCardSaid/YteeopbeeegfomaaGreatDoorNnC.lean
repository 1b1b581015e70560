/- Runs: contracts of run.name and run.Names, and the document's. Conditions: each theorem's own hypotheses; the table of the powers of ten holds what its initialiser lays. -/
import Derived.Test.YteeopbeeegfomaaGreatDoorNnB
import Derived.Test.YteeopbeeegfomaaGreatDoorTx
import Derived.Test.YteeopbeeegfomaaGreatDoorShelf
import Derived.Lib.AppendIntMem
import Derived.OwnWalk
namespace Go.Proofs.YteeopbeeegfomaaGreatDoor
open Go.RowKit
set_option linter.unusedVariables false

theorem Rn.row_below {w w' : World} {base : Nat} {e : TypeId} {size : Nat} {v : Value} {n : Nat} {xs : List Value} (h : w.ownsRow base e size v n xs) (hb : Below w.heap.size w w') : w'.ownsRow base e size v n xs := by
  refine ⟨h.1, ?_⟩
  rcases h.2 with hn | ⟨g, cap, cur, rfl, hb1, hgg, rest⟩
  · exact .inl hn
  · exact .inr ⟨g, cap, cur, rfl, hb1, (hb.block _ (Array.getElem?_eq_some_iff.1 hgg).1).trans hgg, rest⟩
theorem Rn.row_base {w : World} {base base' : Nat} {e : TypeId} {size : Nat} {v : Value} {n : Nat} {xs : List Value} (h : w.ownsRow base e size v n xs) (hb : base' ≤ base) : w.ownsRow base' e size v n xs := by
  refine ⟨h.1, ?_⟩
  rcases h.2 with hn | ⟨g, cap, cur, rfl, hb1, rest⟩
  · exact .inl hn
  · exact .inr ⟨g, cap, cur, rfl, by omega, rest⟩
/-- The table of the powers of ten. -/
def Rn.Pow (w : World) : Prop := Lib.TabIs Tryz.prog w "internal/strconv.uint64pow10" .u64 Lib.pow10Tab
theorem Rn.gPow : Tryz.prog.globalNamed "internal/strconv.uint64pow10" = some 1 := by kernel_rfl
theorem Rn.Pow.below {w w' : World} (h : Rn.Pow w) (hb : Below w.heap.size w w') : Rn.Pow w' := by
  have hl := World.block_lt_of_cell? w _ (Lib.TabIs.cell h Rn.gPow 0 (by decide))
  unfold Rn.Pow Lib.TabIs World.var? at *
  rw [Rn.gPow] at *
  simp only [Option.bind_some] at *
  rw [hb.block _ hl]; exact h
theorem rnItoa_any (n : Int) (h0 : -9223372036854775808 ≤ n) (h1 : n ≤ 9223372036854775807) (w : World) (hT : Rn.Pow w) (S : ByteArray) (hS : S.data.toList = Lib.itoa n) :
    Calls Tryz.prog 20 #[.int .i64 n] w fun e w' => e = .returned (.string S) ∧ Below w.heap.size w w' := by
  rw [← Tx.v_eq hS]
  refine (Tryz.strconv_Itoa n h0 h1 w hT).mono fun e w' ⟨he, k, os, hw⟩ => ⟨he, ?_⟩
  subst hw
  exact Lib.below_grow _ _ (Nat.le_refl _) k os
theorem Rn.nDigits_le (u : Nat) : Lib.nDigits u ≤ u + 1 := by
  induction u using Nat.strongRecOn with
  | _ u ih =>
    rw [Lib.nDigits]
    split
    · omega
    · have := ih (u / 10) (by omega); omega

/-- The name of a table's file. -/
def Rn.name (n j : Int) : List UInt8 := 114 :: (Lib.itoa n ++ 46 :: Lib.itoa j)
theorem Rn.itoa_len {n : Int} (h : 0 ≤ n) : (Lib.itoa n).length ≤ n.toNat + 1 := by
  unfold Lib.itoa
  rw [if_neg (by omega), Lib.decDigits_length]
  exact Rn.nDigits_le _

set_option maxRecDepth 100000 in
theorem rnName_any (n j : Int) (hn : 1 ≤ n ∧ n ≤ 1099511627776) (hj : 0 ≤ j ∧ j ≤ 1048576) (W : World) (hT : Rn.Pow W) (S : ByteArray) (hS : S.data.toList = Rn.name n j) :
    Calls Tryz.prog 10 #[.int .i64 n, .int .i64 j] W fun e W' => e = .returned (.string S) ∧ Below W.heap.size W W' := by
  obtain ⟨D, hD, hDs⟩ := Tx.of (Lib.itoa n)
  obtain ⟨E, hE, hEs⟩ := Tx.of (Lib.itoa j)
  have l1 : D.size ≤ 1099511627777 := by have := Rn.itoa_len (n := n) (by omega); omega
  have l2 : E.size ≤ 1048577 := by have := Rn.itoa_len (n := j) (by omega); omega
  have hfin : (⟨#[114]⟩ : ByteArray) ++ D ++ (⟨#[46]⟩ : ByteArray) ++ E = S := Tx.ext (by rw [Tx.append, Tx.append, Tx.append, hD, hE, hS]; simp [Rn.name])
  have s1 : ((⟨#[114]⟩ : ByteArray) ++ D).size = 1 + D.size := by rw [ByteArray.size_append]; rfl
  have s2 : ((⟨#[114]⟩ : ByteArray) ++ D ++ (⟨#[46]⟩ : ByteArray)).size = 1 + D.size + 1 := by rw [ByteArray.size_append, s1]; rfl
  have HD := Lib.hid hD
  have HE := Lib.hid hE
  have HF := Lib.hid hfin
  have HT := Lib.hid hT
  have a1 : ∀ w, (Op.stringOp .add (⟨#[114]⟩ : ByteArray) D).run Tryz.prog w = .ok (.string ((⟨#[114]⟩ : ByteArray) ++ D)) w := fun w => run_string_add_sum w _ _ (by show 1 + D.size ≤ _; omega)
  have a2 : ∀ w, (Op.stringOp .add ((⟨#[114]⟩ : ByteArray) ++ D) (⟨#[46]⟩ : ByteArray)).run Tryz.prog w = .ok (.string ((⟨#[114]⟩ : ByteArray) ++ D ++ (⟨#[46]⟩ : ByteArray))) w := fun w => run_string_add_sum w _ _ (by rw [s1]; show 1 + D.size + 1 ≤ _; omega)
  have a3 : ∀ w, (Op.stringOp .add ((⟨#[114]⟩ : ByteArray) ++ D ++ (⟨#[46]⟩ : ByteArray)) E).run Tryz.prog w = .ok (.string S) w := fun w => by
    rw [← hfin]; exact run_string_add_sum w _ _ (by rw [s2]; omega)
  clear hD hE hfin hT hDs hEs hS s1 s2
  go_enter Tryz.func10, Tryz.ntmps10
  go_wp2_with fail
  refine (rnItoa_any n (by omega) (by omega) _ HT.out D HD.out).mono ?_
  rintro e w1 ⟨rfl, B1⟩
  go_wp2_with fail
  refine (rnItoa_any j (by omega) (by omega) _ (HT.out.below B1) E HE.out).mono ?_
  rintro e w2 ⟨rfl, B2⟩
  have B3 := B1.trans (B2.mono B1.size)
  clear B1 B2
  go_wp2_with fail
  go_ret
  exact ⟨rfl, B3⟩

theorem infoStr : (Tryz.prog.info? 9).map (fun i => (i.zero, i.size, i.bytes)) = some (some (.string ⟨#[]⟩), 1, 16) := by kernel_rfl
/-- The names of the first k tables. -/
def Rn.names (n : Int) (k : Nat) : List (List UInt8) := (List.range k).map fun j => Rn.name n (j : Nat)
theorem Rn.names_succ (n : Int) (k : Nat) : Rn.names n (k + 1) = Rn.names n k ++ [Rn.name n (k : Nat)] := by simp [Rn.names, List.range_succ]
theorem Rn.names_length (n : Int) (k : Nat) : (Rn.names n k).length = k := by simp [Rn.names]
/-- The names of a run's files. -/
def Rn.list (n w c m : Int) : List (List UInt8) := if Rn.goes n w c m = 0 then Rn.names n (Rn.tabs c m) else []
theorem Rn.goes_in {n w c m : Int} (h : Rn.goes n w c m = 0) : 1 ≤ n ∧ n ≤ 1099511627776 ∧ Rn.opts w c m = 0 := by
  unfold Rn.goes at h
  split at h
  · cases h
  · exact ⟨by omega, by omega, h⟩
theorem Rn.tabs_le {w c m : Int} (h : Rn.opts w c m = 0) : Rn.tabs c m ≤ 128 := by
  unfold Rn.opts at h
  unfold Rn.tabs
  (repeat' split at h) <;> (split <;> omega)

set_option maxRecDepth 100000 in
set_option maxHeartbeats 1000000 in
theorem names_any (n w c m : Int) (hw : -9223372036854775808 ≤ w ∧ w ≤ 9223372036854775807) (W : World) (hT : Rn.Pow W) (L : List (List UInt8)) (hL : Rn.list n w c m = L) :
    Calls Tryz.prog 4 #[.int .i64 n, .agg #[.int .i64 w, .int .i64 c, .int .i64 m]] W fun e W' => (∃ v, e = .returned v ∧ W'.ownsRow W.heap.size 9 1 v L.length (L.map Tx.v)) ∧ Below W.heap.size W W' := by
  have B0 : Below W.heap.size W (W.alloc (.cells #[.int .i64 w, .int .i64 c, .int .i64 m] 25)) := (Below.refl _ _).alloc (Nat.le_refl _) _
  obtain ⟨q, hq⟩ : ∃ q, Rn.goes n w c m = q := ⟨_, rfl⟩
  unfold Rn.list at hL
  rw [hq] at hL
  have HT := Lib.hid hT
  have HG := Lib.hid hq
  clear hT
  by_cases h0 : q = 0
  · subst h0
    rw [if_pos rfl] at hL
    obtain ⟨hn1, hn2, ho⟩ := Rn.goes_in hq
    have hTl := Rn.tabs_le ho
    have HTB := Lib.hid (tables_any w c m ho)
    obtain ⟨T, hTT⟩ : ∃ T, Rn.tabs c m = T := ⟨_, rfl⟩
    rw [hTT] at hL hTl
    obtain ⟨i0, hi, hz0, hz1, hz2⟩ := info_parts infoStr
    have HTT := Lib.hid hTT
    subst hL
    clear hq ho hTT
    go_enter Tryz.func4, Tryz.ntmps4
    go_wp2_with fail
    refine (rnGoes_any n w c m hw 0 HG.out _).mono ?_
    rintro e W1 ⟨rfl, hB⟩
    have B1 := rn_below hB B0
    have c0 : W1.cell? ⟨W.heap.size, 0, none⟩ = some (.int .i64 w) := (hB.cell (p := ⟨W.heap.size, 0, none⟩) (by simp)).trans (World.cell?_alloc_at _ _ _ _ rfl)
    have c1 : W1.cell? ⟨W.heap.size, 1, none⟩ = some (.int .i64 c) := (hB.cell (p := ⟨W.heap.size, 1, none⟩) (by simp)).trans (World.cell?_alloc_at _ _ _ _ rfl)
    have c2 : W1.cell? ⟨W.heap.size, 2, none⟩ = some (.int .i64 m) := (hB.cell (p := ⟨W.heap.size, 2, none⟩) (by simp)).trans (World.cell?_alloc_at _ _ _ _ rfl)
    clear hB B0
    go_wp2_with fail
    refine (HTB.out _).mono ?_
    rw [HTT.out]
    rintro e W2 ⟨⟨g, cap, rfl, _, _⟩, hB⟩
    have B2 := rn_below hB B1
    clear hB B1 c0 c1 c2
    go_wp2_with fail
    go_loopw [5, 14] (fun v i wr => ∃ k : Nat, k ≤ T ∧ i = .int .i64 k ∧ wr.ownsRow W.heap.size 9 1 v k ((Rn.names n k).map Tx.v) ∧ Below W.heap.size W wr) (fun _ i _ => T - (intOf i).toNat)
    case atStart => exact ⟨0, Nat.zero_le _, rfl, World.ownsRow_nil _ _ _ _, B2⟩
    case round =>
      obtain ⟨k, hk, rfl, hown, hB⟩ := hrel
      by_cases hlt : k < T
      · obtain ⟨S, hS, _⟩ := Tx.of (Rn.name n (k : Nat))
        have HS := Lib.hid hS
        have hsz := hB.size
        clear hS
        go_wp2_with (first
          | (go_at_call 10; refine (rnName_any n k ⟨hn1, hn2⟩ ⟨by omega, by omega⟩ _ (HT.out.below hB) S HS.out).mono ?_; rintro e W3 ⟨rfl, hB3⟩; have hown3 := Rn.row_below hown hB3; have B3 := rn_below hB3 hB)
          | (at_builtin; refine wpList_append_own _ rfl _ _ 22 rfl W.heap.size 9 i0 (.string ⟨#[]⟩) 1 16 Tryz.underlying22 hi hz0 hz1 hz2 rfl (by decide) _ _ _ rfl (hown3.alloc _) ⟨W3.heap.size, 0, none⟩ 1 1 [.string S] rfl rfl ?c1 ?c2 ?c3 ?c4 ?c5 ?_))
        case c1 => exact cell_one_new _ _ _
        case c2 => simp [Value.oneCell']
        case c3 => unfold maxLen; omega
        case c4 => omega
        case c5 => simp; have := B3.size; omega
        intro v' w4 hown4 hgrow _
        have B4 : Below W.heap.size W w4 := (B3.alloc B3.size _).grown hgrow (by have := B3.size; simp; omega) (fun q e => (hown3.lt q e).1)
        have r4 : w4.ownsRow W.heap.size 9 1 v' (k + 1) ((Rn.names n (k + 1)).map Tx.v) := by
          rw [Rn.names_succ, List.map_append, List.map_singleton, Tx.v_eq HS.out]; exact hown4
        clear hown4 hgrow hown3 B3 hown hB
        go_wp2_with fail
        go_roundw
        case rel => exact ⟨k + 1, by omega, by go_num, r4, B4⟩
        case measure => simp [intOf]; omega
      · obtain rfl : k = T := by omega
        go_wp2_with fail
        go_ret
        rw [Rn.names_length]
        exact ⟨⟨_, rfl, hown⟩, hB⟩
  · rw [if_neg h0] at hL
    subst hL
    have t1 : ((q : Int) != 0) = true := by rw [bne_iff_ne]; omega
    clear hq
    go_enter Tryz.func4, Tryz.ntmps4
    go_wp2_with fail
    refine (rnGoes_any n w c m hw q HG.out _).mono ?_
    rintro e W1 ⟨rfl, hB⟩
    have B1 := rn_below hB B0
    clear hB B0
    go_wp2_with fail
    go_ret
    exact ⟨⟨_, rfl, World.ownsRow_nil _ _ _ _⟩, B1⟩

end Go.Proofs.YteeopbeeegfomaaGreatDoor
