/- Manifests: contracts of both Checks. Conditions: each theorem's own hypotheses. -/
import Derived.Test.YtffdplmnjlcmnaaDoorMfC
namespace Go.Proofs.YtffdplmnjlcmnaaDoor
open Go.RowKit Go.Maps
set_option linter.unusedVariables false

/-- Do the numbers ahead of the list go? -/
def Mf.Front (M : Man) : Prop := 0 ≤ M.seq ∧ M.seq ≤ 1152921504606846976 ∧ 2 ≤ M.next ∧ M.next ≤ 1099511627776 ∧ 1 ≤ M.jr ∧ M.jr < M.next ∧ M.runs.length ≤ 24
open Classical in
/-- Why a manifest does not go. -/
noncomputable def Mf.check (M : Man) : Nat := if ¬ Mf.opts M.w M.c M.m = 0 then Mf.opts M.w M.c M.m else if Mf.Front M ∧ Mf.Stand M then 0 else 80

/-- What a manifest's numbers are. -/
structure Mf.Fit (M : Man) : Prop where
  w : -9223372036854775808 ≤ M.w ∧ M.w ≤ 9223372036854775807
  jr : (Lit.int .i64 M.jr).wf = true
  runs : ∀ r ∈ M.runs, (Lit.int .i64 r.num).wf = true
  len : M.runs.length ≤ 4398046511104

/-- Behind k rounds all k runs go. -/
def CkRel (M : Man) (A : Option Addr) (cap : Nat) (w : World) (i : Value) (wr : World) : Prop :=
  ∃ k : Nat, k ≤ M.runs.length ∧ i = .int .i64 k ∧ Mf.OkTo M k ∧
    Blk wr w.heap.size 26 #[.int .i64 M.w, .int .i64 M.c, .int .i64 M.m, .int .i64 M.seq, .int .i64 M.next, .int .i64 M.jr, .slice A M.runs.length cap] ∧ Below w.heap.size w wr

set_option maxRecDepth 100000 in
set_option maxHeartbeats 2000000 in
theorem refCheck_any (M : Man) (A : Option Addr) (cap : Nat) (w : World) (HR : Rs w w.heap.size A M.runs) (hM : Mf.Fit M) (n : Nat) (hn : Mf.check M = n) :
    Calls Tryd.prog 17 #[manV M A cap] w fun e w' => e = .returned (.int .i64 n) ∧ Below w.heap.size w w' := by
  unfold Mf.check at hn
  obtain ⟨o, ho⟩ : ∃ o, Mf.opts M.w M.c M.m = o := ⟨_, rfl⟩
  rw [ho] at hn
  have HO := Lib.hid ho
  have hlen := hM.len
  by_cases h0 : o = 0
  rotate_left
  · rw [if_pos h0] at hn
    obtain rfl := hn
    have h0' : ((o : Int) != 0) = true := by rw [bne_iff_ne]; omega
    clear ho
    unfold manV
    go_enter Tryd.func17, Tryd.ntmps17
    go_wp2_with fail
    refine (refOpts_any M.w M.c M.m hM.w o HO.out _).mono ?_
    rintro e w1 ⟨rfl, hB⟩
    go_wp2_with fail
    go_ret
    exact ⟨rfl, ((Below.refl _ _).alloc (Nat.le_refl _) _).trans (hB.mono (by simp))⟩
  rw [if_neg (not_not_intro h0)] at hn
  subst h0
  have HN := Lib.hid hn
  clear hn ho
  unfold manV
  go_enter Tryd.func17, Tryd.ntmps17
  go_wp2_with fail
  refine (refOpts_any M.w M.c M.m hM.w 0 HO.out _).mono ?_
  rintro e w1 ⟨rfl, hB⟩
  have hb0 : Blk w1 w.heap.size 26 #[.int .i64 M.w, .int .i64 M.c, .int .i64 M.m, .int .i64 M.seq, .int .i64 M.next, .int .i64 M.jr, .slice A M.runs.length cap] := (hB.block w.heap.size (by simp)).trans (Blk.new w _ _)
  have B1 : Below w.heap.size w w1 := ((Below.refl _ _).alloc (Nat.le_refl _) _).trans (hB.mono (by simp))
  have m1 : w1.cell? ⟨w.heap.size, 3, none⟩ = some (.int .i64 M.seq) := hb0.cell 3
  have m2 : w1.cell? ⟨w.heap.size, 4, none⟩ = some (.int .i64 M.next) := hb0.cell 4
  have m3 : w1.cell? ⟨w.heap.size, 5, none⟩ = some (.int .i64 M.jr) := hb0.cell 5
  have m4 : w1.cell? ⟨w.heap.size, 6, none⟩ = some (.slice A M.runs.length cap) := hb0.cell 6
  clear hB
  by_cases hf : Mf.Front M
  · obtain ⟨f1, f2, f3, f4, f5, f6, f7⟩ := hf
    have hnn : (Mf.Stand M → n = 0) ∧ (¬ Mf.Stand M → n = 80) := by
      rw [← HN.out]
      exact ⟨fun h => if_pos ⟨⟨f1, f2, f3, f4, f5, f6, f7⟩, h⟩, fun h => if_neg fun h' => h h'.2⟩
    have HNN := Lib.hid hnn
    clear hnn HN
    have f7' : (M.runs.length : Int) ≤ 24 := by omega
    go_wp2_with fail
    clear m1 m2 m3
    go_loopw [4] (fun i wr => CkRel M A cap w i wr) (fun i _ => M.runs.length - (intOf i).toNat)
    case atStart => exact ⟨0, Nat.zero_le _, rfl, fun j r hj => by omega, hb0, B1⟩
    case round =>
      obtain ⟨k, hk, rfl, hok, hb, hB⟩ := hrel
      have HOK := Lib.hid hok
      have c0 : wr.cell? ⟨w.heap.size, 0, none⟩ = some (.int .i64 M.w) := hb.cell 0
      have c1 : wr.cell? ⟨w.heap.size, 1, none⟩ = some (.int .i64 M.c) := hb.cell 1
      have c2 : wr.cell? ⟨w.heap.size, 2, none⟩ = some (.int .i64 M.m) := hb.cell 2
      have c3 : wr.cell? ⟨w.heap.size, 3, none⟩ = some (.int .i64 M.seq) := hb.cell 3
      have c4 : wr.cell? ⟨w.heap.size, 4, none⟩ = some (.int .i64 M.next) := hb.cell 4
      have c5 : wr.cell? ⟨w.heap.size, 5, none⟩ = some (.int .i64 M.jr) := hb.cell 5
      have c6 : wr.cell? ⟨w.heap.size, 6, none⟩ = some (.slice A M.runs.length cap) := hb.cell 6
      clear hok m4
      by_cases hlt : k < M.runs.length
      · obtain ⟨r, hr⟩ : ∃ r, M.runs[k]? = some r := ⟨_, List.getElem?_eq_getElem hlt⟩
        have HJ := Lib.hid hr
        clear hr
        by_cases hat : Mf.OkAt M k r
        · have HAT := Lib.hid hat
          clear hat
          go_wp2_with fail
          refine (refRun_any M A cap _ ((HR.below hB).more hB.size) f7 k r hlt HJ.out true ⟨fun _ => rfl, fun _ => HAT.out⟩).mono ?_
          rintro e w2 ⟨rfl, hB2⟩
          have B2 : Below w.heap.size w w2 := hB.trans (hB2.mono hB.size)
          have hb2 : Blk w2 w.heap.size 26 #[.int .i64 M.w, .int .i64 M.c, .int .i64 M.m, .int .i64 M.seq, .int .i64 M.next, .int .i64 M.jr, .slice A M.runs.length cap] := (hB2.block w.heap.size hb.lt).trans hb
          clear c0 c1 c2 c3 c4 c5 c6
          go_wp2_with fail
          go_roundw
          case rel =>
            refine ⟨k + 1, by omega, by go_num, fun j x hj hx => ?_, hb2, B2⟩
            by_cases e : j = k
            · subst e
              obtain rfl := Option.some.inj (HJ.out.symm.trans hx)
              exact HAT.out
            · exact HOK.out j x (by omega) hx
          case measure => simp [intOf]; omega
        · have hst : ¬ Mf.Stand M := fun h => hat (h k r hlt HJ.out)
          obtain rfl := HNN.out.2 hst
          have HAT := Lib.hid hat
          clear hat hst
          go_wp2_with fail
          refine (refRun_any M A cap _ ((HR.below hB).more hB.size) f7 k r hlt HJ.out false ⟨fun h => absurd h HAT.out, fun h => by cases h⟩).mono ?_
          rintro e w2 ⟨rfl, hB2⟩
          have B2 : Below w.heap.size w w2 := hB.trans (hB2.mono hB.size)
          clear c0 c1 c2 c3 c4 c5 c6
          go_wp2_with fail
          go_ret
          exact ⟨rfl, B2⟩
      · obtain rfl : k = M.runs.length := by omega
        obtain rfl := HNN.out.1 HOK.out
        go_wp2_with fail
        go_ret
        exact ⟨rfl, hB⟩
  · have hn : 80 = n := by rw [← HN.out, if_neg (fun h => hf h.1)]
    obtain rfl := hn
    have HF := Lib.hid hf
    clear hf
    go_wp2_with fail
    all_goals first
      | (go_ret; exact ⟨rfl, B1⟩)
      | (exfalso; apply HF.out; unfold Mf.Front; go_light; omega)
end Go.Proofs.YtffdplmnjlcmnaaDoor
