/- Manifests: contract of manifest.Encode. Conditions: each theorem's own hypotheses. -/
import Derived.Test.YtdhnkcfmjibibaaGreatDoorMfG
namespace Go.Proofs.YtdhnkcfmjibibaaGreatDoor
open Go.RowKit Go.Maps
set_option linter.unusedVariables false

/-- Behind k rounds the head and k runs are written. -/
def EnRel (M : Man) (A : Option Addr) (cap m0 b : Nat) (w0 : World) (i : Value) (wr : World) : Prop :=
  ∃ k : Nat, k ≤ M.runs.length ∧ i = .int .i64 k ∧ Lib.IsBuilder 89 5 b b (Lib.byteCells (Mf.enc (Mf.nums M k))) wr ∧ Below b w0 wr

set_option maxRecDepth 100000 in
set_option maxHeartbeats 2000000 in
theorem encode_any (M : Man) (A : Option Addr) (cap : Nat) (w : World) (HR : Rs w w.heap.size A M.runs) (hM : Mf.Fit M) (hT : TabS w) (n : Nat) (hn : Mf.check M = n) :
    Calls Tryz.prog 24 #[manV M A cap] w fun e w' => e = .returned (encV M n) ∧ Below w.heap.size w w' := by
  have HN := Lib.hid hn
  clear hn
  have HT := Lib.hid hT
  clear hT
  by_cases h0 : n = 0
  rotate_left
  · have hE : encV M n = .tuple #[.string ⟨#[]⟩, .int .i64 n] := by unfold encV; rw [if_neg h0]; rfl
    rw [hE]
    have h0' : ((n : Int) != 0) = true := by rw [bne_iff_ne]; omega
    clear hE
    unfold manV
    go_enter Tryz.func24, Tryz.ntmps24
    go_wp2_with fail
    refine (check_any M A cap _ ((HR.below ((Below.refl _ _).alloc (Nat.le_refl _) _)).more (by simp)) hM n HN.out).mono ?_
    rintro e w1 ⟨rfl, hB⟩
    go_wp2_with fail
    go_ret2
    exact ⟨rfl, ((Below.refl _ _).alloc (Nat.le_refl _) _).trans (hB.mono (by simp))⟩
  subst h0
  have hG := Mf.good HN.out
  have HC := Lib.hid (Mf.heads_cells hG)
  have hEV : encV M 0 = .tuple #[str (Sl.frame 3 (Mf.body M)), .int .i64 0] := by unfold encV; rw [if_pos rfl]
  obtain ⟨S, hS, _, _⟩ := str_of (Sl.frame 3 (Mf.body M))
  have hfv := Mf.frameV_body hG
  rw [hS] at hfv
  have HFV := Lib.hid hfv
  rw [hEV, hS]
  clear hEV hfv hS
  have HG := Lib.hid hG
  have hlen : (M.runs.length : Int) ≤ 24 := by have := hG.len; omega
  clear hG
  unfold manV
  go_enter Tryz.func24, Tryz.ntmps24
  go_wp2_with fail
  refine (check_any M A cap _ ((HR.below ((Below.refl _ _).alloc (Nat.le_refl _) _)).more (by simp)) hM 0 HN.out).mono ?_
  rintro e w1 ⟨rfl, hB⟩
  have hb0 : Blk w1 w.heap.size 31 (manCells M A cap) := (hB.block w.heap.size (by simp)).trans (Blk.new w _ _)
  have B1 : Below w.heap.size w w1 := ((Below.refl _ _).alloc (Nat.le_refl _) _).trans (hB.mono (by simp))
  have c0 : w1.cell? ⟨w.heap.size, 0, none⟩ = some (.int .i64 M.w) := hb0.cell 0
  have c1 : w1.cell? ⟨w.heap.size, 1, none⟩ = some (.int .i64 M.c) := hb0.cell 1
  have c2 : w1.cell? ⟨w.heap.size, 2, none⟩ = some (.int .i64 M.m) := hb0.cell 2
  have c3 : w1.cell? ⟨w.heap.size, 3, none⟩ = some (.int .i64 M.seq) := hb0.cell 3
  have c4 : w1.cell? ⟨w.heap.size, 4, none⟩ = some (.int .i64 M.next) := hb0.cell 4
  have c5 : w1.cell? ⟨w.heap.size, 5, none⟩ = some (.int .i64 M.jr) := hb0.cell 5
  have c6 : w1.cell? ⟨w.heap.size, 6, none⟩ = some (.slice A M.runs.length cap) := hb0.cell 6
  have hlt0 : w.heap.size < w1.heap.size := hb0.lt
  go_wp2_with fail
  have hk1 : ∀ o : Obj, (w1.alloc o).heap.size = w1.heap.size + 1 := fun o => by simp
  have hp := fun W h1 h2 h3 => put_any w1.heap.size w1.heap.size (w1.heap.size + 1) 7 [] (Mf.heads M) W h1 h2 (by omega) (Mf.heads_le HG.out) (by show 0 + 10 * 7 ≤ _; omega) h3
  rw [show (Mf.heads M).length = 7 from rfl] at hp
  refine (hp _ (builder_below (Lib.fresh_isBuilder _ _ _) ((Below.refl _ _).alloc (Nat.le_refl _) _)) (by rw [HC.out, ← hk1]; exact Blk.new _ _ _) (by simp; omega)).mono ?_
  rintro e w2 ⟨rfl, hb2, hB2, _⟩
  have BX : Below w1.heap.size w1 w2 := (((Below.refl _ _).alloc (Nat.le_refl _) _).alloc (by simp) _).trans hB2
  have d6 : w2.cell? ⟨w.heap.size, 6, none⟩ = some (.slice A M.runs.length cap) := (BX.cell (p := ⟨w.heap.size, 6, none⟩) hlt0).trans c6
  clear hp c0 c1 c2 c3 c4 c5 c6 hb0
  go_wp2_with fail
  go_loopw [39] (fun i wr => EnRel M A cap w.heap.size w1.heap.size w1 i wr) (fun i _ => M.runs.length - (intOf i).toNat)
  case atStart => exact ⟨0, Nat.zero_le _, rfl, by simpa [Mf.nums] using hb2, BX⟩
  case round =>
    obtain ⟨k, hk, rfl, hbr, hBr⟩ := hrel
    have BB : Below w.heap.size w wr := B1.trans (hBr.mono B1.size)
    clear hb2 hB2 d6 BX
    by_cases hlt : k < M.runs.length
    · obtain ⟨b, off, r, rfl, hbb, hj, e0, e1, e2, e3⟩ := (HR.below BB).at_ hlt
      have hmem : r ∈ M.runs := List.mem_iff_getElem?.2 ⟨k, hj⟩
      have HRC := Lib.hid (Mf.row_cells HG.out hmem)
      have HNS := Lib.hid (Mf.nums_succ M k r hj)
      have hk2 : ∀ o : Obj, (wr.alloc o).heap.size = wr.heap.size + 1 := fun o => by simp
      have hsz := hBr.size
      have hel : (Mf.enc (Mf.nums M k)).length ≤ 1100000 := by
        have h1 := Mf.enc_len (Mf.nums M k)
        have h2 := Mf.nums_len M k
        omega
      have hp := fun W h1 h2 h3 => put_any w1.heap.size w1.heap.size (wr.heap.size + 1) 4 (Mf.enc (Mf.nums M k)) (Mf.row r) W h1 h2 (by omega) (Mf.row_le HG.out hmem) (by show _ + 10 * 4 ≤ _; omega) h3
      rw [show (Mf.row r).length = 4 from rfl] at hp
      have HP := Lib.hid hp
      have HJ := Lib.hid hj
      clear hp hj hmem hel
      go_wp2_with fail
      refine (HP.out _ (builder_below (builder_below hbr ((Below.refl _ _).alloc (Nat.le_refl _) _)) ((Below.refl _ _).alloc (Nat.le_refl _) _)) (by rw [HRC.out, ← hk2]; exact Blk.new _ _ _) (by simp; omega)).mono ?_
      rintro e w3 ⟨rfl, hb3, hB3, _⟩
      go_wp2_with fail
      go_roundw
      case rel =>
        refine ⟨k + 1, by omega, by go_num, ?_, (hBr.alloc hsz _ |>.alloc (by simp; omega) _).trans hB3⟩
        rw [HNS.out, Mf.enc_append]; exact hb3
      case measure => simp [intOf]; omega
    · obtain rfl : k = M.runs.length := by omega
      obtain ⟨P, hP, hPd, _⟩ := str_of (Mf.body M)
      have hst : ∀ W, Below w1.heap.size w1 W → w1.heap.size ≤ W.heap.size → Lib.IsBuilder 89 5 w1.heap.size w1.heap.size (Lib.byteCells (Mf.body M)) W →
          Calls Tryz.prog 53 #[.pointer (some ⟨w1.heap.size, 0, none⟩)] W fun e w' => e = .returned (.string P) ∧ Below w1.heap.size W w' := fun W _ h1 h2 => by
        rw [← hP]; exact Tryz.Builder_String_any w1.heap.size w1.heap.size (Mf.body M) W h2 h1
      have hfr : ∀ W, TabS W → Calls Tryz.prog 52 #[.int .i64 3, .string P] W fun e w' => e = .returned (.tuple #[.string S, .int .i64 0]) ∧ Below W.heap.size W w' := fun W h => by
        have := frame_any 3 P W h
        rw [hPd, HFV.out] at this
        exact this
      have H1 := Lib.hid hst
      have H2 := Lib.hid hfr
      clear hst hfr hP hPd
      go_wp2_with (go_at_call 53; refine (H1.out _ hBr hBr.size hbr).mono ?_)
      rintro e w3 ⟨rfl, hB3⟩
      have BC : Below w.heap.size w w3 := BB.trans (hB3.mono B1.size)
      go_wp2_with (go_at_call 52; refine (H2.out _ (HT.out.below BC)).mono ?_)
      rintro e w4 ⟨rfl, hB4⟩
      go_wp2_with fail
      go_ret2
      exact ⟨rfl, BC.trans (hB4.mono BC.size)⟩
end Go.Proofs.YtdhnkcfmjibibaaGreatDoor
