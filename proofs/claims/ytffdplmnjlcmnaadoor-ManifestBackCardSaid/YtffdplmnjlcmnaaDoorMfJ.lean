/- Manifests: the reference's Encode. Conditions: each theorem's own hypotheses. -/
import Derived.Test.YtffdplmnjlcmnaaDoorMfI
import Derived.Test.YtffdplmnjlcmnaaDoorSealF
namespace Go.Proofs.YtffdplmnjlcmnaaDoor
open Go.RowKit Go.Maps
set_option linter.unusedVariables false

def EcRel (zs : List Nat) (B : Nat) (w0 : World) (p i : Value) (wr : World) : Prop :=
  ∃ (k : Nat) (P : ByteArray), k ≤ zs.length ∧ i = .int .i64 k ∧ p = .string P ∧ P.data.toList = Mf.enc (zs.take k) ∧ Below B w0 wr

set_option maxRecDepth 100000 in
set_option maxHeartbeats 2000000 in
theorem refEncode_any (M : Man) (A : Option Addr) (cap : Nat) (w : World) (HR : Rs w w.heap.size A M.runs) (hM : Mf.Fit M) (n : Nat) (hn : Mf.check M = n) :
    Calls Tryd.prog 14 #[manV M A cap] w fun e w' => e = .returned (encV M n) ∧ Below w.heap.size w w' := by
  have HN := Lib.hid hn
  clear hn
  by_cases h0 : n = 0
  rotate_left
  · have hE : encV M n = .tuple #[.string ⟨#[]⟩, .int .i64 n] := by unfold encV; rw [if_neg h0]; rfl
    rw [hE]
    have h0' : ((n : Int) != 0) = true := by rw [bne_iff_ne]; omega
    clear hE
    unfold manV
    go_enter Tryd.func14, Tryd.ntmps14
    go_wp2_with fail
    refine (refCheck_any M A cap _ ((HR.below ((Below.refl _ _).alloc (Nat.le_refl _) _)).more (by simp)) hM n HN.out).mono ?_
    rintro e w1 ⟨rfl, hB⟩
    go_wp2_with fail
    go_ret2
    exact ⟨rfl, ((Below.refl _ _).alloc (Nat.le_refl _) _).trans (hB.mono (by simp))⟩
  subst h0
  have hG := Mf.good HN.out
  have hEV : encV M 0 = .tuple #[str (Sl.frame 3 (Mf.body M)), .int .i64 0] := by unfold encV; rw [if_pos rfl]
  obtain ⟨S, hS, _, _⟩ := str_of (Sl.frame 3 (Mf.body M))
  have hfv := Mf.frameV_body hG
  rw [hS] at hfv
  have HFV := Lib.hid hfv
  rw [hEV, hS]
  clear hEV hfv hS
  have HG := Lib.hid hG
  have hlen : M.runs.length ≤ 24 := hG.len
  clear hG
  unfold manV
  go_enter Tryd.func14, Tryd.ntmps14
  go_wp2_with fail
  refine (refCheck_any M A cap _ ((HR.below ((Below.refl _ _).alloc (Nat.le_refl _) _)).more (by simp)) hM 0 HN.out).mono ?_
  rintro e w1 ⟨rfl, hB⟩
  have hb0 : Blk w1 w.heap.size 26 (manCells M A cap) := (hB.block w.heap.size (by simp)).trans (Blk.new w _ _)
  have B1 : Below w.heap.size w w1 := ((Below.refl _ _).alloc (Nat.le_refl _) _).trans (hB.mono (by simp))
  have c0 : w1.cell? ⟨w.heap.size, 0, none⟩ = some (.int .i64 M.w) := hb0.cell 0
  have c1 : w1.cell? ⟨w.heap.size, 1, none⟩ = some (.int .i64 M.c) := hb0.cell 1
  have c2 : w1.cell? ⟨w.heap.size, 2, none⟩ = some (.int .i64 M.m) := hb0.cell 2
  have c3 : w1.cell? ⟨w.heap.size, 3, none⟩ = some (.int .i64 M.seq) := hb0.cell 3
  have c4 : w1.cell? ⟨w.heap.size, 4, none⟩ = some (.int .i64 M.next) := hb0.cell 4
  have c5 : w1.cell? ⟨w.heap.size, 5, none⟩ = some (.int .i64 M.jr) := hb0.cell 5
  have c6 : w1.cell? ⟨w.heap.size, 6, none⟩ = some (.slice A M.runs.length cap) := hb0.cell 6
  go_wp2_with fail
  refine (numbers_any M A cap _ ((HR.below B1).more B1.size) HG.out).mono ?_
  rintro e w2 ⟨v, rfl, hown, hB2⟩
  obtain ⟨g, gc, rfl⟩ : ∃ g gc, v = .slice (some ⟨g, 0, none⟩) (7 + 4 * M.runs.length) gc := by
    rcases hown.2 with ⟨_, h⟩ | ⟨g, gc, _, h, _⟩
    · omega
    · exact ⟨g, gc, h⟩
  have hcell := World.ownsRow.cells hown (g := g) rfl
  have hgl := (World.ownsRow.lt hown g rfl).2
  obtain ⟨zs, hz⟩ : ∃ zs, Mf.nums M M.runs.length = zs := ⟨_, rfl⟩
  have hzl : zs.length = 7 + 4 * M.runs.length := by rw [← hz]; exact Mf.nums_len' M _ (Nat.le_refl _)
  rw [hz] at hcell
  have hle : ∀ z ∈ zs, z ≤ 1152921504606846976 := by
    rw [← hz]
    intro z hm
    unfold Mf.nums at hm
    rcases List.mem_append.1 hm with h | h
    · exact Mf.heads_le HG.out z h
    · obtain ⟨r, hr, hzr⟩ := List.mem_flatMap.1 h
      exact Mf.row_le HG.out (List.mem_of_mem_take hr) z hzr
  have hbody : Mf.body M = Mf.enc zs := by unfold Mf.body; rw [hz]
  have HB := Lib.hid hbody
  have HL := Lib.hid hle
  have HCL := Lib.hid hcell
  have BW2 : Below w.heap.size w w2 := B1.trans (hB2.mono B1.size)
  have hz103 : zs.length ≤ 103 := by omega
  clear hz hle hcell hbody c0 c1 c2 c3 c4 c5 c6 hb0 hown
  rw [← hzl]
  clear hzl
  go_wp2_with fail
  go_loopw [6, 7] (fun p i wr => EcRel zs w2.heap.size w2 p i wr) (fun _ i _ => zs.length - (intOf i).toNat)
  case atStart => exact ⟨0, ⟨#[]⟩, Nat.zero_le _, rfl, rfl, rfl, Below.refl _ _⟩
  case round =>
    obtain ⟨k, P, hk, rfl, rfl, hP, hBr⟩ := hrel
    have HP := Lib.hid hP
    clear hP
    by_cases hlt : k < zs.length
    · obtain ⟨z, hzk⟩ : ∃ z, zs[k]? = some z := ⟨_, List.getElem?_eq_getElem hlt⟩
      have hzl : z ≤ 1152921504606846976 := HL.out z (List.mem_iff_getElem?.2 ⟨k, hzk⟩)
      have e1 : wr.cell? ⟨g, k, none⟩ = some (.int .i64 (z : Int)) := by
        have h := HCL.out k (.int .i64 (z : Int)) (by rw [Mf.cells_list, List.getElem?_map, hzk]; rfl)
        rw [addLit, Nat.zero_add] at h
        exact (hBr.cell (p := ⟨g, k, none⟩) hgl).trans h
      have hes := Mf.enc_succ zs k z hzk
      have hel := Mf.enc_len (zs.take k)
      have htl : (zs.take k).length ≤ k := List.length_take_le _ _
      have hPl : P.size ≤ 10 * k := by have : P.data.toList.length = P.size := Array.length_toList; rw [HP.out] at this; omega
      obtain ⟨Z, hZ, hZd, hZs⟩ := str_of (Sl.putVar z)
      have hZl : Z.size ≤ 10 := by rw [hZs]; exact (Sl.pvf_len 9 z).2
      have hpv : ∀ W, Calls Tryd.prog 50 #[.int .u64 z] W fun e w' => e = .returned (.string Z) ∧ Below W.heap.size W w' := fun W => by rw [← hZ]; exact refPutVar_any z W (by omega)
      have hcat : (P ++ Z).data.toList = Mf.enc (zs.take (k + 1)) := by
        rw [hes, ← HP.out, ← hZd]; simp
      have HPV := Lib.hid hpv
      have HCT := Lib.hid hcat
      have fin := Lib.hid (show k + 1 ≤ zs.length by omega)
      clear hpv hcat hZ hZd hZs hes hel htl hzk
      go_wp2_with (go_at_call 50; refine (HPV.out _).mono ?_)
      rintro e w3 ⟨rfl, hB3⟩
      go_wp2_with fail
      go_roundw
      case rel => exact ⟨k + 1, P ++ Z, fin.out, by go_num, rfl, HCT.out, hBr.trans (hB3.mono hBr.size)⟩
      case measure => simp [intOf]; omega
    · obtain rfl : k = zs.length := by omega
      rw [List.take_length] at HP
      have hfr : ∀ W, Calls Tryd.prog 51 #[.int .i64 3, .string P] W fun e w' => e = .returned (.tuple #[.string S, .int .i64 0]) ∧ Below W.heap.size W w' := fun W => by
        have := refFrame_any 3 P W
        rw [HP.out, ← HB.out, HFV.out] at this
        exact this
      have H2 := Lib.hid hfr
      clear hfr
      go_wp2_with (go_at_call 51; refine (H2.out _).mono ?_)
      rintro e w4 ⟨rfl, hB4⟩
      go_wp2_with fail
      go_ret2
      exact ⟨rfl, BW2.trans ((hBr.mono BW2.size).trans (hB4.mono (by have := hBr.size; have := BW2.size; omega)))⟩
end Go.Proofs.YtffdplmnjlcmnaaDoor
