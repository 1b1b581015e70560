/- Manifests: the reference's numbers. Conditions: each theorem's own hypotheses. -/
import Derived.Test.YtdhnkcfmjibibaaGreatDoorMfG
import Derived.Laws.AppendOwn
import Derived.Test.YtdhnkcfmjibibaaGreatDoorSealB
namespace Go.Proofs.YtdhnkcfmjibibaaGreatDoor
open Go.RowKit Go.Maps
set_option linter.unusedVariables false

theorem addLit (b off j : Nat) : (⟨b, off, none⟩ : Addr).add j = ⟨b, off + j, none⟩ := by
  simp [Addr.add]
theorem Blk.news {w : World} {g : Nat} {t : TypeId} {cs : Array Value} (h : Blk w g t cs) : ∀ j u, cs.toList[j]? = some u → w.cell? ((⟨g, 0, none⟩ : Addr).add j) = some u := by
  intro j u hu
  rw [addLit, h.cell]
  simpa using hu
theorem infoInt : (Tryz.prog.info? 3).map (fun i => (i.zero, i.size, i.bytes)) = some (some (.int .i64 0), 1, 8) := by kernel_rfl
theorem Mf.cells_list (zs : List Nat) : (Mf.cells zs).toList = zs.map fun z : Nat => Value.int .i64 (z : Int) := by simp [Mf.cells]
theorem Mf.cells_one (zs : List Nat) : ∀ u ∈ (Mf.cells zs).toList, u.oneCell' = true := by
  intro u hu
  rw [Mf.cells_list] at hu
  obtain ⟨z, _, rfl⟩ := List.mem_map.1 hu
  rfl
theorem Mf.nums_len' (M : Man) (k : Nat) (hk : k ≤ M.runs.length) : (Mf.nums M k).length = 7 + 4 * k := by
  unfold Mf.nums Mf.heads
  have : ∀ l : List Run, (l.flatMap Mf.row).length = 4 * l.length := fun l => by
    induction l with
    | nil => rfl
    | cons x xs ih => rw [List.flatMap_cons, List.length_append, ih, List.length_cons]; show 4 + _ = _; omega
  rw [List.length_append, this, List.length_take, Nat.min_eq_left hk]
  rfl
theorem Blk.row {w : World} {g : Nat} {zs : List Nat} {n : Nat} (h : Blk w g 3 (Mf.cells zs)) (hn : zs.length = n) (hm : n ≤ 1099511627776) (B : Nat) (hB : B ≤ g) : w.ownsRow B 3 1 (.slice (some ⟨g, 0, none⟩) n n) n (Mf.cells zs).toList := by
  subst hn
  have hl : (Mf.cells zs).toList.length = zs.length := by rw [Mf.cells_list, List.length_map]
  refine ⟨by rw [hl]; omega, Or.inr ⟨g, zs.length, Mf.cells zs, rfl, hB, h, Nat.le_refl _, by unfold maxLen; omega, by rw [← Array.length_toList, hl]; omega, ?_⟩⟩
  exact List.take_of_length_le (by rw [hl]; omega)

theorem World.ownsRow.lower {w : World} {B B' : Nat} {e : TypeId} {size n : Nat} {v : Value} {xs : List Value} (h : w.ownsRow B e size v n xs) (hB : B' ≤ B) : w.ownsRow B' e size v n xs :=
  ⟨h.1, h.2.imp id fun ⟨g, cap, cur, h1, h2, h3⟩ => ⟨g, cap, cur, h1, Nat.le_trans hB h2, h3⟩⟩
def NmRel (M : Man) (A : Option Addr) (cap : Nat) (w : World) (l i : Value) (wr : World) : Prop :=
  ∃ k : Nat, k ≤ M.runs.length ∧ i = .int .i64 k ∧ wr.ownsRow (w.heap.size + 1) 3 1 l (7 + 4 * k) (Mf.cells (Mf.nums M k)).toList ∧ Blk wr w.heap.size 31 (manCells M A cap) ∧ Below w.heap.size w wr

set_option maxRecDepth 100000 in
set_option maxHeartbeats 2000000 in
theorem numbers_any (M : Man) (A : Option Addr) (cap : Nat) (w : World) (HR : Rs w w.heap.size A M.runs) (hG : Mf.Good M) :
    Calls Tryz.prog 64 #[manV M A cap] w fun e w' => ∃ v, e = .returned v ∧ w'.ownsRow w.heap.size 3 1 v (7 + 4 * M.runs.length) (Mf.cells (Mf.nums M M.runs.length)).toList ∧ Below w.heap.size w w' := by
  obtain ⟨i0, hi, hz0, hz1, hz2⟩ := info_parts infoInt
  have HC := Lib.hid (Mf.heads_cells hG)
  have HG := Lib.hid hG
  have hlen : (M.runs.length : Int) ≤ 24 := by have := hG.len; omega
  clear hG
  unfold manV
  go_enter Tryz.func64, Tryz.ntmps64
  have hb0 : Blk (w.alloc (.cells (manCells M A cap) 31)) w.heap.size 31 (manCells M A cap) := Blk.new w _ _
  go_wp2_with fail
  go_loopw [3, 4] (fun l i wr => NmRel M A cap w l i wr) (fun _ i _ => M.runs.length - (intOf i).toNat)
  case atStart =>
    have hk1 : ∀ o : Obj, (w.alloc o).heap.size = w.heap.size + 1 := fun o => by simp
    refine ⟨0, Nat.zero_le _, rfl, ?_, hb0.alloc _, ((Below.refl _ _).alloc (Nat.le_refl _) _).alloc (by simp) _⟩
    refine Blk.row ?_ (Mf.nums_len' M 0 (Nat.zero_le _)) (by omega) _ (Nat.le_refl _)
    rw [show Mf.nums M 0 = Mf.heads M by simp [Mf.nums], HC.out, ← hk1]
    exact Blk.new _ _ _
  case round =>
    obtain ⟨k, hk, rfl, hown, hb, hB⟩ := hrel
    have c6 : wr.cell? ⟨w.heap.size, 6, none⟩ = some (.slice A M.runs.length cap) := hb.cell 6
    have hsz := hB.size
    have hbl := hb.lt
    clear hb0
    by_cases hlt : k < M.runs.length
    · obtain ⟨b, off, r, rfl, hbb, hj, e0, e1, e2, e3⟩ := (HR.below hB).at_ hlt
      have hmem : r ∈ M.runs := List.mem_iff_getElem?.2 ⟨k, hj⟩
      have HRC := Lib.hid (Mf.row_cells HG.out hmem)
      have HNS := Lib.hid (Mf.nums_succ M k r hj)
      have hk2 : ∀ o : Obj, (wr.alloc o).heap.size = wr.heap.size + 1 := fun o => by simp
      have hnb : Blk ((wr.alloc (.cells #[.int .i64 r.num, .int .i64 r.lo, .int .i64 r.hi, .int .i64 r.cnt] 42)).alloc (.cells #[.int .i64 r.num, .int .i64 r.lo, .int .i64 r.hi, .int .i64 r.cnt] 3)) (wr.heap.size + 1) 3 (Mf.cells (Mf.row r)) := by
        rw [HRC.out, ← hk2]; exact Blk.new _ _ _
      have HNB := Lib.hid hnb.news
      have hone := Lib.hid (Mf.cells_one (Mf.row r))
      have hrl : (Mf.cells (Mf.row r)).toList.length = 4 * 1 := by rw [Mf.cells_list, List.length_map]; rfl
      clear hj hmem hnb
      have HRL := Lib.hid hrl
      clear hrl
      go_wp2_with (at_builtin; refine wpList_append_own _ rfl (.tmp 37) (.tmp 46) 90 rfl (w.heap.size + 1) 3 i0 (.int .i64 0) 1 8 Tryz.underlying90 hi hz0 hz1 hz2 rfl (by decide) _ _ _ rfl ((hown.alloc _).alloc _) ⟨wr.heap.size + 1, 0, none⟩ 4 4 _ rfl HRL.out HNB.out hone.out (by unfold maxLen; omega) (by omega) (by simp; omega) ?_; intro v2 w2 hown2 hgrow2 _)
      go_roundw
      case rel =>
        refine ⟨k + 1, by omega, by go_num, ?_, ((hb.alloc _).alloc _).grown hgrow2 (fun e => ?_), ((hB.alloc hsz _).alloc (by simp; omega) _).grown hgrow2 (by simp; omega) (fun j e => by have := (hown.lt j e).1; omega)⟩
        · have hap : (Mf.cells (Mf.nums M (k + 1))).toList = (Mf.cells (Mf.nums M k)).toList ++ (Mf.cells (Mf.row r)).toList := by
            rw [HNS.out, Mf.cells_list, Mf.cells_list, Mf.cells_list, List.map_append]
          rw [hap, show 7 + 4 * (k + 1) = 7 + 4 * k + 4 by omega]
          exact hown2
        · have := (hown.lt _ e.symm).1
          omega
      case measure => simp [intOf]; omega
    · obtain rfl : k = M.runs.length := by omega
      go_wp2_with fail
      go_ret
      exact ⟨_, rfl, World.ownsRow.lower hown (by omega), hB⟩
end Go.Proofs.YtdhnkcfmjibibaaGreatDoor
/- Manifests: the reference's Encode. Conditions: each theorem's own hypotheses. -/
namespace Go.Proofs.YtdhnkcfmjibibaaGreatDoor
open Go.RowKit Go.Maps
set_option linter.unusedVariables false

def EcRel (zs : List Nat) (B : Nat) (w0 : World) (p i : Value) (wr : World) : Prop :=
  ∃ (k : Nat) (P : ByteArray), k ≤ zs.length ∧ i = .int .i64 k ∧ p = .string P ∧ P.data.toList = Mf.enc (zs.take k) ∧ Below B w0 wr

set_option maxRecDepth 100000 in
set_option maxHeartbeats 2000000 in
theorem refEncode_any (M : Man) (A : Option Addr) (cap : Nat) (w : World) (HR : Rs w w.heap.size A M.runs) (hM : Mf.Fit M) (n : Nat) (hn : Mf.check M = n) :
    Calls Tryz.prog 31 #[manV M A cap] w fun e w' => e = .returned (encV M n) ∧ Below w.heap.size w w' := by
  have HN := Lib.hid hn
  clear hn
  by_cases h0 : n = 0
  rotate_left
  · have hE : encV M n = .tuple #[.string ⟨#[]⟩, .int .i64 n] := by unfold encV; rw [if_neg h0]; rfl
    rw [hE]
    have h0' : ((n : Int) != 0) = true := by rw [bne_iff_ne]; omega
    clear hE
    unfold manV
    go_enter Tryz.func31, Tryz.ntmps31
    go_wp2_with fail
    refine (refCheck_any M A cap _ ((HR.below ((Below.refl _ _).alloc (Nat.le_refl _) _)).more (by simp)) hM n HN.out).mono ?_
    rintro e w1 ⟨rfl, hB⟩
    go_wp2_with fail
    go_ret2
    exact ⟨rfl, ((Below.refl _ _).alloc (Nat.le_refl _) _).trans (hB.mono (by simp))⟩
  subst h0
  have hG := Mf.good HN.out
  have hEV : encV M 0 = .tuple #[str (Sl.frame 3 (Mf.body M)), .int .i64 0] := by unfold encV; rw [if_pos rfl]
  obtain ⟨S, hS, _, _⟩ := str_of (Sl.frame 3 (Mf.body M))
  have hfv := Mf.frameV_body hG
  rw [hS] at hfv
  have HFV := Lib.hid hfv
  rw [hEV, hS]
  clear hEV hfv hS
  have HG := Lib.hid hG
  have hlen : M.runs.length ≤ 24 := hG.len
  clear hG
  unfold manV
  go_enter Tryz.func31, Tryz.ntmps31
  go_wp2_with fail
  refine (refCheck_any M A cap _ ((HR.below ((Below.refl _ _).alloc (Nat.le_refl _) _)).more (by simp)) hM 0 HN.out).mono ?_
  rintro e w1 ⟨rfl, hB⟩
  have hb0 : Blk w1 w.heap.size 31 (manCells M A cap) := (hB.block w.heap.size (by simp)).trans (Blk.new w _ _)
  have B1 : Below w.heap.size w w1 := ((Below.refl _ _).alloc (Nat.le_refl _) _).trans (hB.mono (by simp))
  have c0 : w1.cell? ⟨w.heap.size, 0, none⟩ = some (.int .i64 M.w) := hb0.cell 0
  have c1 : w1.cell? ⟨w.heap.size, 1, none⟩ = some (.int .i64 M.c) := hb0.cell 1
  have c2 : w1.cell? ⟨w.heap.size, 2, none⟩ = some (.int .i64 M.m) := hb0.cell 2
  have c3 : w1.cell? ⟨w.heap.size, 3, none⟩ = some (.int .i64 M.seq) := hb0.cell 3
  have c4 : w1.cell? ⟨w.heap.size, 4, none⟩ = some (.int .i64 M.next) := hb0.cell 4
  have c5 : w1.cell? ⟨w.heap.size, 5, none⟩ = some (.int .i64 M.jr) := hb0.cell 5
  have c6 : w1.cell? ⟨w.heap.size, 6, none⟩ = some (.slice A M.runs.length cap) := hb0.cell 6
  go_wp2_with fail
  refine (numbers_any M A cap _ ((HR.below B1).more B1.size) HG.out).mono ?_
  rintro e w2 ⟨v, rfl, hown, hB2⟩
  obtain ⟨g, gc, rfl⟩ : ∃ g gc, v = .slice (some ⟨g, 0, none⟩) (7 + 4 * M.runs.length) gc := by
    rcases hown.2 with ⟨_, h⟩ | ⟨g, gc, _, h, _⟩
    · omega
    · exact ⟨g, gc, h⟩
  have hcell := World.ownsRow.cells hown (g := g) rfl
  have hgl := (World.ownsRow.lt hown g rfl).2
  obtain ⟨zs, hz⟩ : ∃ zs, Mf.nums M M.runs.length = zs := ⟨_, rfl⟩
  have hzl : zs.length = 7 + 4 * M.runs.length := by rw [← hz]; exact Mf.nums_len' M _ (Nat.le_refl _)
  rw [hz] at hcell
  have hle : ∀ z ∈ zs, z ≤ 1152921504606846976 := by
    rw [← hz]
    intro z hm
    unfold Mf.nums at hm
    rcases List.mem_append.1 hm with h | h
    · exact Mf.heads_le HG.out z h
    · obtain ⟨r, hr, hzr⟩ := List.mem_flatMap.1 h
      exact Mf.row_le HG.out (List.mem_of_mem_take hr) z hzr
  have hbody : Mf.body M = Mf.enc zs := by unfold Mf.body; rw [hz]
  have HB := Lib.hid hbody
  have HL := Lib.hid hle
  have HCL := Lib.hid hcell
  have BW2 : Below w.heap.size w w2 := B1.trans (hB2.mono B1.size)
  have hz103 : zs.length ≤ 103 := by omega
  clear hz hle hcell hbody c0 c1 c2 c3 c4 c5 c6 hb0 hown
  rw [← hzl]
  clear hzl
  go_wp2_with fail
  go_loopw [6, 7] (fun p i wr => EcRel zs w2.heap.size w2 p i wr) (fun _ i _ => zs.length - (intOf i).toNat)
  case atStart => exact ⟨0, ⟨#[]⟩, Nat.zero_le _, rfl, rfl, rfl, Below.refl _ _⟩
  case round =>
    obtain ⟨k, P, hk, rfl, rfl, hP, hBr⟩ := hrel
    have HP := Lib.hid hP
    clear hP
    by_cases hlt : k < zs.length
    · obtain ⟨z, hzk⟩ : ∃ z, zs[k]? = some z := ⟨_, List.getElem?_eq_getElem hlt⟩
      have hzl : z ≤ 1152921504606846976 := HL.out z (List.mem_iff_getElem?.2 ⟨k, hzk⟩)
      have e1 : wr.cell? ⟨g, k, none⟩ = some (.int .i64 (z : Int)) := by
        have h := HCL.out k (.int .i64 (z : Int)) (by rw [Mf.cells_list, List.getElem?_map, hzk]; rfl)
        rw [addLit, Nat.zero_add] at h
        exact (hBr.cell (p := ⟨g, k, none⟩) hgl).trans h
      have hes := Mf.enc_succ zs k z hzk
      have hel := Mf.enc_len (zs.take k)
      have htl : (zs.take k).length ≤ k := List.length_take_le _ _
      have hPl : P.size ≤ 10 * k := by have : P.data.toList.length = P.size := Array.length_toList; rw [HP.out] at this; omega
      obtain ⟨Z, hZ, hZd, hZs⟩ := str_of (Sl.putVar z)
      have hZl : Z.size ≤ 10 := by rw [hZs]; exact (Sl.pvf_len 9 z).2
      have hpv : ∀ W, Calls Tryz.prog 65 #[.int .u64 z] W fun e w' => e = .returned (.string Z) ∧ Below W.heap.size W w' := fun W => by rw [← hZ]; exact refPutVar_any z W (by omega)
      have hcat : (P ++ Z).data.toList = Mf.enc (zs.take (k + 1)) := by
        rw [hes, ← HP.out, ← hZd]; simp
      have HPV := Lib.hid hpv
      have HCT := Lib.hid hcat
      have fin := Lib.hid (show k + 1 ≤ zs.length by omega)
      clear hpv hcat hZ hZd hZs hes hel htl hzk
      go_wp2_with (go_at_call 65; refine (HPV.out _).mono ?_)
      rintro e w3 ⟨rfl, hB3⟩
      go_wp2_with fail
      go_roundw
      case rel => exact ⟨k + 1, P ++ Z, fin.out, by go_num, rfl, HCT.out, hBr.trans (hB3.mono hBr.size)⟩
      case measure => simp [intOf]; omega
    · obtain rfl : k = zs.length := by omega
      rw [List.take_length] at HP
      have hfr : ∀ W, Calls Tryz.prog 66 #[.int .i64 3, .string P] W fun e w' => e = .returned (.tuple #[.string S, .int .i64 0]) ∧ Below W.heap.size W w' := fun W => by
        have := refFrame_any 3 P W
        rw [HP.out, ← HB.out, HFV.out] at this
        exact this
      have H2 := Lib.hid hfr
      clear hfr
      go_wp2_with (go_at_call 66; refine (H2.out _).mono ?_)
      rintro e w4 ⟨rfl, hB4⟩
      go_wp2_with fail
      go_ret2
      exact ⟨rfl, BW2.trans ((hBr.mono BW2.size).trans (hB4.mono (by have := hBr.size; have := BW2.size; omega)))⟩
end Go.Proofs.YtdhnkcfmjibibaaGreatDoor
