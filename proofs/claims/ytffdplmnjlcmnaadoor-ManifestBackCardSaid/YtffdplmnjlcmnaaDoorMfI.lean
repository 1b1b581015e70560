/- Manifests: the reference's numbers. Conditions: each theorem's own hypotheses. -/
import Derived.Test.YtffdplmnjlcmnaaDoorMfG
import Derived.Laws.AppendOwn
namespace Go.Proofs.YtffdplmnjlcmnaaDoor
open Go.RowKit Go.Maps
set_option linter.unusedVariables false

theorem addLit (b off j : Nat) : (⟨b, off, none⟩ : Addr).add j = ⟨b, off + j, none⟩ := by
  simp [Addr.add]
theorem Blk.news {w : World} {g : Nat} {t : TypeId} {cs : Array Value} (h : Blk w g t cs) : ∀ j u, cs.toList[j]? = some u → w.cell? ((⟨g, 0, none⟩ : Addr).add j) = some u := by
  intro j u hu
  rw [addLit, h.cell]
  simpa using hu
theorem infoInt : (Tryd.prog.info? 3).map (fun i => (i.zero, i.size, i.bytes)) = some (some (.int .i64 0), 1, 8) := by kernel_rfl
theorem Mf.cells_list (zs : List Nat) : (Mf.cells zs).toList = zs.map fun z : Nat => Value.int .i64 (z : Int) := by simp [Mf.cells]
theorem Mf.cells_one (zs : List Nat) : ∀ u ∈ (Mf.cells zs).toList, u.oneCell' = true := by
  intro u hu
  rw [Mf.cells_list] at hu
  obtain ⟨z, _, rfl⟩ := List.mem_map.1 hu
  rfl
theorem Mf.nums_len' (M : Man) (k : Nat) (hk : k ≤ M.runs.length) : (Mf.nums M k).length = 7 + 4 * k := by
  unfold Mf.nums Mf.heads
  have : ∀ l : List Run, (l.flatMap Mf.row).length = 4 * l.length := fun l => by
    induction l with
    | nil => rfl
    | cons x xs ih => rw [List.flatMap_cons, List.length_append, ih, List.length_cons]; show 4 + _ = _; omega
  rw [List.length_append, this, List.length_take, Nat.min_eq_left hk]
  rfl
theorem Blk.row {w : World} {g : Nat} {zs : List Nat} {n : Nat} (h : Blk w g 3 (Mf.cells zs)) (hn : zs.length = n) (hm : n ≤ 1099511627776) (B : Nat) (hB : B ≤ g) : w.ownsRow B 3 1 (.slice (some ⟨g, 0, none⟩) n n) n (Mf.cells zs).toList := by
  subst hn
  have hl : (Mf.cells zs).toList.length = zs.length := by rw [Mf.cells_list, List.length_map]
  refine ⟨by rw [hl]; omega, Or.inr ⟨g, zs.length, Mf.cells zs, rfl, hB, h, Nat.le_refl _, by unfold maxLen; omega, by rw [← Array.length_toList, hl]; omega, ?_⟩⟩
  exact List.take_of_length_le (by rw [hl]; omega)

theorem World.ownsRow.lower {w : World} {B B' : Nat} {e : TypeId} {size n : Nat} {v : Value} {xs : List Value} (h : w.ownsRow B e size v n xs) (hB : B' ≤ B) : w.ownsRow B' e size v n xs :=
  ⟨h.1, h.2.imp id fun ⟨g, cap, cur, h1, h2, h3⟩ => ⟨g, cap, cur, h1, Nat.le_trans hB h2, h3⟩⟩
def NmRel (M : Man) (A : Option Addr) (cap : Nat) (w : World) (l i : Value) (wr : World) : Prop :=
  ∃ k : Nat, k ≤ M.runs.length ∧ i = .int .i64 k ∧ wr.ownsRow (w.heap.size + 1) 3 1 l (7 + 4 * k) (Mf.cells (Mf.nums M k)).toList ∧ Blk wr w.heap.size 26 (manCells M A cap) ∧ Below w.heap.size w wr

set_option maxRecDepth 100000 in
set_option maxHeartbeats 2000000 in
theorem numbers_any (M : Man) (A : Option Addr) (cap : Nat) (w : World) (HR : Rs w w.heap.size A M.runs) (hG : Mf.Good M) :
    Calls Tryd.prog 49 #[manV M A cap] w fun e w' => ∃ v, e = .returned v ∧ w'.ownsRow w.heap.size 3 1 v (7 + 4 * M.runs.length) (Mf.cells (Mf.nums M M.runs.length)).toList ∧ Below w.heap.size w w' := by
  obtain ⟨i0, hi, hz0, hz1, hz2⟩ := info_parts infoInt
  have HC := Lib.hid (Mf.heads_cells hG)
  have HG := Lib.hid hG
  have hlen : (M.runs.length : Int) ≤ 24 := by have := hG.len; omega
  clear hG
  unfold manV
  go_enter Tryd.func49, Tryd.ntmps49
  have hb0 : Blk (w.alloc (.cells (manCells M A cap) 26)) w.heap.size 26 (manCells M A cap) := Blk.new w _ _
  go_wp2_with fail
  go_loopw [3, 4] (fun l i wr => NmRel M A cap w l i wr) (fun _ i _ => M.runs.length - (intOf i).toNat)
  case atStart =>
    have hk1 : ∀ o : Obj, (w.alloc o).heap.size = w.heap.size + 1 := fun o => by simp
    refine ⟨0, Nat.zero_le _, rfl, ?_, hb0.alloc _, ((Below.refl _ _).alloc (Nat.le_refl _) _).alloc (by simp) _⟩
    refine Blk.row ?_ (Mf.nums_len' M 0 (Nat.zero_le _)) (by omega) _ (Nat.le_refl _)
    rw [show Mf.nums M 0 = Mf.heads M by simp [Mf.nums], HC.out, ← hk1]
    exact Blk.new _ _ _
  case round =>
    obtain ⟨k, hk, rfl, hown, hb, hB⟩ := hrel
    have c6 : wr.cell? ⟨w.heap.size, 6, none⟩ = some (.slice A M.runs.length cap) := hb.cell 6
    have hsz := hB.size
    have hbl := hb.lt
    clear hb0
    by_cases hlt : k < M.runs.length
    · obtain ⟨b, off, r, rfl, hbb, hj, e0, e1, e2, e3⟩ := (HR.below hB).at_ hlt
      have hmem : r ∈ M.runs := List.mem_iff_getElem?.2 ⟨k, hj⟩
      have HRC := Lib.hid (Mf.row_cells HG.out hmem)
      have HNS := Lib.hid (Mf.nums_succ M k r hj)
      have hk2 : ∀ o : Obj, (wr.alloc o).heap.size = wr.heap.size + 1 := fun o => by simp
      have hnb : Blk ((wr.alloc (.cells #[.int .i64 r.num, .int .i64 r.lo, .int .i64 r.hi, .int .i64 r.cnt] 38)).alloc (.cells #[.int .i64 r.num, .int .i64 r.lo, .int .i64 r.hi, .int .i64 r.cnt] 3)) (wr.heap.size + 1) 3 (Mf.cells (Mf.row r)) := by
        rw [HRC.out, ← hk2]; exact Blk.new _ _ _
      have HNB := Lib.hid hnb.news
      have hone := Lib.hid (Mf.cells_one (Mf.row r))
      have hrl : (Mf.cells (Mf.row r)).toList.length = 4 * 1 := by rw [Mf.cells_list, List.length_map]; rfl
      clear hj hmem hnb
      have HRL := Lib.hid hrl
      clear hrl
      go_wp2_with (at_builtin; refine wpList_append_own _ rfl (.tmp 37) (.tmp 46) 74 rfl (w.heap.size + 1) 3 i0 (.int .i64 0) 1 8 Tryd.underlying74 hi hz0 hz1 hz2 rfl (by decide) _ _ _ rfl ((hown.alloc _).alloc _) ⟨wr.heap.size + 1, 0, none⟩ 4 4 _ rfl HRL.out HNB.out hone.out (by unfold maxLen; omega) (by omega) (by simp; omega) ?_; intro v2 w2 hown2 hgrow2 _)
      go_roundw
      case rel =>
        refine ⟨k + 1, by omega, by go_num, ?_, ((hb.alloc _).alloc _).grown hgrow2 (fun e => ?_), ((hB.alloc hsz _).alloc (by simp; omega) _).grown hgrow2 (by simp; omega) (fun j e => by have := (hown.lt j e).1; omega)⟩
        · have hap : (Mf.cells (Mf.nums M (k + 1))).toList = (Mf.cells (Mf.nums M k)).toList ++ (Mf.cells (Mf.row r)).toList := by
            rw [HNS.out, Mf.cells_list, Mf.cells_list, Mf.cells_list, List.map_append]
          rw [hap, show 7 + 4 * (k + 1) = 7 + 4 * k + 4 by omega]
          exact hown2
        · have := (hown.lt _ e.symm).1
          omega
      case measure => simp [intOf]; omega
    · obtain rfl : k = M.runs.length := by omega
      go_wp2_with fail
      go_ret
      exact ⟨_, rfl, World.ownsRow.lower hown (by omega), hB⟩
end Go.Proofs.YtffdplmnjlcmnaaDoor
