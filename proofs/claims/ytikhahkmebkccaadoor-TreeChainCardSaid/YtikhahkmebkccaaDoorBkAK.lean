/- Contract of the law's bit. Conditions: each theorem's own hypotheses. -/
import Derived.Test.YtikhahkmebkccaaDoorBkAJ
import Derived.Test.YtikhahkmebkccaaDoorBkAB
import Derived.Test.YtikhahkmebkccaaDoorBkOpenI
namespace Go.Proofs.YtikhahkmebkccaaDoor
open Go.RowKit Go.Maps Go.Sort Go.Shelf
set_option linter.unusedVariables false
set_option linter.unusedSimpArgs false

theorem Bk.u8Info : (Tryd.prog.info? 5).map (fun i => (i.zero, i.size, i.bytes)) = some (some (.int .u8 0), 1, 1) := by kernel_rfl
theorem Bk.bit_cells (w i j : Nat) (hj : j < (Bk.bitC w i).length) : ((madeCells #[.int .u8 0] (w / 8)).setIfInBounds (i / 8) (.int .u8 ((Bk.one8 (i % 8)).toNat : Int)))[j]? = some (.int .u8 ((Bk.bitC w i)[j].toNat : Int)) := by
  have hl : j < w / 8 := by rwa [Bk.bitC_len] at hj
  have hz : (madeCells #[Value.int .u8 0] (w / 8))[j]? = some (.int .u8 0) := by
    rw [← Array.getElem?_toList, toList_madeCells_one, List.getElem?_replicate, if_pos hl]
  have hg : (Bk.bitC w i)[j] = if i / 8 = j then Bk.one8 (i % 8) else 0 := by
    have h1 := List.getElem_set (l := List.replicate (w / 8) (0 : UInt8)) (i := i / 8) (j := j) (a := Bk.one8 (i % 8)) (by simpa using hl)
    rw [List.getElem_replicate] at h1
    exact h1
  rw [hg, Array.getElem?_setIfInBounds]
  by_cases e : i / 8 = j
  · rw [if_pos e, if_pos e, if_pos (by rw [size_madeCells]; omega)]
  · rw [if_neg e, if_neg e, hz]; rfl
theorem Bk.bit_conv (w i : Nat) (X : World) (g : Nat) (h : Blk X g 5 ((madeCells #[.int .u8 0] (w / 8)).setIfInBounds (i / 8) (.int .u8 ((Bk.one8 (i % 8)).toNat : Int)))) :
    (convert 61 9 (.slice (some ⟨g, 0, none⟩) (w / 8) (w / 8))).run Tryd.prog X = .ok (Tx.v (Bk.bitC w i)) X := by
  have := run_convert_bytes_back X 61 9 5 ⟨g, 0, none⟩ (w / 8) (Bk.bitC w i) Tryd.underlying61 Tryd.underlying5 Tryd.underlying9 fun j hj => by
    rw [Bk.addr_add, h.cell]
    exact Bk.bit_cells w i j hj
  rw [Bk.bitC_len] at this
  exact this
set_option maxRecDepth 100000 in
theorem Bk.bit_any {w i : Nat} (hw : w ≤ 1024) (h8 : w % 8 = 0) (hi : i < w) (W : World) : Calls Tryd.prog 9 #[.int .i64 w, .int .i64 i] W fun e W' => e = .returned (Tx.v (Bk.bitC w i)) ∧ Below W.heap.size W W' := by
  have hB : ∀ z : Int, Below W.heap.size W (W.alloc (.cells ((madeCells #[.int .u8 0] (w / 8)).setIfInBounds (i / 8) (.int .u8 z)) 5)) := fun z => (Below.refl W.heap.size W).alloc (Nat.le_refl _) _
  have B := Blk.new W 5 (madeCells #[.int .u8 0] (w / 8))
  have hcv : ∀ z : Int, z = ((Bk.one8 (i % 8)).toNat : Int) → (convert 61 9 (.slice (some ⟨W.heap.size, 0, none⟩) (w / 8) (w / 8))).run Tryd.prog (W.alloc (.cells ((madeCells #[.int .u8 0] (w / 8)).setIfInBounds (i / 8) (.int .u8 z)) 5)) = .ok (Tx.v (Bk.bitC w i)) (W.alloc (.cells ((madeCells #[.int .u8 0] (w / 8)).setIfInBounds (i / 8) (.int .u8 z)) 5)) := fun z hz => by
    subst hz
    exact Bk.bit_conv w i _ _ (Blk.new W 5 _)
  have hc0 : (W.alloc (.cells (madeCells #[.int .u8 0] (w / 8)) 5)).cell? ⟨W.heap.size, i / 8, none⟩ = some (.int .u8 0) := by
    rw [B.cell, ← Array.getElem?_toList, toList_madeCells_one, List.getElem?_replicate, if_pos (by omega)]
  have hf0 := B.frozen (i / 8)
  obtain ⟨bv, hbv⟩ : ∃ bv, Tx.v (Bk.bitC w i) = bv := ⟨_, rfl⟩
  rw [hbv] at hcv ⊢
  have hm : i % 8 = 0 ∨ i % 8 = 1 ∨ i % 8 = 2 ∨ i % 8 = 3 ∨ i % 8 = 4 ∨ i % 8 = 5 ∨ i % 8 = 6 ∨ i % 8 = 7 := by omega
  have e3 : Int.tmod (i : Int) 8 = ((i % 8 : Nat) : Int) := rfl
  have hcv0 := fun (h : i % 8 = 0) => hcv 128 (by rw [h]; decide)
  have hcv1 := fun (h : i % 8 = 1) => hcv 64 (by rw [h]; decide)
  have hcv2 := fun (h : i % 8 = 2) => hcv 32 (by rw [h]; decide)
  have hcv3 := fun (h : i % 8 = 3) => hcv 16 (by rw [h]; decide)
  have hcv4 := fun (h : i % 8 = 4) => hcv 8 (by rw [h]; decide)
  have hcv5 := fun (h : i % 8 = 5) => hcv 4 (by rw [h]; decide)
  have hcv6 := fun (h : i % 8 = 6) => hcv 2 (by rw [h]; decide)
  have hcv7 := fun (h : i % 8 = 7) => hcv 1 (by rw [h]; decide)
  obtain ⟨w8, hw8⟩ : ∃ w8, w / 8 = w8 := ⟨_, rfl⟩
  obtain ⟨i8, hi8⟩ : ∃ i8, i / 8 = i8 := ⟨_, rfl⟩
  have e1 : Int.tdiv (w : Int) 8 = (w8 : Int) := by rw [← hw8]; rfl
  have e2 : Int.tdiv (i : Int) 8 = (i8 : Int) := by rw [← hi8]; rfl
  have hlt : i8 < w8 := by omega
  have hw9 : w8 ≤ 128 := by omega
  have hmk := fun W => run_make_row' (P := Tryd.prog) 61 5 (.int .u8 0) 1 Tryd.underlying61 Bk.u8Info rfl .i64 .i64 w8 (by omega) (by omega) W
  rw [hw8, hi8] at hcv0 hcv1 hcv2 hcv3 hcv4 hcv5 hcv6 hcv7 hB hc0
  rw [hw8, hi8] at hf0
  clear hcv B hw8 hi8
  have HB := Lib.hid hB
  clear hB
  rcases hm with h | h | h | h | h | h | h | h
  · rw [h] at e3
    have hk := hcv0 h
    clear hcv0 hcv1 hcv2 hcv3 hcv4 hcv5 hcv6 hcv7
    have e4 : Int.tmod (i : Int) 8 = 0 := e3
    clear e3 h
    go_enter Tryd.func9, Tryd.ntmps9
    go_wp2_with fail
    go_ret
    exact ⟨rfl, HB.out _⟩
  · rw [h] at e3
    have hk := hcv1 h
    clear hcv0 hcv1 hcv2 hcv3 hcv4 hcv5 hcv6 hcv7
    have e4 : Int.tmod (i : Int) 8 = 1 := e3
    clear e3 h
    go_enter Tryd.func9, Tryd.ntmps9
    go_wp2_with fail
    go_ret
    exact ⟨rfl, HB.out _⟩
  · rw [h] at e3
    have hk := hcv2 h
    clear hcv0 hcv1 hcv2 hcv3 hcv4 hcv5 hcv6 hcv7
    have e4 : Int.tmod (i : Int) 8 = 2 := e3
    clear e3 h
    go_enter Tryd.func9, Tryd.ntmps9
    go_wp2_with fail
    go_ret
    exact ⟨rfl, HB.out _⟩
  · rw [h] at e3
    have hk := hcv3 h
    clear hcv0 hcv1 hcv2 hcv3 hcv4 hcv5 hcv6 hcv7
    have e4 : Int.tmod (i : Int) 8 = 3 := e3
    clear e3 h
    go_enter Tryd.func9, Tryd.ntmps9
    go_wp2_with fail
    go_ret
    exact ⟨rfl, HB.out _⟩
  · rw [h] at e3
    have hk := hcv4 h
    clear hcv0 hcv1 hcv2 hcv3 hcv4 hcv5 hcv6 hcv7
    have e4 : Int.tmod (i : Int) 8 = 4 := e3
    clear e3 h
    go_enter Tryd.func9, Tryd.ntmps9
    go_wp2_with fail
    go_ret
    exact ⟨rfl, HB.out _⟩
  · rw [h] at e3
    have hk := hcv5 h
    clear hcv0 hcv1 hcv2 hcv3 hcv4 hcv5 hcv6 hcv7
    have e4 : Int.tmod (i : Int) 8 = 5 := e3
    clear e3 h
    go_enter Tryd.func9, Tryd.ntmps9
    go_wp2_with fail
    go_ret
    exact ⟨rfl, HB.out _⟩
  · rw [h] at e3
    have hk := hcv6 h
    clear hcv0 hcv1 hcv2 hcv3 hcv4 hcv5 hcv6 hcv7
    have e4 : Int.tmod (i : Int) 8 = 6 := e3
    clear e3 h
    go_enter Tryd.func9, Tryd.ntmps9
    go_wp2_with fail
    go_ret
    exact ⟨rfl, HB.out _⟩
  · rw [h] at e3
    have hk := hcv7 h
    clear hcv0 hcv1 hcv2 hcv3 hcv4 hcv5 hcv6 hcv7
    have e4 : Int.tmod (i : Int) 8 = 7 := e3
    clear e3 h
    go_enter Tryd.func9, Tryd.ntmps9
    go_wp2_with fail
    go_ret
    exact ⟨rfl, HB.out _⟩
end Go.Proofs.YtikhahkmebkccaaDoor
