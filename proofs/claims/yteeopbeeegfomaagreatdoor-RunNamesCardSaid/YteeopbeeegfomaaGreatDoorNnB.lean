/- Runs: contract of run.tables: how many bits the values have in each table. Conditions: each theorem's own hypotheses. -/
import Derived.Test.YteeopbeeegfomaaGreatDoorNnA
import Derived.Deep.OwnRows
namespace Go.Proofs.YteeopbeeegfomaaGreatDoor
open Go.RowKit
set_option linter.unusedVariables false

theorem infoInt' : (Tryz.prog.info? 3).map (fun i => (i.zero, i.size, i.bytes)) = some (some (.int .i64 0), 1, 8) := by kernel_rfl
/-- How many bits the values have in table j. -/
def Rn.bits (w c m : Int) (j : Nat) : Nat := if m = 2 then 1 else Bt.bits w.toNat c.toNat j

theorem Bt.cells_at (w m : Nat) : ∀ (k j : Nat), j < k → (Bt.cells (Bt.upto w m k))[j * 2]? = some (.int .i64 (Bt.from_ w m j : Nat)) ∧ (Bt.cells (Bt.upto w m k))[j * 2 + 1]? = some (.int .i64 (Bt.bits w m j : Nat))
  | 0, j, h => by omega
  | k + 1, j, h => by
    have hl : (Bt.cells (Bt.upto w m k)).length = k * 2 := by
      clear h j
      induction k with
      | zero => rfl
      | succ k ih => rw [Bt.upto_succ, Bt.cells_snoc, List.length_append, ih]; simp; omega
    rw [Bt.upto_succ, Bt.cells_snoc]
    by_cases e : j = k
    · subst e
      rw [List.getElem?_append_right (by omega), List.getElem?_append_right (by omega), hl]
      simp [Bt.ck]
    · have ih := Bt.cells_at w m k j (by omega)
      rw [List.getElem?_append_left (by omega), List.getElem?_append_left (by omega)]
      exact ih

set_option maxRecDepth 100000 in
set_option maxHeartbeats 2000000 in
theorem tables_any (w c m : Int) (ho : Rn.opts w c m = 0) (W : World) :
    Calls Tryz.prog 9 #[.agg #[.int .i64 w, .int .i64 c, .int .i64 m]] W fun e W' => (∃ g cap, e = .returned (.slice (some ⟨g, 0, none⟩) (Rn.tabs c m) cap) ∧ W.heap.size ≤ g ∧ W'.rowIs g 3 (Rn.tabs c m) (fun j => .int .i64 (Rn.bits w c m j : Nat))) ∧ Below W.heap.size W W' := by
  have B0 : Below W.heap.size W (W.alloc (.cells #[.int .i64 w, .int .i64 c, .int .i64 m] 25)) := (Below.refl _ _).alloc (Nat.le_refl _) _
  unfold Rn.opts at ho
  by_cases hm : m = 2
  · subst hm
    have ht : Rn.tabs c 2 = 1 := by unfold Rn.tabs; rw [if_pos rfl]
    rw [ht]
    have hR := World.rowIs_alloc (W.alloc (.cells #[.int .i64 w, .int .i64 c, .int .i64 2] 25)) #[.int .i64 1] 3 (fun j => .int .i64 (Rn.bits w c 2 j : Nat)) (fun i hi => by
      obtain rfl : i = 0 := by simpa using hi
      rfl)
    have HR := Lib.hid hR
    clear ho ht hR
    go_enter Tryz.func9, Tryz.ntmps9
    go_wp2_with fail
    go_ret
    refine ⟨⟨_, _, rfl, ?_, ?_⟩, ?_⟩
    · simp
    · have := HR.out; simp only [World.size_alloc] at this; exact this
    · exact B0.alloc B0.size _
  · have h5 : Bt.err w c = 0 ∧ m = 1 := by
      split at ho
      · cases ho
      · split at ho
        · cases ho
        · split at ho
          · cases ho
          · split at ho
            · cases ho
            · unfold Bt.err Bt.wide
              rw [if_neg (by simp; omega), if_neg (by omega)]
              exact ⟨rfl, by omega⟩
    obtain ⟨he, rfl⟩ := h5
    clear ho hm
    obtain ⟨q1, q2, _, q4, q5⟩ := Bt.err_in he
    obtain ⟨wn, rfl⟩ : ∃ wn : Nat, w = wn := ⟨w.toNat, by omega⟩
    obtain ⟨cn, rfl⟩ : ∃ cn : Nat, c = cn := ⟨c.toNat, by omega⟩
    have ht : Rn.tabs (cn : Int) 1 = cn := by unfold Rn.tabs; rw [if_neg (by decide)]; simp
    have hb : ∀ j, Rn.bits (wn : Int) (cn : Int) 1 j = Bt.bits wn cn j := fun j => by unfold Rn.bits; rw [if_neg (by decide)]; simp
    rw [ht]
    have HB := Lib.hid hb
    have HE := Lib.hid he
    have hcn : cn ≤ 128 := by omega
    have hcn1 : 1 ≤ cn := by omega
    have hmk := fun W => run_make_row' (P := Tryz.prog) 35 3 (.int .i64 0) 8 Tryz.underlying35 infoInt' rfl .i64 .i64 cn (by omega) (by omega) W
    clear ht hb he q4 q5
    go_enter Tryz.func9, Tryz.ntmps9
    go_wp2_with fail
    refine (Chunks_any wn cn _ (by omega) (by omega) HE.out).mono ?_
    rintro e W1 ⟨⟨g, cap, rfl, hrow⟩, hB⟩
    have B1 := rn_below hB B0
    have hg : g < W1.heap.size := (hrow.lt g rfl).2
    have hcell : ∀ j, j < cn → W1.cell? ⟨g, j * 2, none⟩ = some (.int .i64 (Bt.from_ wn cn j : Nat)) ∧ W1.cell? ⟨g, j * 2 + 1, none⟩ = some (.int .i64 (Bt.bits wn cn j : Nat)) := fun j hj => by
      obtain ⟨e1, e2⟩ := Bt.cells_at wn cn cn j hj
      have hl := hrow.1
      exact ⟨(hrow.cellAt _ (by omega)).trans e1, (hrow.cellAt _ (by omega)).trans e2⟩
    have HC := Lib.hid hcell
    clear hB B0 hrow hcell
    go_wp2_with fail
    have B2 : Below W.heap.size W (W1.alloc (.cells (madeCells #[.int .i64 0] cn) 3)) := B1.alloc B1.size _
    have R2 := World.rowIs_made W1 (.int .i64 0) cn 3
    have hz1 : W1.heap.size < (W1.alloc (.cells (madeCells #[.int .i64 0] cn) 3)).heap.size := by simp
    have hC2 : ∀ j, j < cn → (W1.alloc (.cells (madeCells #[.int .i64 0] cn) 3)).cell? ⟨g, j * 2, none⟩ = some (.int .i64 (Bt.from_ wn cn j : Nat)) ∧ (W1.alloc (.cells (madeCells #[.int .i64 0] cn) 3)).cell? ⟨g, j * 2 + 1, none⟩ = some (.int .i64 (Bt.bits wn cn j : Nat)) := fun j hj => by
      obtain ⟨e1, e2⟩ := HC.out j hj
      have hk := (Below.refl W1.heap.size W1).alloc (Nat.le_refl _) (.cells (madeCells #[.int .i64 0] cn) 3)
      exact ⟨(hk.cell (p := ⟨g, _, none⟩) hg).trans e1, (hk.cell (p := ⟨g, _, none⟩) hg).trans e2⟩
    obtain ⟨W2, hW2⟩ : ∃ W2, W1.alloc (.cells (madeCells #[.int .i64 0] cn) 3) = W2 := ⟨_, rfl⟩
    rw [hW2] at B2 R2 hz1 hC2 ⊢
    have HC2 := Lib.hid hC2
    clear hW2 hC2 hmk
    go_loopw [25] (fun i wr => ∃ k : Nat, k ≤ cn ∧ i = .int .i64 k ∧ wr.rowIs W1.heap.size 3 cn (fun j => .int .i64 ((if j < k then Bt.bits wn cn j else 0 : Nat) : Int)) ∧ Below W.heap.size W wr ∧ (∀ b, b < W1.heap.size → wr.heap[b]? = W2.heap[b]?) ∧ W2.heap.size ≤ wr.heap.size) (fun i _ => cn - (intOf i).toNat)
    case atStart => exact ⟨0, Nat.zero_le _, rfl, R2.congr (fun i hi => by simp), B2, fun _ _ => rfl, Nat.le_refl _⟩
    case round =>
      obtain ⟨k, hk, rfl, hR, hB, hold, hsz⟩ := hrel
      by_cases hlt : k < cn
      · obtain ⟨e1, e2⟩ := HC2.out k hlt
        have c1 : wr.cell? ⟨g, k * 2, none⟩ = some (.int .i64 (Bt.from_ wn cn k : Nat)) := (World.cell?_of_block (w := W2) (a := ⟨g, k * 2, none⟩) (hold g hg)).trans e1
        have c2 : wr.cell? ⟨g, k * 2 + 1, none⟩ = some (.int .i64 (Bt.bits wn cn k : Nat)) := (World.cell?_of_block (w := W2) (a := ⟨g, k * 2 + 1, none⟩) (hold g hg)).trans e2
        obtain ⟨z3, c3⟩ : ∃ z : Int, ∀ o, (wr.alloc o).cell? ⟨W1.heap.size, k, none⟩ = some (.int .i64 z) := ⟨_, fun o => (hR.alloc o).cell hlt⟩
        have c4 : ∀ o, (wr.alloc o).frozen? ⟨W1.heap.size, k, none⟩ = false := fun o => (hR.alloc o).frozen k
        obtain ⟨bk, hbk⟩ : ∃ bk, Bt.bits wn cn k = bk := ⟨_, rfl⟩
        obtain ⟨fk, hfk⟩ : ∃ fk, Bt.from_ wn cn k = fk := ⟨_, rfl⟩
        rw [hbk] at c2
        rw [hfk] at c1
        have HBK := Lib.hid hbk
        have HO := Lib.hid hold
        have HRR := Lib.hid hR
        clear hbk hfk e1 e2 hold hR
        go_wp2_with fail
        go_roundw
        case rel =>
          refine ⟨k + 1, by omega, by go_num, ?_, ?_, ?_, ?_⟩
          · refine ((HRR.out.alloc _).set k _).congr fun i hi => ?_
            by_cases e : i = k
            · subst e; rw [if_pos rfl, if_pos (by omega), HBK.out]
            · rw [if_neg e]
              by_cases e2 : i < k
              · rw [if_pos e2, if_pos (by omega)]
              · rw [if_neg e2, if_neg (by omega)]
          · exact (hB.alloc hB.size _).setCell (p := ⟨W1.heap.size, k, none⟩) B1.size _
          · intro b hb
            rw [Below.heap_setCell _ _ _ b (by show b ≠ W1.heap.size; omega), Below.heap_alloc _ _ _ (by omega)]
            exact HO.out b hb
          · simp; omega
        case measure => simp [intOf]; omega
      · obtain rfl : k = cn := by omega
        have HRR := Lib.hid hR
        clear hR hold
        go_wp2_with fail
        go_ret
        refine ⟨⟨_, _, rfl, B1.size, HRR.out.congr fun i hi => ?_⟩, hB⟩
        rw [if_pos hi, HB.out]
end Go.Proofs.YteeopbeeegfomaaGreatDoor
