/- The walk of the law JournalBack, its first part: helpers. Conditions: each theorem's own hypotheses. -/
import Derived.Test.YtffdplmnjlcmnaaDoorJnG
import Derived.Test.YtffdplmnjlcmnaaDoorJnQ
import Derived.Test.YtffdplmnjlcmnaaDoorJnL
import Derived.Deep.DeepCutAuto
import Derived.Deep.QuietTactic
import Derived.BigQuiet
namespace Go.Proofs.YtffdplmnjlcmnaaDoor
open Go.RowKit
set_option linter.unusedVariables false

theorem goes_tell (q k i sq : Int) (K I : Nat) (c D : ByteArray) (w : World) (hK : (K : Int) = 1 + k % 2) (hI : (I : Int) = i % 281474976710657) (hc : c.size ≤ 4611686018427387904)
    (hD : str (if K = 1 then (c.data.toList ++ [0, 0, 0, 0, 0, 0, 0, 0]).take 8 else []) = .string D) :
    Calls Tryd.prog 22 #[.agg #[.int .i64 q, .int .i64 k, .int .i64 i, .string c], .int .i64 sq] w fun e w' => e = .returned (.agg #[.int .i64 sq, .int .i64 K, .int .i64 I, .string D]) ∧ Below w.heap.size w w' := by
  rw [hI]
  by_cases h : k % 2 = 0
  · obtain rfl : K = 1 := by omega
    rw [if_pos rfl] at hD
    exact goes_put q k i sq c D w h hc hD
  · obtain rfl : K = 2 := by omega
    rw [if_neg (by decide)] at hD
    rw [← hD]
    exact goes_dead q k i sq c w (by omega)

/-- A world in which the block holds an update's cells, and nothing below it has turned. -/
theorem quad_alloc {b : Nat} {q k i : Int} {c : ByteArray} {w0 w : World} (o : Obj) (h : w.cell? ⟨b, 0, none⟩ = some (.int .i64 q) ∧ w.cell? ⟨b, 1, none⟩ = some (.int .i64 k) ∧ w.cell? ⟨b, 2, none⟩ = some (.int .i64 i) ∧ w.cell? ⟨b, 3, none⟩ = some (.string c) ∧ Below b w0 w) :
    (w.alloc o).cell? ⟨b, 0, none⟩ = some (.int .i64 q) ∧ (w.alloc o).cell? ⟨b, 1, none⟩ = some (.int .i64 k) ∧ (w.alloc o).cell? ⟨b, 2, none⟩ = some (.int .i64 i) ∧ (w.alloc o).cell? ⟨b, 3, none⟩ = some (.string c) ∧ Below b w0 (w.alloc o) := by
  obtain ⟨h0, h1, h2, h3, hB⟩ := h
  have hb : b < w.heap.size := World.block_lt_of_cell? w _ h0
  refine ⟨?_, ?_, ?_, ?_, hB.alloc (by omega) _⟩
  · rw [World.cell?_alloc_some _ _ _ (by rw [h0]; rfl)]; exact h0
  · rw [World.cell?_alloc_some _ _ _ (by rw [h1]; rfl)]; exact h1
  · rw [World.cell?_alloc_some _ _ _ (by rw [h2]; rfl)]; exact h2
  · rw [World.cell?_alloc_some _ _ _ (by rw [h3]; rfl)]; exact h3
theorem quad_set {b : Nat} {q k i : Int} {c : ByteArray} {w0 w : World} (p : Addr) (v : Value) (hp : b < p.block) (h : w.cell? ⟨b, 0, none⟩ = some (.int .i64 q) ∧ w.cell? ⟨b, 1, none⟩ = some (.int .i64 k) ∧ w.cell? ⟨b, 2, none⟩ = some (.int .i64 i) ∧ w.cell? ⟨b, 3, none⟩ = some (.string c) ∧ Below b w0 w) :
    (w.setCell p v).cell? ⟨b, 0, none⟩ = some (.int .i64 q) ∧ (w.setCell p v).cell? ⟨b, 1, none⟩ = some (.int .i64 k) ∧ (w.setCell p v).cell? ⟨b, 2, none⟩ = some (.int .i64 i) ∧ (w.setCell p v).cell? ⟨b, 3, none⟩ = some (.string c) ∧ Below b w0 (w.setCell p v) := by
  obtain ⟨h0, h1, h2, h3, hB⟩ := h
  have hp' : p.block ≠ b := by omega
  refine ⟨?_, ?_, ?_, ?_, hB.setCell (by omega) _⟩
  · rw [World.cell?_setCell_far _ _ _ _ hp']; exact h0
  · rw [World.cell?_setCell_far _ _ _ _ hp']; exact h1
  · rw [World.cell?_setCell_far _ _ _ _ hp']; exact h2
  · rw [World.cell?_setCell_far _ _ _ _ hp']; exact h3
theorem quad_drew {b : Nat} {q k i : Int} {c : ByteArray} {w0 w : World} (o : Obj) (h : w.drew.cell? ⟨b, 0, none⟩ = some (.int .i64 q) ∧ w.drew.cell? ⟨b, 1, none⟩ = some (.int .i64 k) ∧ w.drew.cell? ⟨b, 2, none⟩ = some (.int .i64 i) ∧ w.drew.cell? ⟨b, 3, none⟩ = some (.string c) ∧ Below b w0 w.drew) :
    (w.alloc o).drew.cell? ⟨b, 0, none⟩ = some (.int .i64 q) ∧ (w.alloc o).drew.cell? ⟨b, 1, none⟩ = some (.int .i64 k) ∧ (w.alloc o).drew.cell? ⟨b, 2, none⟩ = some (.int .i64 i) ∧ (w.alloc o).drew.cell? ⟨b, 3, none⟩ = some (.string c) ∧ Below b w0 (w.alloc o).drew := by
  have e : (w.alloc o).drew = w.drew.alloc o := rfl
  rw [e]; exact quad_alloc o h
theorem goes_held (q k i sq : Int) (K I : Nat) (c D : ByteArray) (b : Nat) (w0 w : World) (hK : (K : Int) = 1 + k % 2) (hI : (I : Int) = i % 281474976710657) (hc : c.size ≤ 4611686018427387904)
    (hD : str (if K = 1 then (c.data.toList ++ [0, 0, 0, 0, 0, 0, 0, 0]).take 8 else []) = .string D)
    (hS : w.cell? ⟨b, 0, none⟩ = some (.int .i64 q) ∧ w.cell? ⟨b, 1, none⟩ = some (.int .i64 k) ∧ w.cell? ⟨b, 2, none⟩ = some (.int .i64 i) ∧ w.cell? ⟨b, 3, none⟩ = some (.string c) ∧ Below b w0 w) :
    Calls Tryd.prog 22 #[.agg #[.int .i64 q, .int .i64 k, .int .i64 i, .string c], .int .i64 sq] w fun e w' => e = .returned (.agg #[.int .i64 sq, .int .i64 K, .int .i64 I, .string D]) ∧
      (w'.cell? ⟨b, 0, none⟩ = some (.int .i64 q) ∧ w'.cell? ⟨b, 1, none⟩ = some (.int .i64 k) ∧ w'.cell? ⟨b, 2, none⟩ = some (.int .i64 i) ∧ w'.cell? ⟨b, 3, none⟩ = some (.string c) ∧ Below b w0 w') ∧ Below w.heap.size w w' := by
  obtain ⟨h0, h1, h2, h3, hB⟩ := hS
  have hb : b < w.heap.size := World.block_lt_of_cell? w _ h0
  exact (goes_tell q k i sq K I c D w hK hI hc hD).mono fun e w' ⟨he, h⟩ => ⟨he, ⟨cells_kept h hb h0, cells_kept h hb h1, cells_kept h hb h2, cells_kept h hb h3, hB.trans (h.mono (by omega))⟩, h⟩

theorem bcell {W w1 : World} (hb : Below W.heap.size W w1) : (∀ b o, b < W.heap.size → w1.cell? ⟨b, o, none⟩ = W.cell? ⟨b, o, none⟩) ∧ (∀ b o, b < W.heap.size → w1.frozen? ⟨b, o, none⟩ = W.frozen? ⟨b, o, none⟩) :=
  ⟨fun b o h => hb.cell (p := ⟨b, o, none⟩) h, fun b o h => hb.frozen (p := ⟨b, o, none⟩) h⟩

/-- A block that was made just ahead of a call stands behind it. -/
theorem fresh_kept {X x1 : World} {n : Nat} (t : TypeId) (hn : X.heap.size = n) (kB : Below (X.alloc (.cells #[.int .i64 0, .int .i64 0, .int .i64 0, .string ⟨#[]⟩] t)).heap.size (X.alloc (.cells #[.int .i64 0, .int .i64 0, .int .i64 0, .string ⟨#[]⟩] t)) x1) :
    (x1.cell? ⟨n, 0, none⟩ = some (.int .i64 0) ∧ x1.cell? ⟨n, 1, none⟩ = some (.int .i64 0) ∧ x1.cell? ⟨n, 2, none⟩ = some (.int .i64 0) ∧ x1.cell? ⟨n, 3, none⟩ = some (.string ⟨#[]⟩)) ∧
    (x1.frozen? ⟨n, 0, none⟩ = false ∧ x1.frozen? ⟨n, 1, none⟩ = false ∧ x1.frozen? ⟨n, 2, none⟩ = false ∧ x1.frozen? ⟨n, 3, none⟩ = false) := by
  subst hn
  have hl : X.heap.size < (X.alloc (.cells #[.int .i64 0, .int .i64 0, .int .i64 0, .string ⟨#[]⟩] t)).heap.size := by simp
  refine ⟨⟨?_, ?_, ?_, ?_⟩, ?_, ?_, ?_, ?_⟩
  · exact (kB.cell (p := ⟨_, 0, none⟩) hl).trans (World.cell?_alloc_at _ _ _ _ rfl)
  · exact (kB.cell (p := ⟨_, 1, none⟩) hl).trans (World.cell?_alloc_at _ _ _ _ rfl)
  · exact (kB.cell (p := ⟨_, 2, none⟩) hl).trans (World.cell?_alloc_at _ _ _ _ rfl)
  · exact (kB.cell (p := ⟨_, 3, none⟩) hl).trans (World.cell?_alloc_at _ _ _ _ rfl)
  · exact (kB.frozen (p := ⟨_, 0, none⟩) hl).trans (World.frozen?_alloc_at _ _ _ _ rfl)
  · exact (kB.frozen (p := ⟨_, 1, none⟩) hl).trans (World.frozen?_alloc_at _ _ _ _ rfl)
  · exact (kB.frozen (p := ⟨_, 2, none⟩) hl).trans (World.frozen?_alloc_at _ _ _ _ rfl)
  · exact (kB.frozen (p := ⟨_, 3, none⟩) hl).trans (World.frozen?_alloc_at _ _ _ _ rfl)

theorem fresh_kept' {X x1 : World} {n : Nat} (t : TypeId) (hn : X.heap.size = n) (kB : Below (X.alloc (.cells #[.int .i64 0, .int .i64 0, .int .i64 0, .string ⟨#[]⟩] t)).drew.heap.size (X.alloc (.cells #[.int .i64 0, .int .i64 0, .int .i64 0, .string ⟨#[]⟩] t)).drew x1) :
    (x1.cell? ⟨n, 0, none⟩ = some (.int .i64 0) ∧ x1.cell? ⟨n, 1, none⟩ = some (.int .i64 0) ∧ x1.cell? ⟨n, 2, none⟩ = some (.int .i64 0) ∧ x1.cell? ⟨n, 3, none⟩ = some (.string ⟨#[]⟩)) ∧
    (x1.frozen? ⟨n, 0, none⟩ = false ∧ x1.frozen? ⟨n, 1, none⟩ = false ∧ x1.frozen? ⟨n, 2, none⟩ = false ∧ x1.frozen? ⟨n, 3, none⟩ = false) :=
  fresh_kept t hn (((Below.refl _ _).drew).trans kB)

/-- An update in memory. -/
def Four (W : World) (b q k i : Nat) (c : ByteArray) : Prop :=
  W.cell? ⟨b, 0, none⟩ = some (.int .i64 q) ∧ W.cell? ⟨b, 1, none⟩ = some (.int .i64 k) ∧ W.cell? ⟨b, 2, none⟩ = some (.int .i64 i) ∧ W.cell? ⟨b, 3, none⟩ = some (.string c)
theorem Four.lt {W : World} {b q k i : Nat} {c : ByteArray} (h : Four W b q k i c) : b < W.heap.size := World.block_lt_of_cell? W _ h.1
theorem Four.later {W W' : World} {b q k i : Nat} {c : ByteArray} (h : Four W b q k i c) (hB : Below W.heap.size W W') : Four W' b q k i c :=
  ⟨cells_kept hB h.lt h.1, cells_kept hB h.lt h.2.1, cells_kept hB h.lt h.2.2.1, cells_kept hB h.lt h.2.2.2⟩
theorem Four.new (x : World) (q k i : Nat) (c : ByteArray) (t : TypeId) : Four (x.alloc (.cells #[.int .i64 q, .int .i64 k, .int .i64 i, .string c] t)) x.heap.size q k i c :=
  ⟨World.cell?_alloc_at _ _ _ _ rfl, World.cell?_alloc_at _ _ _ _ rfl, World.cell?_alloc_at _ _ _ _ rfl, World.cell?_alloc_at _ _ _ _ rfl⟩

theorem Four.set {x : World} {n : Nat} {u0 u1 u2 u3 : Value} (h0 : x.cell? ⟨n, 0, none⟩ = some u0) (h1 : x.cell? ⟨n, 1, none⟩ = some u1) (h2 : x.cell? ⟨n, 2, none⟩ = some u2) (h3 : x.cell? ⟨n, 3, none⟩ = some u3) (q k i : Nat) (c : ByteArray) :
    Four ((((x.setCell ⟨n, 0, none⟩ (.int .i64 q)).setCell ⟨n, 1, none⟩ (.int .i64 k)).setCell ⟨n, 2, none⟩ (.int .i64 i)).setCell ⟨n, 3, none⟩ (.string c)) n q k i c := by
  refine ⟨?_, ?_, ?_, ?_⟩
  · rw [World.cell?_setCell_other _ _ _ _ (by simp), World.cell?_setCell_other _ _ _ _ (by simp), World.cell?_setCell_other _ _ _ _ (by simp)]; exact World.cell?_setCell_same _ _ _ h0
  · rw [World.cell?_setCell_other _ _ _ _ (by simp), World.cell?_setCell_other _ _ _ _ (by simp)]; exact World.cell?_setCell_same _ _ _ (by rw [World.cell?_setCell_other _ _ _ _ (by simp)]; exact h1)
  · rw [World.cell?_setCell_other _ _ _ _ (by simp)]; exact World.cell?_setCell_same _ _ _ (by rw [World.cell?_setCell_other _ _ _ _ (by simp), World.cell?_setCell_other _ _ _ _ (by simp)]; exact h2)
  · exact World.cell?_setCell_same _ _ _ (by rw [World.cell?_setCell_other _ _ _ _ (by simp), World.cell?_setCell_other _ _ _ _ (by simp), World.cell?_setCell_other _ _ _ _ (by simp)]; exact h3)
theorem below_of {b : Nat} {q k i : Int} {c : ByteArray} {w0 w : World} (h : w.cell? ⟨b, 0, none⟩ = some (.int .i64 q) ∧ w.cell? ⟨b, 1, none⟩ = some (.int .i64 k) ∧ w.cell? ⟨b, 2, none⟩ = some (.int .i64 i) ∧ w.cell? ⟨b, 3, none⟩ = some (.string c) ∧ Below b w0 w) : Below b w0 w := h.2.2.2.2

theorem size_drewN (w : World) (n : Nat) : (w.drewN n).heap.size = w.heap.size := rfl
theorem below_drewN (w : World) (n : Nat) : Below w.heap.size w (w.drewN n) := ⟨rfl, rfl, rfl, Nat.le_refl _, fun _ _ => rfl⟩

theorem num_int (x : Int) (w : World) (h1 : -9223372036854775808 ≤ x) (h2 : x ≤ 9223372036854775807) :
    Calls Tryd.prog 21 #[.int .i64 x] w fun e w' => e = .returned (.int .i64 x) ∧ w = w' := by
  go_enter Tryd.func21, Tryd.ntmps21
  go_wp2_with fail
  go_ret
  exact ⟨rfl, rfl⟩
theorem num_quiet (x : Int) (w : World) (n : Nat) (h1 : -9223372036854775808 ≤ x) (h2 : x ≤ 9223372036854775807) :
    Calls Tryd.prog 21 #[.int .i64 x] (w.drewN n) fun e w'' => e = .returned (.int .i64 x) ∧ ∃ m, w'' = w.drewN m :=
  (num_int x _ h1 h2).mono fun _ _ ⟨he, hw⟩ => ⟨he, n, hw.symm⟩

set_option maxRecDepth 100000 in
set_option maxHeartbeats 1000000 in
theorem journalBack_walk (q k i sq l : Int) (c b : ByteArray) (hc : c.size ≤ 4611686018427387904) (hb : b.size ≤ 4611686018427387904) (w : World) (hT : TabS w) :
    Calls Tryd.prog 5 #[.agg #[.int .i64 q, .int .i64 k, .int .i64 i, .string c], .int .i64 sq, .string b, .int .i64 l] w fun e w' => e = .returned (.bool true) ∧ Below w.heap.size w w' := by
  obtain ⟨K, hK⟩ : ∃ K : Nat, (K : Int) = 1 + k % 2 := ⟨(1 + k % 2).toNat, by omega⟩
  obtain ⟨I, hI⟩ : ∃ I : Nat, (I : Int) = i % 281474976710657 := ⟨(i % 281474976710657).toNat, by omega⟩
  obtain ⟨Q0, hQ0⟩ : ∃ Q0 : Nat, (Q0 : Int) = sq % 1152921504606846976 := ⟨(sq % 1152921504606846976).toNat, by omega⟩
  obtain ⟨D, hD, hDd, hDs⟩ := str_of (if K = 1 then (c.data.toList ++ [0, 0, 0, 0, 0, 0, 0, 0]).take 8 else [])
  have hK2 : K = 1 ∨ K = 2 := by omega
  have hI2 : I ≤ 281474976710656 := by omega
  have hQ2 : Q0 < 1152921504606846976 := by omega
  have hDl : K = 1 ∧ D.size = 8 ∨ K = 2 ∧ D.size = 0 := by
    rcases hK2 with rfl | rfl
    · refine Or.inl ⟨rfl, ?_⟩
      rw [hDs, if_pos rfl, List.length_take, List.length_append]; simp
    · refine Or.inr ⟨rfl, ?_⟩
      rw [hDs, if_neg (by decide)]; rfl
  obtain ⟨Q, hQ⟩ : ∃ Q, Q0 + 1 = Q := ⟨_, rfl⟩
  have cw : IntKind.i64.wrap (1 + (Q0 : Int)) = (Q : Int) := by rw [IntWalk.i64_in _ (by omega)]; omega
  have hQ1 : 1 ≤ Q := by omega
  have hQ3 : Q ≤ 1152921504606846976 := by omega
  clear hQ hQ2
  obtain ⟨S, hS, hSd, hSs⟩ := str_of (Sl.frame K (Sl.putVar Q ++ Sl.putVar I ++ D.data.toList))
  have hDl' : D.data.toList.length = D.size := Array.length_toList
  have l1 := (Sl.pvf_len 9 Q).2
  have l2 := (Sl.pvf_len 9 I).2
  have hSb : S.size ≤ 1000 := by
    rw [hSs, Sl.frame_len, List.length_append, List.length_append, hDl']
    show (Sl.pvf 9 Q).length + (Sl.pvf 9 I).length + D.size + 14 ≤ 1000
    omega
  have hWr : Jn.write (Q : Int) K I D.data.toList = (Sl.frame K (Sl.putVar Q ++ Sl.putVar I ++ D.data.toList), 0) := by
    have hcb : ¬ Jn.codeBad (K : Int) D.data.toList.length := by unfold Jn.codeBad; rw [hDl']; omega
    unfold Jn.write
    rw [if_neg (by omega), if_neg (by omega), if_neg (by omega), if_neg hcb]
    rfl
  have hDb : D.size ≤ 8 := by omega
  have hR64 : Jn.read S.data.toList 64 = ⟨Q, K, I, D.data.toList, 0⟩ := by
    rw [hSd, read_back Q K I 64 D.data.toList hQ1 hQ3 hI2 hK2 (by omega) (by decide) (by decide) (by decide), if_neg]
    rw [hDl']; show ¬ (K = 1 ∧ ¬ D.size = 8 ∨ K = 2 ∧ ¬ D.size = 0); omega
  obtain ⟨U2, hU2⟩ : ∃ U2, Jn.read S.data.toList 128 = U2 := ⟨_, rfl⟩
  obtain ⟨gb, hgb⟩ : ∃ gb, ((K : Int) == 2) = gb := ⟨_, rfl⟩
  have hG : ((U2.err : Int) == 0) = gb ∧ U2.err ≤ 60 := by
    rw [← hgb, ← hU2, hSd, read_back Q K I 128 D.data.toList hQ1 hQ3 hI2 hK2 (by omega) (by decide) (by decide) (by decide), hDl']
    rcases hDl with ⟨rfl, h⟩ | ⟨rfl, h⟩
    · rw [if_pos (Or.inl ⟨rfl, by rw [h]; decide⟩)]; exact ⟨rfl, by decide⟩
    · rw [if_neg (by omega)]; exact ⟨rfl, Nat.zero_le _⟩
  obtain ⟨q2, k2, i2, cd2, G⟩ := U2
  obtain ⟨hG, hGl⟩ := hG
  simp only at hG hGl
  obtain ⟨C2, hC2, _, _⟩ := str_of cd2
  obtain ⟨U, hU⟩ : ∃ U, Jn.read b.data.toList l = U := ⟨_, rfl⟩
  have hUx := read_err _ _ _ hU
  have hUn := read_no _ _ _ hU
  have hUi := read_is _ _ _ hU
  obtain ⟨uq, uk, ui, ucd, ue⟩ := U
  simp only at hUx hUn hUi
  obtain ⟨CU, hCU, hCUd, hCUs⟩ := str_of ucd
  have hcase : (¬ ue = 0 ∧ uq = 0 ∧ uk = 0 ∧ ui = 0 ∧ CU = ⟨#[]⟩) ∨ (ue = 0 ∧ CU.size ≤ 128 ∧ (uk = 2 ∨ uk = 1 ∧ (CU.size : Int) = l / 8) ∧ 64 ≤ l ∧ l ≤ 1024 ∧ Jn.write (uq : Int) uk ui CU.data.toList = (b.data.toList, 0)) := by
    by_cases he : ue = 0
    · obtain ⟨a1, a2, a3, a4, a5, a6, a7, a8⟩ := hUi he
      rw [← hCUs] at a7
      refine Or.inr ⟨he, by omega, by omega, a1, a2, ?_⟩
      have hcb : ¬ Jn.codeBad (uk : Int) CU.data.toList.length := by rw [hCUd, ← hCUs]; unfold Jn.codeBad; omega
      unfold Jn.write
      rw [if_neg (by omega), if_neg (by omega), if_neg (by omega), if_neg hcb, a8, hCUd]
      rfl
    · have h := hUn he
      refine Or.inl ⟨he, congrArg Jn.Upd.seq h, congrArg Jn.Upd.kind h, congrArg Jn.Upd.id h, ?_⟩
      have h4 : ucd = [] := congrArg Jn.Upd.code h
      subst h4
      exact (Value.string.inj hCU).symm
  clear hUn hUi hCUd hCUs
  have HU := Lib.hid hU
  have HCU := Lib.hid hCU
  have HCASE := Lib.hid hcase
  clear hU hCU hcase
  have HS := Lib.hid hS
  have HSd := Lib.hid hSd
  have HWr := Lib.hid hWr
  have HR := Lib.hid hR64
  have HU2 := Lib.hid hU2
  have HC2 := Lib.hid hC2
  have HG := Lib.hid hG
  have Hgb := Lib.hid hgb
  have HQ := Lib.hid hQ0
  have HK := Lib.hid hK
  have HI := Lib.hid hI
  have HD := Lib.hid hD
  have HT := Lib.hid hT
  have HDL := Lib.hid hDl
  have HK2 := Lib.hid hK2
  clear hK hI hQ0 hD hDd hDs hT hDl hK2 hS hSd hSs hDl' l1 l2 hWr hR64 hU2 hC2 hG hgb
  go_enter Tryd.func5, Tryd.ntmps5
  go_upto_region 1 with fail
  go_cut [9] (fun p W => ∃ bx : Nat, p = .pointer (some ⟨bx, 0, none⟩) ∧ Four W bx Q K I D ∧ Below w.heap.size w W)
  case first =>
    go_region_held3 (fun w' => w'.cell? ⟨w.heap.size, 0, none⟩ = some (.int .i64 q) ∧ w'.cell? ⟨w.heap.size, 1, none⟩ = some (.int .i64 k) ∧ w'.cell? ⟨w.heap.size, 2, none⟩ = some (.int .i64 i) ∧ w'.cell? ⟨w.heap.size, 3, none⟩ = some (.string c) ∧ Below w.heap.size w w')
      (first
        | with_reducible assumption
        | with_reducible exact quad_alloc _ (by with_reducible assumption)
        | with_reducible exact quad_drew _ (by with_reducible assumption)
        | (with_reducible refine quad_set _ _ ?_ (quad_set _ _ ?_ (quad_set _ _ ?_ (quad_set _ _ ?_ (by with_reducible assumption)))) <;> simp <;> done)
        | (with_reducible refine quad_set _ _ ?_ (by with_reducible assumption); simp; done)
        | (refine ⟨?_, ?_, ?_, ?_, ?_⟩ <;> first | exact ((Below.refl _ _).alloc (Nat.le_refl _) _).drew | exact World.cell?_alloc_at _ _ _ _ rfl))
      (first
        | (go_at_call 23; refine (pick_any sq 1152921504606846976 _ (by decide) (by decide)).mono ?_; rintro e w' ⟨rfl, rfl⟩; rw [← HQ.out])
        | (go_at_call 22; refine (goes_held q k i _ K I c D w.heap.size w _ HK.out HI.out hc HD.out (by assumption)).mono ?_; rintro e x1 ⟨rfl, kS, kB⟩; (try ((first | have kk := fresh_kept (n := w.heap.size + 1) _ (by simp) kB | have kk := fresh_kept' (n := w.heap.size + 1) _ (by simp) kB); obtain ⟨⟨k0, k1, k2, k3⟩, f0, f1, f2, f3⟩ := kk))))
    all_goals
      go_wp2_with fail
      go_meet
      first
        | with_reducible exact ⟨_, rfl, Four.new _ Q K I D _, below_of (by with_reducible assumption)⟩
        | with_reducible exact ⟨_, rfl, Four.set (by with_reducible assumption) (by with_reducible assumption) (by with_reducible assumption) (by with_reducible assumption) Q K I D, below_of (by with_reducible assumption)⟩
  case rest =>
    obtain ⟨bx, rfl, F1, B1⟩ := hcut
    have T1 := HT.out.below B1
    have ⟨c0, c1, c2, c3⟩ := F1
    go_wp2_with fail
    refine (write_tell Q K I D S _ 0 _ (by omega) T1 HWr.out HS.out).mono ?_
    rintro e x2 ⟨rfl, B2⟩
    clear c0 c1 c2 c3
    have F2 := F1.later B2
    go_wp2_with fail
    refine (read_tell S D 64 Q K I 0 _ _ (by omega) (T1.below B2) HR.out (str_eq rfl).symm).mono ?_
    rintro e x3 ⟨rfl, B3⟩
    go_wp2_with fail
    refine (read_tell S C2 128 q2 k2 i2 G cd2 _ (by omega) ((T1.below B2).below (B3.alloc B3.size _)) HU2.out HC2.out).mono ?_
    rintro e x4 ⟨rfl, B4⟩
    go_wp2_with fail
    obtain ⟨X, hX, F5, G5, B5, T5⟩ : ∃ X, x4.alloc (.cells #[.int .i64 q2, .int .i64 k2, .int .i64 i2, .string C2] 41) = X ∧ Four X bx Q K I D ∧ Four X x3.heap.size Q K I D ∧ Below w.heap.size w X ∧ TabS X := by
      have hb4 : Below x2.heap.size x2 x4 := (B3.alloc B3.size _).trans (B4.mono (by have := B3.size; simp; omega))
      have hb5 : Below w.heap.size w x4 := (B1.trans (B2.mono B1.size)).trans (hb4.mono (Nat.le_trans B1.size B2.size))
      exact ⟨_, rfl, (F2.later hb4).later ((Below.refl _ _).alloc (Nat.le_refl _) _), ((Four.new _ Q K I D _).later B4).later ((Below.refl _ _).alloc (Nat.le_refl _) _), hb5.alloc hb5.size _, HT.out.below (hb5.alloc hb5.size _)⟩
    rw [hX]
    clear hX B4 B3 F2 B2 T1 B1 F1
    have ⟨c0, c1, c2, c3⟩ := F5
    have ⟨d0, d1, d2, d3⟩ := G5
    have gG := HG.out
    have gK := Hgb.out
    go_quiet ((go_at_call 21; exact num_quiet _ _ _ (by omega) (by omega)))
    go_wp2_with fail
    refine (read_tell b CU l uq uk ui ue ucd _ (by omega) ?_ HU.out HCU.out).mono ?_
    · exact T5.below (below_drewN X nq)
    rintro e x6 ⟨rfl, B6⟩
    have B7 : Below w.heap.size w x6 := B5.trans (((below_drewN X nq).trans (B6.mono (Nat.le_refl _))).mono B5.size)
    clear c0 c1 c2 c3 d0 d1 d2 d3 F5 G5 gG gK B6
    go_wp2_with fail
    refine (num_int ue _ (by omega) (by omega)).mono ?_
    rintro e x7 ⟨rfl, rfl⟩
    rcases HCASE.out with ⟨he, rfl, rfl, rfl, rfl⟩ | ⟨rfl, hCs, hk2, hl1, hl2, hW⟩
    · have he' : ((ue : Int) != 0) = true := by rw [bne_iff_ne]; omega
      go_wp2_with fail
      go_ret
      exact ⟨rfl, B7.alloc B7.size _⟩
    · have HW := Lib.hid hW
      have B8 : Below w.heap.size w (x6.alloc (.cells #[.int .i64 uq, .int .i64 uk, .int .i64 ui, .string CU] 41)) := B7.alloc B7.size _
      have F8 := Four.new x6 uq uk ui CU 41
      clear hW
      go_wp2_with fail
      refine (write_tell uq uk ui CU b _ 0 _ (by omega) (HT.out.below B8) HW.out (str_eq rfl).symm).mono ?_
      rintro e x9 ⟨rfl, B9⟩
      have F9 := F8.later B9
      have B10 := B8.trans (B9.mono B8.size)
      have ⟨c0, c1, c2, c3⟩ := F9
      clear F9 F8 B9 B8
      go_wp2_with fail
      refine (num_int 0 _ (by omega) (by omega)).mono ?_
      rintro e x11 ⟨rfl, rfl⟩
      rcases hk2 with rfl | ⟨rfl, h8⟩
      · go_wp2_with fail
        go_ret
        exact ⟨rfl, B10⟩
      · have h8' : ((CU.size : Int) == l / 8) = true := by rw [beq_iff_eq]; exact h8
        clear h8
        go_wp2_with fail
        go_ret
        exact ⟨rfl, B10⟩
theorem journalBack_law (q k i : Int) (c : ByteArray) (sq : Int) (b : ByteArray) (l : Int) (hc : c.size ≤ 140737488355328) (hb : b.size ≤ 140737488355328) (w : World) (hT : TabS w) :
    Calls Tryd.prog 5 #[.agg #[.int .i64 q, .int .i64 k, .int .i64 i, .string c], .int .i64 sq, .string b, .int .i64 l] w fun e w' => e = .returned (.bool true) ∧ Below w.heap.size w w' :=
  journalBack_walk q k i sq l c b (by omega) (by omega) w hT
end Go.Proofs.YtffdplmnjlcmnaaDoor
