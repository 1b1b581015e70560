/- Manifests: contract of the reference's Decode. Conditions: each theorem's own hypotheses. -/
import Derived.Test.YtknemjnlcghafaaDoorMdA
import Derived.Test.YtknemjnlcghafaaDoorMdE
import Derived.Test.YtknemjnlcghafaaDoorSealK
import Derived.BigRegion
import Derived.Deep.RegionHeldLaw
import Derived.Deep.AppendLies
import Derived.Test.YtknemjnlcghafaaDoorMdR
import Derived.Test.YtknemjnlcghafaaDoorMfI
import Derived.Test.YtknemjnlcghafaaDoorMfK
namespace Go.Proofs.YtknemjnlcghafaaDoor
open Go.RowKit Go.Maps
set_option linter.unusedVariables false

/-- The document reads seven numbers at once. -/
theorem Mf.seven {p : List UInt8} {T : Mf.Tk} (hT : Mf.take p 1152921504606846976 0 0 7 = T) :
    (T.code ≠ 0 → (Mf.rdN p).code = T.code) ∧ (T.code = 0 → ∃ h n, (Mf.rdH p).vals = h ∧ T.vals = h ++ [n] ∧ h.length = 6 ∧ (24 < n → (Mf.rdN p).code = 80) ∧ (n ≤ 24 → (Mf.rdN p).code = 0 ∧ (Mf.rdN p).vals = [n] ∧ (Mf.rdN p).at_ = T.at_)) := by
  have e1 : T = Mf.tkStep p 1152921504606846976 (Mf.rdH p) := by rw [← hT, Mf.rdH]; rfl
  have e2 : Mf.rdN p = Mf.tkStep p 24 ⟨(Mf.rdH p).code, [], (Mf.rdH p).at_⟩ := by rw [Mf.rdN, Mf.take_one]
  have hok := fun h => Mf.take_ok (l := p) (most := 1152921504606846976) (c := 0) (a := 0) (Nat.zero_le _) (k := 6) h
  have e3 : Mf.take p 1152921504606846976 0 0 6 = Mf.rdH p := rfl
  rw [e3] at hok
  rw [e2]
  generalize Mf.rdH p = H at *
  clear hT e3 e2
  by_cases h0 : H.code = 0
  · obtain ⟨R, hR⟩ : ∃ R, Sl.var (p.drop H.at_) = R := ⟨_, rfl⟩
    have hl := (hok h0).1
    clear hok
    subst e1
    unfold Mf.tkStep
    simp only [h0, not_true_eq_false, if_false, hR]
    by_cases h1 : R.code = 0
    · simp only [h1, not_true_eq_false, if_false]
      by_cases h2 : 1152921504606846976 < R.val
      · have h3 : 24 < R.val := by omega
        simp only [h2, h3, if_true]
        exact ⟨fun _ => trivial, fun h => by cases h⟩
      · simp only [h2, if_false]
        refine ⟨fun h => absurd rfl h, fun _ => ⟨H.vals, R.val, rfl, rfl, hl, fun h => by rw [if_pos h], fun h => ?_⟩⟩
        rw [if_neg (by omega)]
        exact ⟨rfl, rfl, rfl⟩
    · simp only [h1, not_false_eq_true, if_true]
      exact ⟨fun _ => trivial, fun h => h.elim⟩
  · subst e1
    have a1 := Mf.tkStep_bad (l := p) (most := 1152921504606846976) h0
    have a2 := Mf.tkStep_bad (l := p) (most := 24) (T := ⟨H.code, [], H.at_⟩) h0
    exact ⟨fun _ => a2.trans a1.symm, fun h => absurd (a1.symm.trans h) h0⟩

theorem cell_alloc {W : World} {a : Addr} {v : Value} (o : Obj) (h : W.cell? a = some v) : (W.alloc o).cell? a = some v :=
  (World.cell?_of_block (Below.heap_alloc W o _ (World.block_lt_of_cell? W _ h))).trans h
theorem cell_grown {W W' : World} {a : Addr} {v : Value} {row : Option Nat} (hg : W.grownBy W' row) (hne : some a.block ≠ row) (h : W.cell? a = some v) : W'.cell? a = some v :=
  (World.cell?_of_block (hg.block _ (World.block_lt_of_cell? W _ h) hne)).trans h
theorem five_alloc {q g2 j j1 j2 j3 u0 u1 u2 u3 : Nat} {W : World} (hq : q < W.heap.size) (o : Obj) (h : W.frozen? ⟨q, 6, none⟩ = false ∧ W.cell? ⟨g2, j, none⟩ = some (.int .i64 (u0 : Int)) ∧ W.cell? ⟨g2, j1, none⟩ = some (.int .i64 (u1 : Int)) ∧ W.cell? ⟨g2, j2, none⟩ = some (.int .i64 (u2 : Int)) ∧ W.cell? ⟨g2, j3, none⟩ = some (.int .i64 (u3 : Int))) :
    (W.alloc o).frozen? ⟨q, 6, none⟩ = false ∧ (W.alloc o).cell? ⟨g2, j, none⟩ = some (.int .i64 (u0 : Int)) ∧ (W.alloc o).cell? ⟨g2, j1, none⟩ = some (.int .i64 (u1 : Int)) ∧ (W.alloc o).cell? ⟨g2, j2, none⟩ = some (.int .i64 (u2 : Int)) ∧ (W.alloc o).cell? ⟨g2, j3, none⟩ = some (.int .i64 (u3 : Int)) :=
  ⟨(World.frozen?_of_block (Below.heap_alloc W o _ hq)).trans h.1, cell_alloc o h.2.1, cell_alloc o h.2.2.1, cell_alloc o h.2.2.2.1, cell_alloc o h.2.2.2.2⟩
theorem five_grown {q g2 j j1 j2 j3 u0 u1 u2 u3 : Nat} {W W' : World} {row : Option Nat} (hq : q < W.heap.size) (hg : W.grownBy W' row) (h1 : some q ≠ row) (h2 : some g2 ≠ row) (h : W.frozen? ⟨q, 6, none⟩ = false ∧ W.cell? ⟨g2, j, none⟩ = some (.int .i64 (u0 : Int)) ∧ W.cell? ⟨g2, j1, none⟩ = some (.int .i64 (u1 : Int)) ∧ W.cell? ⟨g2, j2, none⟩ = some (.int .i64 (u2 : Int)) ∧ W.cell? ⟨g2, j3, none⟩ = some (.int .i64 (u3 : Int))) :
    W'.frozen? ⟨q, 6, none⟩ = false ∧ W'.cell? ⟨g2, j, none⟩ = some (.int .i64 (u0 : Int)) ∧ W'.cell? ⟨g2, j1, none⟩ = some (.int .i64 (u1 : Int)) ∧ W'.cell? ⟨g2, j2, none⟩ = some (.int .i64 (u2 : Int)) ∧ W'.cell? ⟨g2, j3, none⟩ = some (.int .i64 (u3 : Int)) :=
  ⟨(World.frozen?_of_block (hg.block _ hq h1)).trans h.1, cell_grown hg h2 h.2.1, cell_grown hg h2 h.2.2.1, cell_grown hg h2 h.2.2.2.1, cell_grown hg h2 h.2.2.2.2⟩
theorem five_set {q g2 j j1 j2 j3 u0 u1 u2 u3 : Nat} {W : World} {u : Value} (hne : g2 ≠ q) (h : W.frozen? ⟨q, 6, none⟩ = false ∧ W.cell? ⟨g2, j, none⟩ = some (.int .i64 (u0 : Int)) ∧ W.cell? ⟨g2, j1, none⟩ = some (.int .i64 (u1 : Int)) ∧ W.cell? ⟨g2, j2, none⟩ = some (.int .i64 (u2 : Int)) ∧ W.cell? ⟨g2, j3, none⟩ = some (.int .i64 (u3 : Int))) :
    (W.setCell ⟨q, 6, none⟩ u).frozen? ⟨q, 6, none⟩ = false ∧ (W.setCell ⟨q, 6, none⟩ u).cell? ⟨g2, j, none⟩ = some (.int .i64 (u0 : Int)) ∧ (W.setCell ⟨q, 6, none⟩ u).cell? ⟨g2, j1, none⟩ = some (.int .i64 (u1 : Int)) ∧ (W.setCell ⟨q, 6, none⟩ u).cell? ⟨g2, j2, none⟩ = some (.int .i64 (u2 : Int)) ∧ (W.setCell ⟨q, 6, none⟩ u).cell? ⟨g2, j3, none⟩ = some (.int .i64 (u3 : Int)) :=
  ⟨by rw [World.frozen?_setCell]; exact h.1, (World.cell?_of_block (Below.heap_setCell W _ u _ hne)).trans h.2.1, (World.cell?_of_block (Below.heap_setCell W _ u _ hne)).trans h.2.2.1, (World.cell?_of_block (Below.heap_setCell W _ u _ hne)).trans h.2.2.2.1, (World.cell?_of_block (Below.heap_setCell W _ u _ hne)).trans h.2.2.2.2⟩

/-- The load of the list's own cell, under a name: the walk of the drawn region is to branch over it without a word. -/
def Mf.o97 : Op := Op.load 24 (Operand.tmp 96)
attribute [go_sem] Mf.o97
/-- The state at the head of the loop of the reference's Decode. -/
structure RfSt (D0 : Nat) (vs us : List Nat) (q nn : Nat) (w3 : World) (j : Nat) (A : Option Addr) (cp : Nat) (rs : List Run) (wr : World) : Prop where
  man : ∃ v0 v1 v2 v3 v4 v5, vs = [v0, v1, v2, v3, v4, v5] ∧ Blk wr q 26 #[.int .i64 (v0 : Nat), .int .i64 (v1 : Nat), .int .i64 (v2 : Nat), .int .i64 (v3 : Nat), .int .i64 (v4 : Nat), .int .i64 (v5 : Nat), .slice A rs.length cp]
  own : Runs wr (q + 1) A cp rs
  below : Below q w3 wr
  size : q + 1 ≤ wr.heap.size
  le : j ≤ nn
  four : ∃ k, j = 4 * k
  runs : rs = Mf.runsOf (us.take j)
theorem Mf.runsOf_step {us : List Nat} {k u0 u1 u2 u3 : Nat} (h0 : us[4 * k]? = some u0) (h1 : us[4 * k + 1]? = some u1) (h2 : us[4 * k + 2]? = some u2) (h3 : us[4 * k + 3]? = some u3) :
    Mf.runsOf (us.take (4 * k + 4)) = Mf.runsOf (us.take (4 * k)) ++ [⟨u0, u1, u2, u3⟩] := by
  have hl := (List.getElem?_eq_some_iff.1 h3).1
  rw [← Mf.runsOf_snoc k _ (by rw [List.length_take]; omega)]
  congr 1
  rw [show 4 * k + 4 = 4 * k + 1 + 1 + 1 + 1 by omega, List.take_add_one, List.take_add_one, List.take_add_one, List.take_add_one, h0, h1, h2, h3]
  simp

theorem RfSt.next {D0 : Nat} {vs us : List Nat} {q nn j cp g' cp' : Nat} {w3 wr Wx w5 : World} {A : Option Addr} {rs : List Run} {r : Run} (K : RfSt D0 vs us q nn w3 j A cp rs wr) (hx : Below wr.heap.size wr Wx)
    (hg : Wx.grownBy w5 (Value.slice A rs.length cp).ownBlock) (nq : some q ≠ (Value.slice A rs.length cp).ownBlock) (hlt : ∀ b, (Value.slice A rs.length cp).ownBlock = some b → q ≤ b)
    (hown : w5.ownsRow (q + 1) 54 4 (.slice (some ⟨g', 0, none⟩) (rs.length + 1) cp') (rs.length + 1) (cellsOf rs ++ cellsOf [r])) (hst : Mf.runsOf (us.take (j + 4)) = rs ++ [r]) (hjn : j + 4 ≤ nn) :
    RfSt D0 vs us q nn w3 (j + 4) (some ⟨g', 0, none⟩) cp' (rs ++ [r]) (w5.setCell ⟨q, 6, none⟩ (.slice (some ⟨g', 0, none⟩) (rs.length + 1) cp')) := by
  obtain ⟨v0, v1, v2, v3, v4, v5, hv, hm⟩ := K.man
  have hz := K.size
  have hz2 := hx.size
  have hm2 := Blk.grown ((hx.block q (by omega)).trans hm) hg nq
  refine ⟨⟨v0, v1, v2, v3, v4, v5, hv, ?_⟩, ?_, ?_, ?_, hjn, ?_, hst.symm⟩
  · rw [List.length_append]
    exact hm2.set_ 6 _
  · unfold Runs
    rw [List.length_append, cellsOf_append]
    exact own_keep hown (Nat.le_refl _) fun b hb _ => Below.heap_setCell _ _ _ b (by show b ≠ q; omega)
  · exact ((K.below.trans (hx.mono (by omega))).grown hg (by omega) hlt).setCell (Nat.le_refl q) _
  · rw [World.size_setCell]
    have := hg.size
    omega
  · obtain ⟨k, hk⟩ := K.four
    exact ⟨k + 1, by omega⟩

end Go.Proofs.YtknemjnlcghafaaDoor
/- The law's helper other: the bytes of a manifest that goes, and that manifest. Conditions: each theorem's own hypotheses. -/
namespace Go.Proofs.YtknemjnlcghafaaDoor
open Go.RowKit Go.Maps
set_option linter.unusedVariables false

theorem Rs.heap {W W' : World} {B B' : Nat} {A : Option Addr} {rs : List Run} (H : Rs W B A rs) (h : ∀ g off, A = some ⟨g, off, none⟩ → W'.heap[g]? = W.heap[g]? ∧ g < B') : Rs W' B' A rs := by
  intro h0
  obtain ⟨b, off, hA, hb, hc⟩ := H h0
  obtain ⟨h1, h2⟩ := h b off hA
  refine ⟨b, off, hA, h2, fun j r hj => ?_⟩
  obtain ⟨c0, c1, c2, c3⟩ := hc j r hj
  exact ⟨(World.cell?_of_block (a := ⟨b, _, none⟩) h1).trans c0, (World.cell?_of_block (a := ⟨b, _, none⟩) h1).trans c1, (World.cell?_of_block (a := ⟨b, _, none⟩) h1).trans c2, (World.cell?_of_block (a := ⟨b, _, none⟩) h1).trans c3⟩

theorem man7_size (W : World) (b : Nat) (v0 v1 v2 v3 v4 v5 v6 : Value) : (man7 W b v0 v1 v2 v3 v4 v5 v6).heap.size = W.heap.size := by
  unfold man7
  iterate 7 rw [World.size_setCell]
theorem Rs.drew_ {W : World} {B : Nat} {A : Option Addr} {rs : List Run} (H : Rs W B A rs) : Rs W.drew B A rs := H.keep fun _ _ => rfl
theorem Rs.over7 {w1 W' : World} {b g : Nat} {rs : List Run} {v0 v1 v2 v3 v4 v5 v6 : Value} (hW : man7 w1 b v0 v1 v2 v3 v4 v5 v6 = W') (H : Rs w1 w1.heap.size (some ⟨g, 0, none⟩) rs) (hne : g ≠ b) (hlt : g < w1.heap.size) :
    Rs W' W'.heap.size (some ⟨g, 0, none⟩) rs := by
  refine Rs.heap H fun g' off e => ?_
  injection e with e
  injection e with e1 _ _
  subst e1
  subst hW
  rw [man7_size]
  exact ⟨man7_heap hne v0 v1 v2 v3 v4 v5 v6, hlt⟩

theorem Rs.drew7 {W : World} {A : Option Addr} {rs : List Run} (H : Rs W W.heap.size A rs) : Rs W.drew W.drew.heap.size A rs := Rs.drew_ H

/-- The other manifest. -/
def Mf.oth : Man := ⟨64, 2, 1, 9, 9, 3, [⟨1, 0, 4, 2⟩, ⟨2, 4, 9, 1⟩]⟩
theorem Mf.oth_check : Mf.check Mf.oth = 0 := by
  unfold Mf.check
  rw [if_neg (by decide), if_pos]
  refine ⟨by unfold Mf.Front Mf.oth; decide, fun j r hj hr => ?_⟩
  match j, hj with
  | 0, _ =>
    obtain rfl := Option.some.inj hr
    refine ⟨by decide, by decide, by decide, ?_, ?_, ?_⟩ <;> simp [Mf.last, Mf.oth]
  | 1, _ =>
    obtain rfl := Option.some.inj hr
    refine ⟨by decide, by decide, by decide, ?_, ?_, ?_⟩ <;> simp [Mf.last, Mf.oth]
theorem Mf.oth_fit : Mf.Fit Mf.oth := ⟨by decide, by decide, by decide, by decide⟩

end Go.Proofs.YtknemjnlcghafaaDoor
/- Several manifests in memory, one of them written over. Conditions: each theorem's own hypotheses. -/
namespace Go.Proofs.YtknemjnlcghafaaDoor
open Go.RowKit Go.Maps
set_option linter.unusedVariables false

/-- A manifest in a block, its list anywhere. -/
structure It where
  b : Nat
  man : Man
  list : Option Addr
  cap : Nat
def Held (W : World) (x : It) : Prop := Blk W x.b 26 (manCells x.man x.list x.cap) ∧ Rs W W.heap.size x.list x.man.runs
/-- All of these. -/
def Sit (W : World) (l : List It) : Prop := ∀ x ∈ l, Held W x
theorem Sit.nil (W : World) : Sit W [] := fun x hx => by cases hx
theorem Held.later {W W' : World} {x : It} (h : Held W x) (hB : Below W.heap.size W W') : Held W' x := ⟨(hB.block _ h.1.lt).trans h.1, (h.2.below hB).more hB.size⟩
theorem Sit.later {W W' : World} {l : List It} (h : Sit W l) (hB : Below W.heap.size W W') : Sit W' l := fun x hx => (h x hx).later hB
theorem Sit.add {W W' : World} {l : List It} (h : Sit W l) (hB : Below W.heap.size W W') (M : Man) (A : Option Addr) (cap : Nat) (hr : Rs W' W'.heap.size A M.runs) :
    Sit (W'.alloc (.cells (manCells M A cap) 26)) (⟨W'.heap.size, M, A, cap⟩ :: l) := fun x hx => by
  rcases List.mem_cons.1 hx with rfl | hx
  · exact ⟨Blk.new _ _ _, (hr.below ((Below.refl _ _).alloc (Nat.le_refl _) _)).more (by simp)⟩
  · exact ((h x hx).later hB).later ((Below.refl _ _).alloc (Nat.le_refl _) _)
/-- Nothing of it lies in the blocks from lo to hi or from top on. -/
def Far (lo hi top : Nat) (x : It) : Prop := (x.b < lo ∨ hi ≤ x.b) ∧ x.b < top ∧ ∀ g off, x.list = some ⟨g, off, none⟩ → (g < lo ∨ hi ≤ g) ∧ g < top
/-- May the block be written? -/
def Mine (lo hi top g : Nat) : Prop := (lo ≤ g ∧ g < hi) ∨ top ≤ g
theorem Sit.keep {W W' : World} {l : List It} {lo hi top : Nat} (h : Sit W l) (hf : ∀ x ∈ l, Far lo hi top x) (hs : W.heap.size ≤ W'.heap.size) (hk : ∀ k, k < W.heap.size → ¬ Mine lo hi top k → W'.heap[k]? = W.heap[k]?) : Sit W' l := fun x hx => by
  obtain ⟨h1, h2⟩ := h x hx
  obtain ⟨f1, f2, f3⟩ := hf x hx
  refine ⟨(hk _ h1.lt (by unfold Mine; omega)).trans h1, fun h0 => ?_⟩
  obtain ⟨b, off, hA, hb, hc⟩ := h2 h0
  obtain ⟨f4, f5⟩ := f3 b off hA
  have hk2 := hk b hb (by unfold Mine; omega)
  refine ⟨b, off, hA, by omega, fun j r hj => ?_⟩
  obtain ⟨c0, c1, c2, c3⟩ := hc j r hj
  exact ⟨(World.cell?_of_block (a := ⟨b, _, none⟩) hk2).trans c0, (World.cell?_of_block (a := ⟨b, _, none⟩) hk2).trans c1, (World.cell?_of_block (a := ⟨b, _, none⟩) hk2).trans c2, (World.cell?_of_block (a := ⟨b, _, none⟩) hk2).trans c3⟩
theorem Sit.set_ {W : World} {l : List It} {lo hi top : Nat} (h : Sit W l) (hf : ∀ x ∈ l, Far lo hi top x) (p : Addr) (u : Value) (hp : Mine lo hi top p.block) : Sit (W.setCell p u) l :=
  h.keep hf (by rw [World.size_setCell]; exact Nat.le_refl _) fun k _ hk => Below.heap_setCell W p u k fun e => hk (e ▸ hp)
theorem Sit.grown {W W' : World} {l : List It} {lo hi top : Nat} {row : Option Nat} (h : Sit W l) (hf : ∀ x ∈ l, Far lo hi top x) (hg : W.grownBy W' row) (hr : ∀ g, row = some g → Mine lo hi top g) : Sit W' l :=
  h.keep hf hg.size fun k h1 hk => hg.block k h1 fun e => hk (hr k e.symm)
theorem Sit.seven {W : World} {l : List It} (h : Sit W l) {b : Nat} {M : Man} {A : Option Addr} {cap : Nat} (hx : It.mk b M A cap ∈ l) :
    W.cell? ⟨b, 0, none⟩ = some (.int .i64 M.w) ∧ W.cell? ⟨b, 1, none⟩ = some (.int .i64 M.c) ∧ W.cell? ⟨b, 2, none⟩ = some (.int .i64 M.m) ∧ W.cell? ⟨b, 3, none⟩ = some (.int .i64 M.seq) ∧ W.cell? ⟨b, 4, none⟩ = some (.int .i64 M.next) ∧ W.cell? ⟨b, 5, none⟩ = some (.int .i64 M.jr) ∧ W.cell? ⟨b, 6, none⟩ = some (.slice A M.runs.length cap) := by
  have h1 : Blk W b 26 (manCells M A cap) := (h _ hx).1
  exact ⟨h1.cell 0, h1.cell 1, h1.cell 2, h1.cell 3, h1.cell 4, h1.cell 5, h1.cell 6⟩
theorem Sit.rs {W : World} {l : List It} (h : Sit W l) {b : Nat} {M : Man} {A : Option Addr} {cap : Nat} (hx : It.mk b M A cap ∈ l) : Rs W W.heap.size A M.runs := (h _ hx).2

/-- A slice of runs of the call's own, whatever they are. -/
def Own4 (W : World) (lo hi top n : Nat) (v : Value) : Prop := (∃ xs, W.ownsRow lo 54 4 v n xs) ∧ ∀ g, v.ownBlock = some g → Mine lo hi top g
theorem Own4.keep {W W' : World} {lo hi top n : Nat} {v : Value} (h : Own4 W lo hi top n v) (hk : ∀ k, lo ≤ k → k < W.heap.size → W'.heap[k]? = W.heap[k]?) : Own4 W' lo hi top n v := by
  obtain ⟨⟨xs, h1⟩, h2⟩ := h
  exact ⟨⟨xs, own_keep h1 (Nat.le_refl _) hk⟩, h2⟩
/-- One of them: its four cells are there and may be written. -/
theorem Own4.open_ {W : World} {lo hi top n cap : Nat} {A : Option Addr} (h : Own4 W lo hi top n (.slice A n cap)) (h0 : 0 < n) : ∃ g cur, A = some ⟨g, 0, none⟩ ∧ Mine lo hi top g ∧ Blk W g 54 cur ∧ lo ≤ g ∧ n ≤ cap ∧ cap ≤ maxLen ∧ cur.size = cap * 4 := by
  obtain ⟨⟨xs, h1, h2⟩, h3⟩ := h
  rcases h2 with ⟨_, h2⟩ | ⟨g, c, cur, hv, hg, hh, hc1, hc2, hc3, _⟩
  · omega
  · injection hv with e1 _ e2
    subst e1 e2
    exact ⟨g, cur, rfl, h3 g rfl, hh, hg, hc1, hc2, hc3⟩
theorem Own4.shut {W : World} {lo hi top n cap g : Nat} {cur : Array Value} (hg : Mine lo hi top g) (hb : Blk W g 54 cur) (hl : lo ≤ g) (h1 : n ≤ cap) (h2 : cap ≤ maxLen) (h3 : cur.size = cap * 4) : Own4 W lo hi top n (.slice (some ⟨g, 0, none⟩) n cap) := by
  refine ⟨⟨cur.toList.take (n * 4), ?_, Or.inr ⟨g, cap, cur, rfl, hl, hb, h1, h2, h3, rfl⟩⟩, fun g' e => ?_⟩
  · rw [List.length_take, Array.length_toList, h3]
    omega
  · injection e with e
    exact e ▸ hg
theorem Runs.own4 {W : World} {lo cap : Nat} {A : Option Addr} {rs : List Run} (h : Runs W lo A cap rs) (top : Nat) : Own4 W lo W.heap.size top rs.length (.slice A rs.length cap) :=
  ⟨⟨_, h⟩, fun g e => Or.inl (World.ownsRow.lt h g e)⟩
theorem Runs.far {W : World} {base cap : Nat} {A : Option Addr} {rs : List Run} (h : Runs W base A cap rs) {lo hi top b : Nat} {M : Man} (h1 : hi ≤ base) (h2 : W.heap.size ≤ top) (hb : hi ≤ b) (hbt : b < top) : Far lo hi top ⟨b, M, A, cap⟩ := by
  refine ⟨Or.inr hb, hbt, fun g off e => ?_⟩
  have e' : A = some ⟨g, off, none⟩ := e
  have := World.ownsRow.lt h g (by rw [e']; rfl)
  exact ⟨Or.inr (by omega), by omega⟩
theorem Mf.decP_len (p : List UInt8) : (Mf.decP p).man.runs.length ≤ 24 := by
  by_cases h1 : (Mf.rdN p).code = 0
  rotate_left
  · rw [Mf.decP_bad1 h1]; exact Nat.zero_le _
  obtain ⟨n, hn, _⟩ := Mf.rd_facts h1
  obtain ⟨X, hX⟩ : ∃ X, Mf.take p 1152921504606846976 0 (Mf.rdN p).at_ (4 * n) = X := ⟨_, rfl⟩
  by_cases h2 : X.code = 0
  rotate_left
  · rw [Mf.decP_bad2 h1 hn (Nat.le_refl n) (by rw [hX]) h2]; exact Nat.zero_le _
  rw [Mf.decP_end h1 hn hX h2]
  obtain ⟨M, hM⟩ : ∃ M, Mf.manOf (Mf.rdH p).vals X.vals = M := ⟨_, rfl⟩
  rw [hM]
  by_cases h3 : X.at_ = p.length
  · rw [if_neg (not_not_intro h3)]
    by_cases h4 : Mf.check M = 0
    · rw [if_neg (not_not_intro h4)]; exact (Mf.good h4).len
    · rw [if_pos h4]; exact Nat.zero_le _
  · rw [if_pos h3]; exact Nat.zero_le _
theorem Mf.decode_len (l : List UInt8) : (Mf.decode l).man.runs.length ≤ 24 := by
  unfold Mf.decode
  by_cases h1 : (Sl.parse l).code = 0
  · rw [if_neg (not_not_intro h1)]
    by_cases h2 : (Sl.parse l).len = l.length
    · rw [if_neg (not_not_intro h2)]
      by_cases h3 : (Sl.parse l).kind = 3
      · rw [if_neg (not_not_intro h3)]; exact Mf.decP_len _
      · rw [if_pos h3]; exact Nat.zero_le _
    · rw [if_pos h2]; exact Nat.zero_le _
  · rw [if_pos h1]; exact Nat.zero_le _
end Go.Proofs.YtknemjnlcghafaaDoor
