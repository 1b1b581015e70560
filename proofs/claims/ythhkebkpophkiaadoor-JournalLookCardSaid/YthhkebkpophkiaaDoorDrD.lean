/- Disks (the document's): Open. Conditions: each theorem's own hypotheses. -/
import Derived.Test.YthhkebkpophkiaaDoorDrC
import Derived.BigQuiet
namespace Go.Proofs.YthhkebkpophkiaaDoor
open Go.RowKit Go.Maps Go.Sort
set_option linter.unusedVariables false

theorem Dk.one_rest {l nm data rest : List UInt8} (h : Dk.one l = some (nm, data, rest)) : rest = l.drop (1 + nm.length + 4 + data.length) := by
  cases l with
  | nil => cases h
  | cons c r =>
    rw [Dk.one_cons] at h
    split at h
    · cases h
    · rename_i h1
      split at h
      · rename_i h2
        injection h with h
        injection h with e1 h
        injection h with e2 e3
        rw [← e3, ← e1, ← e2, List.drop_drop]
        simp only [List.length_take, List.length_drop]
        have := h2.2.2
        rw [show 1 + min c.toNat r.length + 4 + min (Dk.num ((r.drop c.toNat).take 4)) (r.length - (c.toNat + 4)) = (c.toNat + 4 + Dk.num ((r.drop c.toNat).take 4)) + 1 from by omega, List.drop_succ_cons]
      · cases h
/-- One file put behind an own row. -/
theorem Dr.Own.cat {w : World} {B : Nat} {v : Value} {l : List Dk.F} (h : Dr.Own w B v l) (f : Dk.F) {g c : Nat} (hc : ∀ j u, (Dr.cellsOf [f])[j]? = some u → w.cell? ((⟨g, 0, none⟩ : Addr).add j) = some u) (hl : l.length ≤ 3000000000) (hB : B ≤ w.heap.size) (ty : TypeId) :
    ∃ v' w', (Builtin.append_ #[74, 74] ty #[v, .slice (some ⟨g, 0, none⟩) 1 c]).run Tryd.prog w = .ok v' w' ∧ Dr.Own w' B v' (l ++ [f]) ∧ w.grownBy w' v.ownBlock := by
  obtain ⟨i, hi, hz0, hz1, hz2⟩ := info_parts Dr.info
  obtain ⟨v', w', h1, h2, h3, _⟩ := run_append_own (P := Tryd.prog) w B 74 ty 89 i _ 3 40 Tryd.underlying74 hi hz0 hz1 hz2 rfl (by decide) v l.length (Dr.cellsOf l) h ⟨g, 0, none⟩ 1 c (Dr.cellsOf [f]) rfl hc (Dr.cellsOf_one _) (by unfold maxLen; omega) (by omega) hB
  refine ⟨v', w', h1, ?_, h3⟩
  unfold Dr.Own
  rw [List.length_append, Dr.cellsOf_append]
  exact h2
theorem Dr.Own.alloc {W : World} {B : Nat} {v : Value} {l : List Dk.F} (h : Dr.Own W B v l) (o : Obj) : Dr.Own (W.alloc o) B v l := h.keep fun k hk => Below.heap_alloc W o k (World.ownsRow.lt h k hk).2
theorem Dr.Own.type {W : World} {B : Nat} {v : Value} {l : List Dk.F} (h : Dr.Own W B v l) {k : Nat} (hk : v.ownBlock = some k) : ∃ cur, W.heap[k]? = some (.cells cur 89 (0, 0)) := by
  rcases h.2 with ⟨rfl, _⟩ | ⟨g, cap, cur, rfl, _, hg, _⟩
  · cases hk
  · injection hk with hk
    subst hk
    exact ⟨_, hg⟩
/-- A file's copy reads as its cells. -/
theorem Dr.news {w : World} {g : Nat} {nm data : List UInt8} {n : Nat} {nb db : ByteArray} (hn : Tx.v nm = .string nb) (hd : Tx.v data = .string db) (hb : Blk w g 89 #[.string nb, .string db, .int .i64 n]) :
    ∀ j u, (Dr.cellsOf [⟨nm, data, n⟩])[j]? = some u → w.cell? ((⟨g, 0, none⟩ : Addr).add j) = some u := by
  have h : Dr.cellsOf [⟨nm, data, n⟩] = #[Value.string nb, .string db, .int .i64 n].toList := by
    show [Tx.v nm, Tx.v data, _] = _
    rw [hn, hd]
  rw [h]
  exact World.news_of_block hb
/-- The load of the list's own cell, under a name. -/
def Dr.o70 : Op := Op.load 74 (Operand.tmp 69)
attribute [go_sem] Dr.o70
/-- What the region of the append reads. -/
def Dr.Four (r t : Nat) (nb db : ByteArray) (n : Nat) (W : World) : Prop := W.frozen? ⟨r, 1, none⟩ = false ∧ W.cell? ⟨t, 0, none⟩ = some (.string nb) ∧ W.cell? ⟨t, 1, none⟩ = some (.string db) ∧ W.cell? ⟨t, 2, none⟩ = some (.int .i64 n)
theorem Dr.Four.keep {r t : Nat} {nb db : ByteArray} {n : Nat} {W W' : World} (h : Dr.Four r t nb db n W) (h1 : W'.heap[r]? = W.heap[r]?) (h2 : W'.heap[t]? = W.heap[t]?) : Dr.Four r t nb db n W' :=
  ⟨(World.frozen?_of_block h1).trans h.1, (World.cell?_of_block h2).trans h.2.1, (World.cell?_of_block h2).trans h.2.2.1, (World.cell?_of_block h2).trans h.2.2.2⟩
theorem Dr.Four.set {r t : Nat} {nb db : ByteArray} {n : Nat} {W : World} (h : Dr.Four r t nb db n W) (hne : t ≠ r) (u : Value) : Dr.Four r t nb db n (W.setCell ⟨r, 1, none⟩ u) :=
  ⟨by rw [World.frozen?_setCell]; exact h.1, (World.cell?_of_block (Below.heap_setCell W _ u _ hne)).trans h.2.1, (World.cell?_of_block (Below.heap_setCell W _ u _ hne)).trans h.2.2.1, (World.cell?_of_block (Below.heap_setCell W _ u _ hne)).trans h.2.2.2⟩
/-- The loop of an opening. -/
structure Dr.OpSt (W wr : World) (r c : Nat) (l : List UInt8) (R : Option (List Dk.F)) (k fu : Nat) (acc : List Dk.F) (v : Value) : Prop where
  text : Dk.scan fu acc (l.drop k) = R
  len : l.length < fu + k
  small : k ≤ l.length
  fine : Dk.Fine acc
  st : Dr.Stand wr r v { Dk.fresh c with files := acc }
  foot : ∀ k, Dr.foot r v k → W.heap.size ≤ k
  below : Below W.heap.size W wr
theorem Dr.OpSt.step {W Y2 w5 : World} {r c : Nat} {l : List UInt8} {R : Option (List Dk.F)} {k2 n : Nat} {acc : List Dk.F} {v v5 : Value} {o : Obj} {nm data : List UInt8}
    (hS : Dr.Stand Y2 r v { Dk.fresh c with files := acc }) (hB : Below W.heap.size W Y2) (hf : ∀ k, Dr.foot r v k → W.heap.size ≤ k)
    (ho : Dr.Own w5 W.heap.size v5 (acc ++ [⟨nm, data, data.length⟩])) (hg : (Y2.drew.alloc o).grownBy w5 v.ownBlock) (hro : some r ≠ v.ownBlock)
    (htext : Dk.scan n (acc ++ [⟨nm, data, data.length⟩]) (l.drop k2) = R) (hlen : l.length < n + k2) (hsm : k2 ≤ l.length) (hfine : Dk.Fine (acc ++ [⟨nm, data, data.length⟩])) :
    Dr.OpSt W (w5.setCell ⟨r, 1, none⟩ v5) r c l R k2 n (acc ++ [⟨nm, data, data.length⟩]) v5 := by
  have hrl := hS.blk.lt
  have hsz : Y2.heap.size + 1 ≤ w5.heap.size := by have := hg.size; simpa using this
  have hb5 : Blk w5 r 76 (Dr.cells v { Dk.fresh c with files := acc }) :=
    (hg.block r (by simp; omega) hro).trans ((Below.heap_alloc Y2.drew o r hrl).trans hS.blk)
  have hnr : ∀ k, v5.ownBlock = some k → k ≠ r := by
    rintro k hk rfl
    obtain ⟨cur, h⟩ := ho.type hk
    unfold Blk at hb5
    rw [hb5] at h
    injection h with h
    injection h with _ h _
    cases h
  refine ⟨htext, hlen, hsm, hfine, ⟨hb5.set_ 1 v5, ?_⟩, ?_, ?_⟩
  · exact (ho.keep fun k hk => Below.heap_setCell w5 ⟨r, 1, none⟩ v5 k (hnr k hk)).base fun _ _ => Nat.zero_le _
  · rintro k (rfl | hk)
    · exact hf _ (.inl rfl)
    · exact (World.ownsRow.lt ho k hk).1
  · have h1 : Below W.heap.size W (Y2.drew.alloc o) := (hB.drew).alloc (by have := hB.size; exact this) o
    have h2 := h1.grown hg (by have := hB.size; simp; omega) fun k hk => hf k (.inr hk)
    exact h2.setCell (hf r (.inl rfl)) v5
def Dr.openV (r : Nat) : Except Int Dk.M → Value
  | .error e => .tuple #[.pointer none, .int .i64 e]
  | .ok _ => .tuple #[.pointer (some ⟨r, 0, none⟩), .int .i64 0]
end Go.Proofs.YthhkebkpophkiaaDoor
