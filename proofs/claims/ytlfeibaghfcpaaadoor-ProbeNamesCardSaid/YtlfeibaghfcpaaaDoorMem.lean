/- Words for memory: a block known whole, a set of numbers in a map. Conditions: each theorem's own hypotheses. -/
import Derived.Test.YtlfeibaghfcpaaaDoorProg
import Derived.WalkKit
import Derived.Lib.Hide
import Derived.Below
import Derived.Maps.OwnSet
import Derived.Maps.AppendAt
import Derived.Laws.Rows
import Derived.Deep.Draws
namespace Go.Proofs.YtlfeibaghfcpaaaDoor
open Go.RowKit Go.Maps
set_option linter.unusedVariables false

theorem intKey : Keyed Tryd.prog 3 := int_keyed Tryd.underlying3

theorem below_dn {B : Nat} {a w : World} (h : Below B a w) (n : Nat) : Below B a (w.drewN n) := ⟨h.os, h.tape, h.output, h.size, h.block⟩

/-- The set of these numbers. -/
def setL (l : List Int) : DataW Unit := l.foldl (fun D x => D.put (.int .i64 x) (.agg [])) (.map [])
theorem setL_snoc (l : List Int) (x : Int) : setL (l ++ [x]) = (setL l).put (.int .i64 x) (.agg []) := by
  unfold setL
  rw [List.foldl_append]; rfl
theorem has_foldL : ∀ (l : List Int) (D : DataW Unit), IsMap D → ∀ x, Maps.has (l.foldl (fun D x => D.put (.int .i64 x) (.agg [])) D) (.int .i64 x) = (Maps.has D (.int .i64 x) || l.contains x)
  | [], D, _, x => by simp
  | y :: l, D, hD, x => by
    rw [List.foldl_cons, has_foldL l _ (hD.put _ _) x, List.contains_cons]
    by_cases e : x = y
    · subst e
      rw [has_put_same hD (by exact trivial : WideAt.IsKeyLit (Lit.int .i64 x))]
      simp
    · have e1 : (Lit.int .i64 x) ≠ Lit.int .i64 y := fun h => e (by injection h)
      rw [has_put_other e1, beq_eq_false_iff_ne.2 e, Bool.false_or]
theorem has_setL (l : List Int) (x : Int) : Maps.has (setL l) (.int .i64 x) = l.contains x := by
  unfold setL
  rw [has_foldL l _ isMap_empty x]
  rfl

/-- A literal's entry into a map of the call's own. -/
theorem wpList_insert_own {H : Type} {P : Program} (w : World) {ops : Array Oper} {rest : List Oper} {o : Oper} {a : Act} {Q : Exit → Act → World → Prop}
    (hg : o.guard = none) (m x v : Operand) (t : TypeId) (hop : o.op = Op.insert t m x v)
    (k e : TypeId) (K : Keyed P k) (ht : P.underlying t = some (.map k e)) (R : Value → Option (DataW H × List MemPlace)) (b n : Nat) (D : DataW H)
    (hm : a.eval m = .map (some b)) (hown : w.ownsMap P k R b n D) (hn : n < maxLen) (key val : Value) (kl : Lit) (hx : a.eval x = key) (hv : a.eval v = val) (hkey : keyOf P k key = some kl)
    (d : DataW H) (ps : List MemPlace) (hval : R val = some (d, ps))
    (hK : ∀ w', w'.ownsMap P k R b (n + 1) (D.put kl d) → w.grownBy w' (some b) → wpList P ops Q rest (a.put o.dst undef) w') :
    wpList P ops Q (o :: rest) a w := by
  refine wpList_plain hg fun K' hK' => ?_
  obtain ⟨w', hrun, r1, r2⟩ := hown.update K ht hn hkey hval
  unfold Oper.wp
  simp [execOp, hop, hm, hx, hv, hrun, Result.andThen]
  exact hK' _ _ (hK w' r1 r2)

/-- A block that is known whole. -/
def Blk (w : World) (g : Nat) (t : TypeId) (cs : Array Value) : Prop := w.heap[g]? = some (.cells cs t (0, 0))
theorem Blk.lt {w : World} {g : Nat} {t : TypeId} {cs : Array Value} (h : Blk w g t cs) : g < w.heap.size := by
  rcases Nat.lt_or_ge g w.heap.size with hlt | hge
  · exact hlt
  · unfold Blk at h; rw [Array.getElem?_eq_none hge] at h; cases h
theorem Blk.cell {w : World} {g : Nat} {t : TypeId} {cs : Array Value} (h : Blk w g t cs) (i : Nat) : w.cell? ⟨g, i, none⟩ = cs[i]? := cell_of_row w g i cs t (0, 0) h
theorem Blk.frozen {w : World} {g : Nat} {t : TypeId} {cs : Array Value} (h : Blk w g t cs) (i : Nat) : w.frozen? ⟨g, i, none⟩ = false := by
  unfold Blk at h
  simp [World.frozen?, h]
theorem Blk.new (w : World) (t : TypeId) (cs : Array Value) : Blk (w.alloc (.cells cs t)) w.heap.size t cs := heap_alloc_new w _
theorem Blk.alloc {w : World} {g : Nat} {t : TypeId} {cs : Array Value} (h : Blk w g t cs) (o : Obj) : Blk (w.alloc o) g t cs := (Below.heap_alloc w o g h.lt).trans h
theorem Blk.set_ {w : World} {g : Nat} {t : TypeId} {cs : Array Value} (h : Blk w g t cs) (i : Nat) (u : Value) : Blk (w.setCell ⟨g, i, none⟩ u) g t (cs.setIfInBounds i u) := by
  unfold Blk at h ⊢
  simp [World.setCell, Array.getElem?_modify, h]
theorem Blk.far {w : World} {g : Nat} {t : TypeId} {cs : Array Value} (h : Blk w g t cs) {p : Addr} (hp : g ≠ p.block) (u : Value) : Blk (w.setCell p u) g t cs := (Below.heap_setCell w p u g hp).trans h
theorem Blk.grown {w w' : World} {g : Nat} {t : TypeId} {cs : Array Value} {row : Option Nat} (h : Blk w g t cs) (hb : w.grownBy w' row) (hg : some g ≠ row) : Blk w' g t cs := (hb.block g h.lt hg).trans h

end Go.Proofs.YtlfeibaghfcpaaaDoor
