/- Rows of hits, sets of hits in memory. Conditions: each theorem's own hypotheses. -/
import Derived.Test.YtlfeibaghfcpaaaDoorHpD
import Derived.Test.YtlfeibaghfcpaaaDoorBkB
import Derived.DeepKeys4
import Derived.Maps.OwnSet
namespace Go.Proofs.YtlfeibaghfcpaaaDoor
open Go.RowKit Go.Maps
set_option linter.unusedVariables false
set_option linter.unusedSimpArgs false

theorem Hp.cs_get : ∀ (F : List Pb.H) (j : Nat) (h : Pb.H), F[j]? = some h → (Hp.cs F)[j * 3]? = some (.int .i64 h.d) ∧ (Hp.cs F)[j * 3 + 1]? = some (.int .i64 h.id) ∧ (Hp.cs F)[j * 3 + 2]? = some (Tx.v h.c)
  | [], _, _, e => by simp at e
  | x :: F, 0, h, e => by
    have e' : x = h := by simpa using e
    subst e'
    exact ⟨rfl, rfl, rfl⟩
  | x :: F, j + 1, h, e => by
    have ih := Hp.cs_get F j h (by simpa using e)
    have e1 : Hp.cs (x :: F) = .int .i64 x.d :: .int .i64 x.id :: Tx.v x.c :: Hp.cs F := rfl
    rw [e1, show (j + 1) * 3 = j * 3 + 3 by omega]
    exact ih
theorem Hp.cs_set : ∀ (F : List Pb.H) (j : Nat) (h : Pb.H), Hp.cs (F.set j h) = (((Hp.cs F).set (j * 3) (.int .i64 h.d)).set (j * 3 + 1) (.int .i64 h.id)).set (j * 3 + 2) (Tx.v h.c)
  | [], _, _ => rfl
  | x :: F, 0, h => rfl
  | x :: F, j + 1, h => by
    have ih := Hp.cs_set F j h
    have e1 : ∀ (x : Pb.H) F, Hp.cs (x :: F) = .int .i64 x.d :: .int .i64 x.id :: Tx.v x.c :: Hp.cs F := fun _ _ => rfl
    rw [List.set_cons_succ, e1, e1, ih, show (j + 1) * 3 = j * 3 + 3 by omega]
    rfl
theorem Hp.cs_take : ∀ (F : List Pb.H) (j : Nat), (Hp.cs F).take (j * 3) = Hp.cs (F.take j)
  | [], j => by simp [Hp.cs]
  | x :: F, 0 => by simp [Hp.cs]
  | x :: F, j + 1 => by
    have e1 : ∀ (x : Pb.H) F, Hp.cs (x :: F) = .int .i64 x.d :: .int .i64 x.id :: Tx.v x.c :: Hp.cs F := fun _ _ => rfl
    rw [List.take_succ_cons, e1, e1, ← Hp.cs_take F j, show (j + 1) * 3 = j * 3 + 3 by omega]
    rfl
theorem Hp.row3 {w : World} {B g n cap : Nat} {C : List Pb.H} (h : w.ownsRow B 50 3 (.slice (some ⟨g, 0, none⟩) n cap) n (Hp.cs C)) {j : Nat} {x : Pb.H} (hj : C[j]? = some x) :
    w.cell? ⟨g, j * 3, none⟩ = some (.int .i64 x.d) ∧ w.cell? ⟨g, j * 3 + 1, none⟩ = some (.int .i64 x.id) ∧ w.cell? ⟨g, j * 3 + 2, none⟩ = some (Tx.v x.c) := by
  obtain ⟨a, b, c⟩ := Hp.cs_get C j x hj
  have hn : C.length = n := by have := h.1; rw [Hp.cs_len] at this; omega
  have hjl : j < C.length := by
    rcases Nat.lt_or_ge j C.length with h | h
    · exact h
    · rw [List.getElem?_eq_none h] at hj; cases hj
  exact ⟨(h.cellAt _ (by omega)).trans a, (h.cellAt _ (by omega)).trans b, (h.cellAt _ (by omega)).trans c⟩
theorem Hp.row_put {w : World} {B g n cap : Nat} {C : List Pb.H} (h : w.ownsRow B 50 3 (.slice (some ⟨g, 0, none⟩) n cap) n (Hp.cs C)) (j : Nat) (x : Pb.H) :
    (((w.setCell ⟨g, j * 3, none⟩ (.int .i64 x.d)).setCell ⟨g, j * 3 + 1, none⟩ (.int .i64 x.id)).setCell ⟨g, j * 3 + 2, none⟩ (Tx.v x.c)).ownsRow B 50 3 (.slice (some ⟨g, 0, none⟩) n cap) n (Hp.cs (C.set j x)) ∧
      w.grownBy (((w.setCell ⟨g, j * 3, none⟩ (.int .i64 x.d)).setCell ⟨g, j * 3 + 1, none⟩ (.int .i64 x.id)).setCell ⟨g, j * 3 + 2, none⟩ (Tx.v x.c)) (some g) := by
  obtain ⟨a1, b1⟩ := h.stored (j * 3) (.int .i64 x.d)
  obtain ⟨a2, b2⟩ := a1.stored (j * 3 + 1) (.int .i64 x.id)
  obtain ⟨a3, b3⟩ := a2.stored (j * 3 + 2) (Tx.v x.c)
  rw [Hp.cs_set]
  exact ⟨a3, (b1.trans b2).trans b3⟩
theorem Hp.hitInfo : (Tryd.prog.info? 50).map (fun i => (i.zero, i.size, i.bytes)) = some (some (.agg #[.int .i64 0, .int .i64 0, .string ⟨#[]⟩]), 3, 32) := by kernel_rfl

/-- Hits as keys. -/
theorem Hp.laidOut : laidOutB Tryd.prog = true := by kernel_rfl
theorem Hp.hitKey : Keyed Tryd.prog 50 := Keyed.of_law (deep_law_laid Hp.laidOut (m := 2) (by omega) (of_decide_eq_true (by kernel_rfl)) (by kernel_rfl) (by kernel_rfl))
def Hp.Ok (h : Pb.H) : Prop := (Lit.int .i64 h.d).wf = true ∧ (Lit.int .i64 h.id).wf = true ∧ h.c.length ≤ maxLen
def Hp.key (h : Pb.H) : Lit := .string (keyBytes [.int .i64 h.d, .int .i64 h.id, .string h.c])
theorem Hp.keyOf_hit (h : Pb.H) (ok : Hp.Ok h) : keyOf Tryd.prog 50 (.agg (Hp.enc h).toArray) = some (Hp.key h) := by
  obtain ⟨d, id, c⟩ := h
  obtain ⟨h1, h2, h3⟩ := ok
  simp only at h1 h2 h3
  have e1 : Tryd.prog.keyType 50 = true := by kernel_rfl
  obtain ⟨k, hk⟩ : ∃ k, Tryd.prog.types.size + 1 = k + 2 := ⟨Tryd.prog.types.size - 1, by have : 2 ≤ Tryd.prog.types.size := of_decide_eq_true (by kernel_rfl); omega⟩
  have hz : Tryd.prog.cellsOf 50 = 3 := by kernel_rfl
  have hzi : Tryd.prog.cellsOf 3 = 1 := by kernel_rfl
  have hzs : Tryd.prog.cellsOf 9 = 1 := by kernel_rfl
  have hsz : (⟨c.toArray⟩ : ByteArray).size ≤ maxLen := by simpa [ByteArray.size] using h3
  unfold keyOf Hp.enc Hp.key Tx.v
  simp only [Tryd.underlying50, e1, hk]
  simp [Value.formed, Tryd.underlying50, Tryd.underlying3, Tryd.underlying9, hz, hzi, hzs, Program.keyLits, Value.cells, h1, h2, hsz]
theorem Hp.key_inj {a b : Pb.H} (ha : Hp.Ok a) (hb : Hp.Ok b) (h : Hp.key a = Hp.key b) : a = b := by
  have h1 := Hp.keyOf_hit a ha
  have h2 := Hp.keyOf_hit b hb
  rw [h] at h1
  have := Hp.hitKey.inj h1 h2
  unfold Hp.enc Tx.v at this
  cases a; cases b
  simp at this
  simp_all
end Go.Proofs.YtlfeibaghfcpaaaDoor
