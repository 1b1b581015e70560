/- Contract of the law's scan. Conditions: each theorem's own hypotheses. -/
import Derived.Test.YtikhahkmebkccaaGreatDoorBkAF
import Derived.Sort.Walk0
namespace Go.Proofs.YtikhahkmebkccaaGreatDoor
open Go.RowKit Go.Maps Go.Sort Go.Shelf
set_option linter.unusedVariables false
set_option linter.unusedSimpArgs false

/-- What scan answers. -/
def Bk.scanL (l : List (List UInt8)) (q : List UInt8) (r : Nat) : List Bk.H := Bk.sortH ((l.map (Bk.hitC q)).filter fun x => decide (x.d ≤ r))
theorem Bk.scan_skip {l : List (List UInt8)} {q c : List UInt8} {r : Nat} (h : ¬ Bk.far c q ≤ r) : Bk.scanL (l ++ [c]) q r = Bk.scanL l q r := by
  unfold Bk.scanL
  rw [List.map_append, List.filter_append]
  simp [Bk.hitC, h]
theorem Bk.scan_put {l : List (List UInt8)} {q c : List UInt8} {r k : Nat} (h : Bk.far c q ≤ r) (hk : k ≤ (Bk.scanL l q r).length) (h1 : ∀ y, (Bk.scanL l q r)[k - 1]? = some y → k = 0 ∨ Bk.leH y (Bk.hitC q c) = true) (h2 : ∀ y ∈ (Bk.scanL l q r).drop k, Bk.leH y (Bk.hitC q c) = false) :
    Bk.scanL (l ++ [c]) q r = (Bk.scanL l q r).take k ++ [Bk.hitC q c] ++ (Bk.scanL l q r).drop k := by
  have hs := Bk.sortH_sorted ((l.map (Bk.hitC q)).filter fun x => decide (x.d ≤ r))
  have hp : (Bk.scanL l q r).Perm ((l.map (Bk.hitC q)).filter fun x => decide (x.d ≤ r)) := Bk.sortH_is _
  have hs' : (Bk.scanL l q r).Pairwise fun a b => Bk.leH a b = true := hs
  have e1 : Bk.scanL (l ++ [c]) q r = Bk.sortH (((l.map (Bk.hitC q)).filter fun x => decide (x.d ≤ r)) ++ [Bk.hitC q c]) := by
    unfold Bk.scanL
    rw [List.map_append, List.filter_append]
    simp [Bk.hitC, h]
  rw [e1]
  generalize Bk.scanL l q r = S at hk h1 h2 hp hs' ⊢
  have hta : ∀ a ∈ S.take k, Bk.leH a (Bk.hitC q c) = true := by
    intro a ha
    obtain ⟨i, hi⟩ := List.getElem?_of_mem ha
    have hik : i < k ∧ i < S.length := by
      have := (List.getElem?_eq_some_iff.1 hi).1
      rw [List.length_take] at this
      omega
    rw [List.getElem?_take_of_lt hik.1] at hi
    by_cases hkl : k - 1 < S.length
    · have hy : S[k - 1]? = some S[k - 1] := List.getElem?_eq_getElem hkl
      rcases h1 _ hy with h3 | h3
      · omega
      · by_cases hie : i = k - 1
        · subst hie
          rw [hi] at hy
          rw [Option.some.inj hy]
          exact h3
        · refine Bk.leH_trans _ _ _ ?_ h3
          rw [List.getElem?_eq_getElem hik.2] at hi
          rw [← Option.some.inj hi]
          exact (List.pairwise_iff_getElem.1 hs') i (k - 1) hik.2 hkl (by omega)
    · omega
  refine Bk.sorted_one (Bk.sortH_sorted _) ?_ ((Bk.sortH_is _).trans ?_)
  · rw [List.append_assoc, List.pairwise_append]
    refine ⟨hs'.sublist (List.take_sublist _ _), ?_, ?_⟩
    · rw [List.singleton_append, List.pairwise_cons]
      refine ⟨fun y hy => ?_, hs'.sublist (List.drop_sublist _ _)⟩
      have h3 := Bk.leH_total y (Bk.hitC q c)
      rw [h2 y hy, Bool.false_or] at h3
      exact h3
    · intro a ha b hb
      rcases List.mem_append.1 hb with hb | hb
      · rw [List.mem_singleton] at hb
        subst hb
        exact hta a ha
      · have := List.take_append_drop k S
        rw [← this, List.pairwise_append] at hs'
        exact hs'.2.2 a ha b hb
  · refine (hp.symm.append_right _).trans ?_
    have : (S ++ [Bk.hitC q c]).Perm (Bk.hitC q c :: S) := List.perm_append_singleton _ _
    refine this.trans ?_
    rw [List.append_assoc, List.singleton_append]
    conv => lhs; rw [← List.take_append_drop k S]
    exact List.perm_middle.symm
theorem Bk.set_is {C S : List Bk.H} {p n : Nat} {x : Bk.H} (hl : C.length = n + 1) (h1 : C.take p = S.take p) (h2 : C.drop (p + 1) = S.drop p) (hp : p ≤ n) : C.set p x = S.take p ++ [x] ++ S.drop p := by
  rw [List.set_eq_take_append_cons_drop, if_pos (by omega), h1, h2, List.append_assoc, List.singleton_append]
theorem Bk.run_gtr {P : Program} (a b : ByteArray) (t : TypeId) (q : Bool) (hq : decide (a.data.toList ≤ b.data.toList) = !q) (W : World) : (binOp .gtr t (.string a) (.string b)).run P W = .ok (.bool q) W := by
  have h : binOp .gtr t (.string a) (.string b) = pure (.bool !(Op.bytesLess a.toList b.toList || a.toList == b.toList)) := by simp [binOp, Op.stringOp]
  rw [h]
  have e : (Op.bytesLess a.toList b.toList || a.toList == b.toList) = !q := by
    rw [← hq, Tx.beq, bytesLess_eq, ByteArray.toList_eq, ByteArray.toList_eq, Bool.eq_iff_iff]
    simp only [Bool.or_eq_true, decide_eq_true_eq]
    exact (List.le_iff_lt_or_eq).symm
  rw [e, Bool.not_not]
  rfl
/-- Between two rounds of scan's outer loop. -/
def Bk.CR (W : World) (l : List (List UInt8)) (q : List UInt8) (r : Nat) (m : Nat) (vo i : Value) (wr : World) : Prop :=
  ∃ k : Nat, m + k = l.length ∧ i = .int .i64 (k : Nat) ∧ wr.ownsRow W.heap.size 61 3 vo (Bk.scanL (l.take k) q r).length (Bk.hcs (Bk.scanL (l.take k) q r)) ∧ Below W.heap.size W wr
/-- Between two rounds of its inner loop. -/
def Bk.CI (W : World) (S : List Bk.H) (x : Bk.H) (g cap : Nat) (m : Nat) (sk : Value) (wr : World) : Prop :=
  ∃ C : List Bk.H, sk = .int .i64 (m : Nat) ∧ m ≤ S.length ∧ wr.ownsRow W.heap.size 61 3 (.slice (some ⟨g, 0, none⟩) (S.length + 1) cap) (S.length + 1) (Bk.hcs C) ∧ Below W.heap.size W wr ∧ C.length = S.length + 1 ∧ C.take m = S.take m ∧ C.drop (m + 1) = S.drop m ∧ ∀ y ∈ S.drop m, Bk.leH y x = false
end Go.Proofs.YtikhahkmebkccaaGreatDoor
