/- Reading numbers one behind the other: the plain function. No conditions but each theorem's own. -/
import Derived.Test.YtffdplmnjlcmnaaDoorPv
namespace Go.Proofs.YtffdplmnjlcmnaaDoor

theorem Sl.varAt_len : ∀ f i v (l : List UInt8), (Sl.varAt f i v l).code = 0 → i < (Sl.varAt f i v l).len ∧ (Sl.varAt f i v l).len ≤ i + l.length
  | 0, _, _, _ => fun h => by simp [Sl.varAt] at h
  | _ + 1, _, _, [] => fun h => by simp [Sl.varAt] at h
  | f + 1, i, v, c :: l => fun h => by
    unfold Sl.varAt at h ⊢
    by_cases h1 : i = 9 ∧ 1 < c.toNat
    · rw [if_pos h1] at h; simp at h
    · rw [if_neg h1] at h ⊢
      by_cases h2 : c.toNat < 128
      · rw [if_pos h2] at h ⊢
        by_cases h3 : c.toNat = 0 ∧ 0 < i
        · rw [if_pos h3] at h; simp at h
        · rw [if_neg h3] at h ⊢
          simp only [List.length_cons]; omega
      · rw [if_neg h2] at h ⊢
        have := Sl.varAt_len f _ _ l h
        simp only [List.length_cons]; omega
theorem Sl.var_len {l : List UInt8} (h : (Sl.var l).code = 0) : 0 < (Sl.var l).len ∧ (Sl.var l).len ≤ l.length := by
  have := Sl.varAt_len 10 0 0 l h
  unfold Sl.var
  omega

/-- What reading numbers gives: a refusal's code, the numbers, the place behind them. -/
structure Mf.Tk where
  code : Nat
  vals : List Nat
  at_ : Nat
/-- The next number behind what has been read. -/
def Mf.tkStep (l : List UInt8) (most : Nat) (T : Mf.Tk) : Mf.Tk :=
  if ¬ T.code = 0 then ⟨T.code, [], 0⟩
  else if ¬ (Sl.var (l.drop T.at_)).code = 0 then ⟨(Sl.var (l.drop T.at_)).code, [], 0⟩
  else if most < (Sl.var (l.drop T.at_)).val then ⟨80, [], 0⟩
  else ⟨0, T.vals ++ [(Sl.var (l.drop T.at_)).val], T.at_ + (Sl.var (l.drop T.at_)).len⟩
/-- n numbers from a place on, each at most so great; c: refused already. -/
def Mf.take (l : List UInt8) (most c a : Nat) : Nat → Mf.Tk
  | 0 => ⟨c, [], a⟩
  | k + 1 => Mf.tkStep l most (Mf.take l most c a k)

theorem Mf.tkStep_bad {l : List UInt8} {most : Nat} {T : Mf.Tk} (h : T.code ≠ 0) : (Mf.tkStep l most T).code = T.code := by unfold Mf.tkStep; rw [if_pos h]
theorem Mf.take_bad {l : List UInt8} {most c a k : Nat} (h : (Mf.take l most c a k).code ≠ 0) : ∀ j, (Mf.take l most c a (k + j)).code = (Mf.take l most c a k).code
  | 0 => rfl
  | j + 1 => by
    rw [← Nat.add_assoc, Mf.take]
    have := Mf.take_bad h j
    rw [Mf.tkStep_bad (by rw [this]; exact h), this]
theorem Mf.take_fine {l : List UInt8} {most c a : Nat} : ∀ {k : Nat}, (Mf.take l most c a k).code = 0 → ∀ j, j ≤ k → (Mf.take l most c a j).code = 0 := by
  intro k h j hj
  by_cases e : (Mf.take l most c a j).code = 0
  · exact e
  · have := Mf.take_bad e (k - j)
    rw [show j + (k - j) = k by omega, h] at this
    exact this.symm
/-- Fine so far: as many numbers, none too great, the place within. -/
theorem Mf.take_ok {l : List UInt8} {most c a : Nat} (ha : a ≤ l.length) : ∀ {k : Nat}, (Mf.take l most c a k).code = 0 → (Mf.take l most c a k).vals.length = k ∧ (∀ v ∈ (Mf.take l most c a k).vals, v ≤ most) ∧ a ≤ (Mf.take l most c a k).at_ ∧ (Mf.take l most c a k).at_ ≤ l.length
  | 0 => fun _ => ⟨rfl, fun v hv => by simp [Mf.take] at hv, Nat.le_refl _, ha⟩
  | k + 1 => fun h => by
    have h0 := Mf.take_fine h k (by omega)
    obtain ⟨i1, i2, i3, i4⟩ := Mf.take_ok ha h0
    rw [Mf.take] at h ⊢
    unfold Mf.tkStep at h ⊢
    rw [if_neg (by simpa using h0)] at h ⊢
    by_cases h1 : (Sl.var (l.drop (Mf.take l most c a k).at_)).code = 0
    · rw [if_neg (by simpa using h1)] at h ⊢
      by_cases h2 : most < (Sl.var (l.drop (Mf.take l most c a k).at_)).val
      · rw [if_pos h2] at h; simp at h
      · rw [if_neg h2]
        have := Sl.var_len h1
        rw [List.length_drop] at this
        refine ⟨by simp [i1], fun v hv => ?_, by show a ≤ _ + _; omega, by show _ + _ ≤ l.length; omega⟩
        rcases List.mem_append.1 hv with hv | hv
        · exact i2 v hv
        · simp only [List.mem_singleton] at hv; omega
    · rw [if_pos h1] at h; simp at h; exact absurd h h1

/-- Reading on. -/
theorem Mf.take_add {l : List UInt8} {most c a j : Nat} (h : (Mf.take l most c a j).code = 0) : ∀ k, (Mf.take l most c a (j + k)).code = (Mf.take l most 0 (Mf.take l most c a j).at_ k).code ∧
    ((Mf.take l most c a (j + k)).code = 0 → (Mf.take l most c a (j + k)).vals = (Mf.take l most c a j).vals ++ (Mf.take l most 0 (Mf.take l most c a j).at_ k).vals ∧ (Mf.take l most c a (j + k)).at_ = (Mf.take l most 0 (Mf.take l most c a j).at_ k).at_)
  | 0 => ⟨h, fun _ => ⟨by simp [Mf.take], rfl⟩⟩
  | k + 1 => by
    obtain ⟨e1, e2⟩ := Mf.take_add h k
    rw [← Nat.add_assoc, Mf.take, Mf.take]
    generalize Mf.take l most c a (j + k) = X at *
    generalize Mf.take l most 0 (Mf.take l most c a j).at_ k = Y at *
    unfold Mf.tkStep
    by_cases hx : X.code = 0
    · obtain ⟨f1, f2⟩ := e2 hx
      have hy : Y.code = 0 := e1 ▸ hx
      rw [f2]
      by_cases q1 : (Sl.var (l.drop Y.at_)).code = 0
      · by_cases q2 : most < (Sl.var (l.drop Y.at_)).val
        · simp only [hx, hy, q1, q2, not_true_eq_false, if_true, if_false]
          exact ⟨trivial, fun hc => by cases hc⟩
        · simp only [hx, hy, q1, q2, not_true_eq_false, if_true, if_false]
          exact ⟨trivial, fun _ => ⟨by rw [f1, List.append_assoc], trivial⟩⟩
      · simp only [hx, hy, q1, not_true_eq_false, not_false_eq_true, if_true, if_false]
        exact ⟨trivial, fun hc => hc.elim⟩
    · rw [if_pos hx, if_pos (e1 ▸ hx)]
      exact ⟨e1, fun hc => absurd hc hx⟩
end Go.Proofs.YtffdplmnjlcmnaaDoor
