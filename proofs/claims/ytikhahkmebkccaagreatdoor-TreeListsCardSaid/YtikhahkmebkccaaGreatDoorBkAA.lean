/- What a call does to a tree's numbers. Conditions: each theorem's own hypotheses. -/
import Derived.Test.YtikhahkmebkccaaGreatDoorBkX
namespace Go.Proofs.YtikhahkmebkccaaGreatDoor
open Go.RowKit Go.Maps Go.Sort Go.Shelf
set_option linter.unusedVariables false
set_option linter.unusedSimpArgs false

theorem Bk.live_app (a b : List Bk.N) : Bk.live (a ++ b) = Bk.live a + Bk.live b := by unfold Bk.live; rw [List.filter_append, List.length_append]
theorem Bk.hang_num (l : List Bk.N) (c : List UInt8) : (Bk.hang l c).length = l.length + 1 ∧ Bk.live (Bk.hang l c) = Bk.live l + 1 := by
  obtain ⟨n, h1, _, h2⟩ := Bk.hang_mem l c
  rw [h1, Bk.live_app]
  refine ⟨by simp, ?_⟩
  unfold Bk.live
  simp [h2]
theorem Bk.fold_num : ∀ (cs : List (List UInt8)) (l : List Bk.N), (cs.foldl Bk.hang l).length = l.length + cs.length ∧ Bk.live (cs.foldl Bk.hang l) = Bk.live l + cs.length
  | [], l => ⟨rfl, rfl⟩
  | c :: cs, l => by
    obtain ⟨h1, h2⟩ := Bk.fold_num cs (Bk.hang l c)
    obtain ⟨h3, h4⟩ := Bk.hang_num l c
    rw [List.foldl_cons, h1, h2, h3, h4, List.length_cons]
    omega
theorem Bk.anew_num (l : List Bk.N) : (Bk.anew l).length = Bk.live l ∧ Bk.live (Bk.anew l) = Bk.live l := by
  obtain ⟨h1, h2⟩ := Bk.fold_num (Bk.rising l) []
  have h3 : (Bk.rising l).length = Bk.live l := by rw [(Bk.rising_perm l).length_eq, List.length_map]; rfl
  unfold Bk.anew
  rw [h1, h2, h3]
  simp [Bk.live]
theorem Bk.swept_num (l : List Bk.N) : (Bk.swept l).length ≤ l.length ∧ Bk.live (Bk.swept l) = Bk.live l ∧ (Bk.swept l).length ≤ 2 * Bk.live l + 16 := by
  have := Bk.live_le l
  obtain ⟨h1, h2⟩ := Bk.anew_num l
  unfold Bk.swept
  split
  · rw [h1, h2]; omega
  · omega
theorem Bk.setLive_len (l : List Bk.N) (i : Nat) (b : Bool) : (Bk.setLive l i b).length = l.length := by
  have := congrArg List.length (Bk.setLive_K l i b)
  simpa using this
/-- Never more nodes than twice the codes and 16. -/
def Bk.Slim (T : Bk.T) : Prop := T.l.length ≤ 2 * Bk.live T.l + 16
theorem Bk.add_num (T : Bk.T) (c : List UInt8) (h : Bk.Slim T) : Bk.Slim (Bk.add T c).1 ∧ (Bk.add T c).1.l.length ≤ T.l.length + 1 ∧ (Bk.add T c).1.seen = T.seen ∧ (Bk.add T c).1.w = T.w := by
  unfold Bk.Slim at *
  unfold Bk.add
  split
  · split
    · obtain ⟨h1, h2⟩ := Bk.hang_num T.l c
      refine ⟨?_, ?_, rfl, rfl⟩
      · show (Bk.hang T.l c).length ≤ 2 * Bk.live (Bk.hang T.l c) + 16
        omega
      · exact Nat.le_of_eq h1
    · rename_i i hi
      obtain ⟨n, hn, _⟩ := Bk.find_some hi
      have h1 := Bk.live_setLive (b := true) hn
      have h2 := Bk.setLive_len T.l i true
      refine ⟨?_, ?_, rfl, rfl⟩
      · show (Bk.setLive T.l i true).length ≤ 2 * Bk.live (Bk.setLive T.l i true) + 16
        split at h1 <;> simp at h1 <;> omega
      · show (Bk.setLive T.l i true).length ≤ _
        omega
  · exact ⟨h, by show T.l.length ≤ _; omega, rfl, rfl⟩
theorem Bk.drop_num (T : Bk.T) (c : List UInt8) (h : Bk.Slim T) : Bk.Slim (Bk.drop T c).1 ∧ (Bk.drop T c).1.l.length ≤ T.l.length ∧ (Bk.drop T c).1.seen = T.seen ∧ (Bk.drop T c).1.w = T.w := by
  unfold Bk.Slim at *
  unfold Bk.drop
  split
  · exact ⟨h, Nat.le_refl _, rfl, rfl⟩
  · rename_i i hi
    split
    · obtain ⟨h1, h2, h3⟩ := Bk.swept_num (Bk.setLive T.l i false)
      have h4 := Bk.setLive_len T.l i false
      refine ⟨?_, ?_, rfl, rfl⟩
      · show (Bk.swept (Bk.setLive T.l i false)).length ≤ 2 * Bk.live (Bk.swept (Bk.setLive T.l i false)) + 16
        omega
      · show (Bk.swept (Bk.setLive T.l i false)).length ≤ _
        omega
    · exact ⟨h, Nat.le_refl _, rfl, rfl⟩
theorem Bk.Good.res_found {T : Bk.T} (h : Bk.Good T.w T.l) (q : List UInt8) (r : List Bk.H → Nat) : (Bk.Res T q r).1.length + T.seen ≤ (Bk.Res T q r).2 := by
  unfold Bk.Res
  split
  · simp
  · have h2 := Bk.found_le T.w T.l q r (T.l.length + 1) 0 ([], T.seen)
    unfold Bk.V
    simpa using h2
/-- What a search looks at. -/
structure Bk.Saw (T T' : Bk.T) (e : Int) (l : List Bk.H) : Prop where
  tl : T'.l = T.l
  tw : T'.w = T.w
  ge : T.seen ≤ T'.seen
  le : T'.seen ≤ T.seen + T.l.length
  none : e ≠ 0 → T'.seen = T.seen
  hits : l.length + T.seen ≤ T'.seen
theorem Bk.Good.saw_within {T : Bk.T} (h : Bk.Good T.w T.l) (q : List UInt8) (n : Int) : Bk.Saw T (Bk.within T q n).1 (Bk.within T q n).2.2 (Bk.within T q n).2.1 := by
  have hz : ∀ e, Bk.Saw T T e [] := fun e => ⟨rfl, rfl, Nat.le_refl _, Nat.le_add_right _ _, fun _ => rfl, by simp⟩
  unfold Bk.within
  split
  · split
    · exact hz _
    · obtain ⟨h1, h2, h3⟩ := h.res_le q fun _ => n.toNat
      have h4 := h.res_found q fun _ => n.toNat
      refine ⟨rfl, rfl, h3, h1, fun e => absurd rfl e, ?_⟩
      have h5 : (Bk.sortH ((Bk.Res T q fun _ => n.toNat).1.filter fun h => decide (h.d ≤ n.toNat))).length ≤ (Bk.Res T q fun _ => n.toNat).1.length := by
        unfold Bk.sortH
        rw [List.length_mergeSort]
        exact List.length_filter_le _ _
      exact Nat.le_trans (Nat.add_le_add_right h5 _) h4
  · exact hz _
theorem Bk.Good.saw_nearest {T : Bk.T} (h : Bk.Good T.w T.l) (q : List UInt8) (n : Int) : Bk.Saw T (Bk.nearest T q n).1 (Bk.nearest T q n).2.2 (Bk.nearest T q n).2.1 := by
  have hz : ∀ e, Bk.Saw T T e [] := fun e => ⟨rfl, rfl, Nat.le_refl _, Nat.le_add_right _ _, fun _ => rfl, by simp⟩
  unfold Bk.nearest
  split
  · split
    · exact hz _
    · split
      · exact hz _
      · obtain ⟨h1, h2, h3⟩ := h.res_le q fun F => Bk.down n.toNat F T.w
        have h4 := h.res_found q fun F => Bk.down n.toNat F T.w
        refine ⟨rfl, rfl, h3, h1, fun e => absurd rfl e, ?_⟩
        have h5 : (Bk.sortH ((Bk.Res T q fun F => Bk.down n.toNat F T.w).1.filter fun h => decide (h.d ≤ Bk.down n.toNat (Bk.Res T q fun F => Bk.down n.toNat F T.w).1 T.w))).length ≤ (Bk.Res T q fun F => Bk.down n.toNat F T.w).1.length := by
          unfold Bk.sortH
          rw [List.length_mergeSort]
          exact List.length_filter_le _ _
        exact Nat.le_trans (Nat.add_le_add_right h5 _) h4
  · exact hz _
/-- A call's numbers. -/
structure Bk.Num (T : Bk.T) (R : Bk.T × Bk.G) (k : Int) : Prop where
  good : Bk.Good R.1.w R.1.l
  w : R.1.w = T.w
  slim : Bk.Slim R.1
  len : R.1.l.length ≤ T.l.length + 1
  ge : T.seen ≤ R.1.seen
  le : R.1.seen ≤ T.seen + R.1.l.length
  still : ¬ ((k = 4 ∨ k = 5) ∧ R.2.e = 0) → R.1.seen = T.seen
  hits : R.2.l.length + T.seen ≤ R.1.seen
theorem Bk.Good.num {T : Bk.T} (h : Bk.Good T.w T.l) (hs : Bk.Slim T) (k : Int) (c : List UInt8) (n : Int) : Bk.Num T (Bk.run T k c n) k := by
  have hz : ∀ g : Bk.G, g.l = [] → Bk.Num T (T, g) k := fun g hg => ⟨h, rfl, hs, Nat.le_succ _, Nat.le_refl _, Nat.le_add_right _ _, fun _ => rfl, by rw [hg]; simp⟩
  unfold Bk.run
  split
  · obtain ⟨a1, a2, a3, a4⟩ := Bk.add_num T c hs
    have hg := h.add c
    exact ⟨by rw [hg.2]; exact hg.1, a4, a1, a2, Nat.le_of_eq a3.symm, by rw [a3]; exact Nat.le_add_right _ _, fun _ => a3, by rw [a3]; simp⟩
  split
  · obtain ⟨a1, a2, a3, a4⟩ := Bk.drop_num T c hs
    have hg := h.drop c
    exact ⟨by rw [hg.2]; exact hg.1, a4, a1, Nat.le_succ_of_le a2, Nat.le_of_eq a3.symm, by rw [a3]; exact Nat.le_add_right _ _, fun _ => a3, by rw [a3]; simp⟩
  split
  · exact hz _ rfl
  split
  · rename_i hk
    obtain ⟨s1, s2, s3, s4, s5, s6⟩ := h.saw_within c n
    exact ⟨by rw [s1, s2]; exact h, s2, by unfold Bk.Slim at *; rw [s1]; exact hs, by rw [s1]; exact Nat.le_succ _, s3, by rw [s1]; exact s4, fun hn => s5 fun e => hn ⟨.inl hk, e⟩, s6⟩
  split
  · rename_i hk
    obtain ⟨s1, s2, s3, s4, s5, s6⟩ := h.saw_nearest c n
    exact ⟨by rw [s1, s2]; exact h, s2, by unfold Bk.Slim at *; rw [s1]; exact hs, by rw [s1]; exact Nat.le_succ _, s3, by rw [s1]; exact s4, fun hn => s5 fun e => hn ⟨.inr hk, e⟩, s6⟩
  split
  · exact hz _ rfl
  · exact hz _ rfl
theorem Bk.depth_zero (l : List Bk.N) : Bk.depth (Bk.os l) = 0 ↔ l.length = 0 := by
  constructor
  · intro h
    rcases List.eq_nil_or_concat l with rfl | ⟨l', n, rfl⟩
    · rfl
    · exfalso
      rw [List.concat_eq_append] at h
      have h1 : Bk.os (l' ++ [n]) = Bk.os l' ++ [n.over] := by simp [Bk.os]
      rw [h1, Bk.depth_snoc] at h
      have h2 := Nat.le_max_right (Bk.depth (Bk.os l')) (if n.over < 0 then 1 else (Bk.deeps (Bk.os l')).getD n.over.toNat 0 + 1)
      rw [h] at h2
      split at h2 <;> omega
  · intro h
    rw [List.length_eq_zero_iff.1 h]; rfl
theorem Bk.w64_sub {a b : Nat} (h1 : a ≤ b) (h2 : b ≤ a + 4398046511104) : IntKind.i64.wrap (Bk.w64 b - Bk.w64 a) = ((b - a : Nat) : Int) := by
  unfold Bk.w64
  rw [Bk.wrap_if (a : Int), Bk.wrap_if (b : Int)]
  by_cases h3 : 9223372036854775808 ≤ (a : Int) % 18446744073709551616
  · rw [if_pos h3]
    by_cases h4 : 9223372036854775808 ≤ (b : Int) % 18446744073709551616
    · rw [if_pos h4, Bk.wrap_if]
      split <;> omega
    · rw [if_neg h4, Bk.wrap_if]
      split <;> omega
  · rw [if_neg h3]
    by_cases h4 : 9223372036854775808 ≤ (b : Int) % 18446744073709551616
    · rw [if_pos h4, Bk.wrap_if]
      split <;> omega
    · rw [if_neg h4, Bk.wrap_if]
      split <;> omega
end Go.Proofs.YtikhahkmebkccaaGreatDoor
