/- What a crash leaves of a journal's file: a beginning, and a rest that is no frame. The plain laws. No conditions but each theorem's own. -/
import Derived.Test.YthhkebkpophkiaaDoorJlG
import Derived.Test.YthhkebkpophkiaaDoorMkA
import Derived.Test.YthhkebkpophkiaaDoorDkBB
namespace Go.Proofs.YthhkebkpophkiaaDoor
open Go.RowKit
set_option linter.unusedVariables false

/-- A frame's beginning with its last byte changed is no frame, unless it is that very frame. -/
theorem Jl.parse_spoilt (k : Nat) (p : List UInt8) (hk : 1 ≤ k ∧ k ≤ 255) (hp : p.length ≤ 65536) (n : Nat) (hn : 1 ≤ n ∧ n ≤ (Sl.frame k p).length) (c' : UInt8) (h : (Sl.parse ((Sl.frame k p).take (n - 1) ++ [c'])).code = 0) :
    (Sl.frame k p).take (n - 1) ++ [c'] = Sl.frame k p := by
  obtain ⟨a, ha⟩ : ∃ a, (Sl.frame k p).take (n - 1) ++ [c'] = a := ⟨_, rfl⟩
  have hal : a.length = n := by rw [← ha, List.length_append, List.length_take, List.length_singleton]; omega
  have ha' := ha
  rw [ha] at h ⊢
  obtain ⟨R, hR⟩ : ∃ R, Sl.parse a = R := ⟨_, rfl⟩
  rw [hR] at h
  obtain ⟨cc, k', q, m⟩ := R
  obtain rfl : cc = 0 := h
  obtain ⟨f1, f2, f3, f4, f5, f6⟩ := Sl.frame_parse a k' m q hR
  have hfl := Sl.frame_len k p
  have t1 : a.take 6 = Sl.head k p.length := by
    rw [← ha, List.take_append_of_le_length (by rw [List.length_take]; omega), List.take_take, Nat.min_eq_left (by omega), Sl.frame_six]
  have t2 : a.take 6 = Sl.head k' q.length := by
    rw [f6, List.take_append_of_le_length (by rw [Sl.frame_len]; omega), Sl.frame_six]
  have e := t1.symm.trans t2
  have hkk : k = k' := by
    unfold Sl.head at e
    injection e with _ e
    injection e with e _
    have := congrArg UInt8.toNat e
    rw [Sl.ofNat_toNat _ (by omega), Sl.ofNat_toNat _ (by omega)] at this
    exact this
  subst hkk
  have hlq := Sl.head_inj hp f3 e
  have hnm : n = m := by omega
  have hd : a.drop m = [] := List.drop_eq_nil_of_le (by omega)
  rw [hd, List.append_nil] at f6
  obtain ⟨c, hc⟩ : ∃ c, (Sl.frame k p)[n - 1]? = some c := ⟨_, List.getElem?_eq_getElem (by omega)⟩
  have hfr : Sl.frame k p = (Sl.frame k p).take (n - 1) ++ c :: [] := by
    have h1 := (List.take_append_drop (n - 1) (Sl.frame k p)).symm
    have h2 : (Sl.frame k p).drop (n - 1) = [c] := by
      rw [List.drop_eq_getElem_cons (by omega), List.drop_eq_nil_of_le (by omega)]
      rw [List.getElem?_eq_getElem (by omega)] at hc
      rw [Option.some.inj hc]
    rw [h2] at h1
    exact h1
  have hcc := Sl.frame_one k p q ((Sl.frame k p).take (n - 1)) [] c c' hp f3 hfr (by rw [← f6, ← ha])
  rw [← ha, ← hcc]
  exact hfr.symm
/-- Where a place in a file's bytes lies. -/
theorem Jl.place : ∀ (us : List Jn.Upd) (t : Nat), 1 ≤ t → t ≤ (Jl.bytes us).length → ∃ i u n, us[i]? = some u ∧ 1 ≤ n ∧ n ≤ (Jl.fb u).length ∧ t = (Jl.bytes (us.take i)).length + n
  | [], t, h1, h2 => by
    have : (Jl.bytes []).length = 0 := rfl
    omega
  | u :: us, t, h1, h2 => by
    have e2 : (Jl.bytes (u :: us)).length = (Jl.fb u).length + (Jl.bytes us).length := by
      show (Jl.fb u ++ Jl.bytes us).length = _
      rw [List.length_append]
    by_cases h : t ≤ (Jl.fb u).length
    · exact ⟨0, u, t, rfl, h1, h, by show t = 0 + t; omega⟩
    · obtain ⟨i, v, n, a, b, c, e⟩ := Jl.place us (t - (Jl.fb u).length) (by omega) (by omega)
      refine ⟨i + 1, v, n, a, b, c, ?_⟩
      have e3 : (Jl.bytes ((u :: us).take (i + 1))).length = (Jl.fb u).length + (Jl.bytes (us.take i)).length := by
        show (Jl.fb u ++ Jl.bytes (us.take i)).length = _
        rw [List.length_append]
      omega
theorem Jl.bytes_append (a b : List Jn.Upd) : Jl.bytes (a ++ b) = Jl.bytes a ++ Jl.bytes b := by simp [Jl.bytes]
theorem Jl.bytes_split {us : List Jn.Upd} {i : Nat} {u : Jn.Upd} (h : us[i]? = some u) : Jl.bytes us = Jl.bytes (us.take i) ++ (Jl.fb u ++ Jl.bytes (us.drop (i + 1))) := by
  have hi := (List.getElem?_eq_some_iff.1 h).1
  have e : us = us.take i ++ u :: us.drop (i + 1) := by
    rw [List.getElem?_eq_getElem hi] at h
    rw [← Option.some.inj h, List.getElem_cons_drop, List.take_append_drop]
  have := congrArg Jl.bytes e
  rw [Jl.bytes_append] at this
  exact this
theorem Jl.Rows.take {seq w : Nat} {us : List Jn.Upd} (h : Jl.Rows seq w us) (i : Nat) : Jl.Rows seq w (us.take i) := fun j u hj => by
  rw [List.getElem?_take] at hj
  split at hj
  · exact h j u hj
  · cases hj
theorem Jl.bytes_mono {w : Nat} (hw : w ≤ 1024) {us : List Jn.Upd} (h : ∀ u ∈ us, Jl.Fit w u) {i s : Nat} (hs : s ≤ us.length) (hlt : (Jl.bytes (us.take s)).length < (Jl.bytes (us.take i)).length + (Jl.bytes (us.drop i)).length) (hb : (Jl.bytes (us.take i)).length + 1 ≤ (Jl.bytes (us.take s)).length) : i < s := by
  rcases Nat.lt_or_ge i s with h1 | h1
  · exact h1
  · exfalso
    have e : us.take i = us.take s ++ (us.take i).drop s := by
      have := (List.take_append_drop s (us.take i)).symm
      rwa [List.take_take, Nat.min_eq_left h1] at this
    have := congrArg (fun l => (Jl.bytes l).length) e
    simp only [Jl.bytes_append, List.length_append] at this
    omega
/-- Behind good frames stands what is no frame: it is told as the good ones. -/
theorem Jl.look_junk {seq w : Nat} (hw : w ≤ 1024) {us : List Jn.Upd} (h : Jl.Rows seq w us) (junk : List UInt8) (hj : junk = [] ∨ (Sl.parse junk).code ≠ 0) : Jn.look (Jl.bytes us ++ junk) seq w = some (us, (Jl.bytes us).length) := by
  obtain ⟨f, hf⟩ := Jl.look_rest hw h junk
  rw [hf]
  unfold Jn.told
  rcases hj with rfl | hj
  · rw [if_pos (show ([] : List UInt8).length = 0 from rfl)]
  · split
    · rfl
    · first | rfl | rw [if_pos hj]
/-- What a crash leaves: a beginning with all that was durable, and a rest that is no frame. -/
theorem Jl.crash_data {seq w : Nat} (hw : w ≤ 1024) {us : List Jn.Upd} (h : Jl.Rows seq w us) {s : Nat} (hs : s ≤ us.length) (nm : List UInt8) (c : Dk.Cut) :
    ∃ i junk, s ≤ i ∧ i ≤ us.length ∧ (Dk.leave c ⟨nm, Jl.bytes us, (Jl.bytes (us.take s)).length⟩).data = Jl.bytes (us.take i) ++ junk ∧ (junk = [] ∨ (Sl.parse junk).code ≠ 0) := by
  have hsl : Jl.bytes us = Jl.bytes (us.take s) ++ Jl.bytes (us.drop s) := by rw [← Jl.bytes_append, List.take_append_drop]
  unfold Dk.leave
  simp only
  by_cases hk : 0 < Dk.kept c ⟨nm, Jl.bytes us, (Jl.bytes (us.take s)).length⟩
  rotate_left
  · rw [if_neg hk]
    refine ⟨s, [], Nat.le_refl _, hs, ?_, .inl rfl⟩
    have h0 : Dk.kept c ⟨nm, Jl.bytes us, (Jl.bytes (us.take s)).length⟩ = 0 := by omega
    rw [h0, Nat.add_zero, List.append_nil]
    conv => lhs; rw [hsl]
    rw [List.take_left' rfl]
  · rw [if_pos hk]
    have hle : Dk.kept c ⟨nm, Jl.bytes us, (Jl.bytes (us.take s)).length⟩ ≤ (Jl.bytes us).length - (Jl.bytes (us.take s)).length := by unfold Dk.kept; exact Nat.min_le_right _ _
    have hsum : (Jl.bytes us).length = (Jl.bytes (us.take s)).length + (Jl.bytes (us.drop s)).length := by
      have := congrArg List.length hsl
      rwa [List.length_append] at this
    obtain ⟨t, ht⟩ : ∃ t, (Jl.bytes (us.take s)).length + Dk.kept c ⟨nm, Jl.bytes us, (Jl.bytes (us.take s)).length⟩ = t := ⟨_, rfl⟩
    rw [ht]
    obtain ⟨i, u, n, hu, hn1, hn2, htn⟩ := Jl.place us t (by omega) (by omega)
    have hi := (List.getElem?_eq_some_iff.1 hu).1
    have hfit := (h i u hu).1
    have hsi : s ≤ i := by
      rcases Nat.lt_or_ge i s with h1 | h1
      · exfalso
        have e : us.take s = us.take i ++ u :: (us.take s).drop (i + 1) := by
          have hx : (us.take s)[i]? = some u := by rw [List.getElem?_take, if_pos h1]; exact hu
          have hxl := (List.getElem?_eq_some_iff.1 hx).1
          have := (List.take_append_drop i (us.take s)).symm
          rw [List.take_take, Nat.min_eq_left (by omega), List.drop_eq_getElem_cons hxl] at this
          rw [List.getElem?_eq_getElem hxl] at hx
          rwa [Option.some.inj hx] at this
        have := congrArg (fun l => (Jl.bytes l).length) e
        rw [Jl.bytes_append] at this
        have e4 : (Jl.bytes (u :: (us.take s).drop (i + 1))).length = (Jl.fb u).length + (Jl.bytes ((us.take s).drop (i + 1))).length := by
          show (Jl.fb u ++ Jl.bytes ((us.take s).drop (i + 1))).length = _
          rw [List.length_append]
        rw [List.length_append, e4] at this
        omega
      · exact h1
    have hsp := Jl.bytes_split hu
    have htk : (Jl.bytes us).take t = Jl.bytes (us.take i) ++ (Jl.fb u).take n := by
      rw [hsp, htn, List.take_append, List.take_of_length_le (by omega), Nat.add_sub_cancel_left, List.take_append_of_le_length hn2]
    obtain ⟨b0, hb0⟩ : ∃ b0, (Jl.fb u)[n - 1]? = some b0 := ⟨_, List.getElem?_eq_getElem (by omega)⟩
    have htn1 : (Jl.fb u).take n = (Jl.fb u).take (n - 1) ++ [b0] := by
      have e : (Jl.fb u).take (n - 1 + 1) = (Jl.fb u).take (n - 1) ++ (Jl.fb u)[n - 1]?.toList := List.take_add_one
      rw [hb0, Nat.sub_add_cancel hn1] at e
      exact e
    obtain ⟨A, hA⟩ : ∃ A, Jl.bytes (us.take i) ++ (Jl.fb u).take (n - 1) = A := ⟨_, rfl⟩
    have hturn : Dk.turn ((Jl.bytes us).take t) c.spoil = A ++ [b0 ^^^ c.spoil] := by
      rw [htk, htn1, ← List.append_assoc, hA]
      unfold Dk.turn
      have hl : (A ++ [b0]).length - 1 = A.length := by rw [List.length_append]; simp
      rw [hl, List.getD_eq_getElem?_getD, List.getElem?_append_right (Nat.le_refl _), Nat.sub_self]
      rw [List.set_append_right _ _ (Nat.le_refl _), Nat.sub_self]
      rfl
    rw [hturn, ← hA, List.append_assoc]
    by_cases hc : (Sl.parse ((Jl.fb u).take (n - 1) ++ [b0 ^^^ c.spoil])).code = 0
    · have hk2 : u.kind = 1 ∨ u.kind = 2 := by rcases hfit.code with ⟨a, _⟩ | ⟨a, _⟩ <;> omega
      have h1 := Jl.putVar_len u.seq
      have h2 := Jl.putVar_len u.id
      have h3 := hfit.code_len hw
      have hfull := Jl.parse_spoilt u.kind _ (by omega) (by rw [List.length_append, List.length_append]; omega) n ⟨hn1, hn2⟩ _ hc
      refine ⟨i + 1, [], by omega, by omega, ?_, .inl rfl⟩
      rw [List.append_nil]
      have e5 : us.take (i + 1) = us.take i ++ [u] := by
        rw [List.take_add_one, hu]; rfl
      rw [e5, Jl.bytes_snoc]
      exact congrArg _ hfull
    · exact ⟨i, _, hsi, by omega, rfl, .inr hc⟩
#print axioms Jl.crash_data
end Go.Proofs.YthhkebkpophkiaaDoor
