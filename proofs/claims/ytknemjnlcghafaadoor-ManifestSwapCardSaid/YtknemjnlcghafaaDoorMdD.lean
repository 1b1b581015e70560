/- Reading a manifest: the plain function. No conditions but each theorem's own. -/
import Derived.Test.YtknemjnlcghafaaDoorMdA
import Derived.Test.YtknemjnlcghafaaDoorMfA
import Derived.Test.YtknemjnlcghafaaDoorPv
namespace Go.Proofs.YtknemjnlcghafaaDoor
set_option linter.unusedVariables false

theorem parse_len_pay (l : List UInt8) (R : Sl.Parsed) (h : Sl.parse l = R) : R.pay.length ≤ l.length ∧ R.code ≤ 36 := by
  unfold Sl.parse at h
  repeat' split at h
  all_goals subst h
  all_goals simp only [List.length_nil, List.length_take, List.length_drop]
  all_goals omega

/-- The manifest of noughts. -/
def Mf.zero : Man := ⟨0, 0, 0, 0, 0, 0, []⟩
/-- Runs out of numbers, four by four. -/
def Mf.runsOf : List Nat → List Run
  | a :: b :: c :: d :: l => ⟨a, b, c, d⟩ :: Mf.runsOf l
  | _ => []
def Mf.manOf (h v : List Nat) : Man := ⟨h.getD 0 0, h.getD 1 0, h.getD 2 0, h.getD 3 0, h.getD 4 0, h.getD 5 0, Mf.runsOf v⟩
theorem Mf.runsOf_snoc : ∀ (k : Nat) (v : List Nat), v.length = 4 * k → ∀ a b c d, Mf.runsOf (v ++ [a, b, c, d]) = Mf.runsOf v ++ [⟨a, b, c, d⟩]
  | 0, v, h => fun a b c d => by
    obtain rfl := List.eq_nil_of_length_eq_zero (show v.length = 0 by omega)
    rfl
  | k + 1, v, h => fun a b c d => by
    match v, h with
    | x :: y :: z :: u :: v', h =>
      simp only [List.length_cons] at h
      have := Mf.runsOf_snoc k v' (by omega) a b c d
      simp only [List.cons_append, Mf.runsOf, this]
theorem Mf.runsOf_len : ∀ (k : Nat) (v : List Nat), v.length = 4 * k → (Mf.runsOf v).length = k
  | 0, v, h => by
    obtain rfl := List.eq_nil_of_length_eq_zero (show v.length = 0 by omega)
    rfl
  | k + 1, v, h => by
    match v, h with
    | x :: y :: z :: u :: v', h =>
      simp only [List.length_cons] at h
      simp only [Mf.runsOf, List.length_cons, Mf.runsOf_len k v' (by omega)]
theorem Mf.runsOf_mem : ∀ (v : List Nat) (r : Run), r ∈ Mf.runsOf v → ∃ a b c d, a ∈ v ∧ b ∈ v ∧ c ∈ v ∧ d ∈ v ∧ r = ⟨(a : Nat), (b : Nat), (c : Nat), (d : Nat)⟩
  | a :: b :: c :: d :: l, r, h => by
    simp only [Mf.runsOf, List.mem_cons] at h
    rcases h with rfl | h
    · exact ⟨a, b, c, d, by simp, by simp, by simp, by simp, rfl⟩
    · obtain ⟨a', b', c', d', h1, h2, h3, h4, h5⟩ := Mf.runsOf_mem l r h
      exact ⟨a', b', c', d', by simp [h1], by simp [h2], by simp [h3], by simp [h4], h5⟩
  | [], r, h => by simp [Mf.runsOf] at h
  | [_], r, h => by simp [Mf.runsOf] at h
  | [_, _], r, h => by simp [Mf.runsOf] at h
  | [_, _, _], r, h => by simp [Mf.runsOf] at h

/-- What reading a manifest gives: a refusal's code, the manifest. -/
structure Mf.Dec where
  code : Nat
  man : Man
/-- Six numbers, how many runs, the runs' numbers. -/
def Mf.rdH (p : List UInt8) : Mf.Tk := Mf.take p 1152921504606846976 0 0 6
def Mf.rdN (p : List UInt8) : Mf.Tk := Mf.take p 24 (Mf.rdH p).code (Mf.rdH p).at_ 1
def Mf.rdV (p : List UInt8) : Mf.Tk := Mf.take p 1152921504606846976 0 (Mf.rdN p).at_ (4 * (Mf.rdN p).vals.getD 0 0)
/-- Out of a payload. -/
noncomputable def Mf.decP (p : List UInt8) : Mf.Dec :=
  if ¬ (Mf.rdN p).code = 0 then ⟨(Mf.rdN p).code, Mf.zero⟩
  else if ¬ (Mf.rdV p).code = 0 then ⟨(Mf.rdV p).code, Mf.zero⟩
  else if ¬ (Mf.rdV p).at_ = p.length then ⟨37, Mf.zero⟩
  else if ¬ Mf.check (Mf.manOf (Mf.rdH p).vals (Mf.rdV p).vals) = 0 then ⟨Mf.check (Mf.manOf (Mf.rdH p).vals (Mf.rdV p).vals), Mf.zero⟩
  else ⟨0, Mf.manOf (Mf.rdH p).vals (Mf.rdV p).vals⟩
/-- Out of bytes. -/
noncomputable def Mf.decode (l : List UInt8) : Mf.Dec :=
  if ¬ (Sl.parse l).code = 0 then ⟨(Sl.parse l).code, Mf.zero⟩
  else if ¬ (Sl.parse l).len = l.length then ⟨37, Mf.zero⟩
  else if ¬ (Sl.parse l).kind = 3 then ⟨35, Mf.zero⟩
  else Mf.decP (Sl.parse l).pay
theorem Mf.check_le (M : Man) : Mf.check M ≤ 81 := by
  unfold Mf.check
  split
  · unfold Mf.opts
    repeat' split
    all_goals omega
  · split <;> omega
theorem Mf.take_fine0 {l : List UInt8} {most c a k : Nat} (h : (Mf.take l most c a k).code = 0) : c = 0 := Mf.take_fine h 0 (Nat.zero_le _)
theorem Mf.rdH_code {p : List UInt8} (h : (Mf.rdN p).code = 0) : (Mf.rdH p).code = 0 := by
  unfold Mf.rdN at h
  exact Mf.take_fine0 h
/-- What is known when the numbers could be read. -/
theorem Mf.rd_facts {p : List UInt8} (h : (Mf.rdN p).code = 0) : ∃ n, (Mf.rdN p).vals = [n] ∧ n ≤ 24 ∧ (Mf.rdH p).vals.length = 6 ∧ (∀ v ∈ (Mf.rdH p).vals, v ≤ 1152921504606846976) ∧ (Mf.rdH p).at_ ≤ p.length ∧ (Mf.rdN p).at_ ≤ p.length := by
  obtain ⟨a1, a2, a3, a4⟩ := Mf.take_ok (l := p) (most := 1152921504606846976) (c := 0) (a := 0) (Nat.zero_le _) (k := 6) (Mf.rdH_code h)
  obtain ⟨b1, b2, b3, b4⟩ := Mf.take_ok (l := p) (most := 24) (c := (Mf.rdH p).code) (a := (Mf.rdH p).at_) a4 (k := 1) h
  have e : Mf.take p 24 (Mf.rdH p).code (Mf.rdH p).at_ 1 = Mf.rdN p := rfl
  rw [e] at b1 b2 b4
  obtain ⟨n, hn⟩ := List.length_eq_one_iff.1 b1
  exact ⟨n, hn, b2 n (by rw [hn]; simp), a1, a2, a4, b4⟩
end Go.Proofs.YtknemjnlcghafaaDoor
