/- Names of a store's files: the numbers and what a name says, in plain lists of bytes. No conditions but each theorem's own. -/
import Derived.Lib.AtoiAll
import Derived.Lib.ItoaNum
import Derived.Lib.ItoaMem
import Derived.Lib.Bytealg
namespace Go.Proofs.YtaljcdkgcbdceaaDoor
open Go

/-- What a row of digits is worth. -/
def Kd.valOn (a : Nat) (l : List UInt8) : Nat := l.foldl (fun a c => 10 * a + (c.toNat - 48)) a
def Kd.val (l : List UInt8) : Nat := Kd.valOn 0 l
theorem Kd.valOn_snoc (a : Nat) (l : List UInt8) (c : UInt8) : Kd.valOn a (l ++ [c]) = 10 * Kd.valOn a l + (c.toNat - 48) := by simp [Kd.valOn]
theorem Kd.val_snoc (l : List UInt8) (c : UInt8) : Kd.val (l ++ [c]) = 10 * Kd.val l + (c.toNat - 48) := Kd.valOn_snoc 0 l c
theorem Kd.digit (d : Nat) (h : d < 10) : (UInt8.ofNat (48 + d)).toNat = 48 + d := by rw [UInt8.toNat_ofNat']; omega
theorem Kd.val_dec (u : Nat) : Kd.val (Lib.decDigits u) = u := by
  induction u using Nat.strongRecOn with
  | _ u ih =>
    rw [Lib.decDigits]
    split
    · rename_i h
      show 10 * 0 + ((UInt8.ofNat (48 + u)).toNat - 48) = u
      rw [Kd.digit u h]; omega
    · rw [Kd.val_snoc, ih (u / 10) (by omega), Kd.digit _ (by omega)]; omega
theorem Kd.dec_inj {a b : Nat} (h : Lib.decDigits a = Lib.decDigits b) : a = b := by rw [← Kd.val_dec a, h, Kd.val_dec]
theorem Kd.dec_digits (u : Nat) : ∀ c ∈ Lib.decDigits u, 48 ≤ c.toNat ∧ c.toNat ≤ 57 := by
  induction u using Nat.strongRecOn with
  | _ u ih =>
    intro c hc
    rw [Lib.decDigits] at hc
    split at hc
    · rename_i h
      rw [List.mem_singleton] at hc
      subst hc
      rw [Kd.digit u h]; omega
    · rcases List.mem_append.1 hc with hc | hc
      · exact ih (u / 10) (by omega) c hc
      · rw [List.mem_singleton] at hc
        subst hc
        rw [Kd.digit _ (by omega)]; omega
theorem Kd.dec_ne (u : Nat) : Lib.decDigits u ≠ [] := by
  intro h
  have := Lib.decDigits_length u
  rw [h] at this
  have := Lib.nDigits_pos u
  simp at *
  omega
theorem Kd.nDigits_le (k : Nat) : ∀ u, 1 ≤ k → u < 10 ^ k → Lib.nDigits u ≤ k := by
  induction k with
  | zero => intro u h; omega
  | succ k ih =>
    intro u _ hu
    by_cases h : u < 10
    · rw [Lib.nDigits_small h]; omega
    · rw [Lib.nDigits_big h]
      rw [Nat.pow_succ] at hu
      have hk : 1 ≤ k := by
        rcases Nat.eq_zero_or_pos k with e | e
        · subst e; simp at hu; omega
        · exact e
      have := ih (u / 10) hk (by omega)
      omega
theorem Kd.dec_len {u : Nat} (h : u ≤ 1099511627776) : (Lib.decDigits u).length ≤ 13 := by
  rw [Lib.decDigits_length]
  exact Kd.nDigits_le 13 u (by decide) (Nat.lt_of_le_of_lt h (by decide))
theorem Kd.valOn_le (l : List UInt8) : ∀ a, a ≤ Kd.valOn a l := by
  induction l with
  | nil => intro a; exact Nat.le_refl _
  | cons c l ih => intro a; exact Nat.le_trans (by omega) (ih (10 * a + (c.toNat - 48)))
theorem Kd.parse_ok (l : List UInt8) : ∀ a, (∀ c ∈ l, 48 ≤ c.toNat ∧ c.toNat ≤ 57) → Kd.valOn a l < 18446744073709551616 → Lib.parseUint10 a l = .ok (Kd.valOn a l) := by
  induction l with
  | nil => intro a _ _; rfl
  | cons c l ih =>
    intro a hd hv
    have hc := hd c (List.mem_cons_self ..)
    have hle := Kd.valOn_le l (10 * a + (c.toNat - 48))
    have hv' : Kd.valOn (10 * a + (c.toNat - 48)) l < 18446744073709551616 := hv
    unfold Lib.parseUint10
    rw [if_pos hc, if_neg (by omega), if_neg (by omega), show a * 10 + (c.toNat - 48) = 10 * a + (c.toNat - 48) from by omega]
    exact ih _ (fun c hc => hd c (List.mem_cons_of_mem _ hc)) hv'
theorem Kd.atoi_dec {u : Nat} (h : u ≤ 1099511627776) : Lib.atoiAll (Lib.decDigits u) = .ok (u : Int) := by
  have hp : Lib.parseUint10 0 (Lib.decDigits u) = .ok u := by
    have e : Kd.valOn 0 (Lib.decDigits u) = u := Kd.val_dec u
    have := Kd.parse_ok (Lib.decDigits u) 0 (Kd.dec_digits u) (by rw [e]; omega)
    rwa [e] at this
  have hd := Kd.dec_digits u
  have hne := Kd.dec_ne u
  generalize Lib.decDigits u = l at hp hd hne
  cases l with
  | nil => exact absurd rfl hne
  | cons c r =>
    have hc := hd c (List.mem_cons_self ..)
    unfold Lib.atoiAll
    simp only
    rw [if_neg (by omega)]
    unfold Lib.parseMag
    rw [if_neg (by simp), hp]
    simp only
    rw [if_neg (by omega), if_neg (by omega), if_neg (by omega)]
theorem Kd.itoa_nat (u : Nat) : Lib.itoa (u : Int) = Lib.decDigits u := Lib.itoa_nonneg u

open Classical in
/-- The number from lo to hi that a text is; -1: it is none. -/
noncomputable def Kd.dec (l : List UInt8) (lo hi : Int) : Int := if h : ∃ n : Nat, l = Lib.decDigits n ∧ lo ≤ n ∧ (n : Int) ≤ hi then ((Classical.choose h : Nat) : Int) else -1
theorem Kd.dec_yes {l : List UInt8} {lo hi : Int} {n : Nat} (e : l = Lib.decDigits n) (h1 : lo ≤ n) (h2 : (n : Int) ≤ hi) : Kd.dec l lo hi = n := by
  have hx : ∃ n : Nat, l = Lib.decDigits n ∧ lo ≤ n ∧ (n : Int) ≤ hi := ⟨n, e, h1, h2⟩
  unfold Kd.dec
  rw [dif_pos hx]
  exact congrArg (fun z : Nat => (z : Int)) (Kd.dec_inj (e.symm.trans (Classical.choose_spec hx).1)).symm
theorem Kd.dec_no {l : List UInt8} {lo hi : Int} (h : ∀ n : Nat, lo ≤ n → (n : Int) ≤ hi → l ≠ Lib.decDigits n) : Kd.dec l lo hi = -1 := by
  unfold Kd.dec
  rw [dif_neg]
  rintro ⟨n, e, h1, h2⟩
  exact h n h1 h2 e
theorem Kd.dec_cases (l : List UInt8) (lo hi : Int) : (∃ n : Nat, l = Lib.decDigits n ∧ lo ≤ n ∧ (n : Int) ≤ hi ∧ Kd.dec l lo hi = n) ∨ (Kd.dec l lo hi = -1 ∧ ∀ n : Nat, lo ≤ n → (n : Int) ≤ hi → l ≠ Lib.decDigits n) := by
  by_cases h : ∃ n : Nat, l = Lib.decDigits n ∧ lo ≤ n ∧ (n : Int) ≤ hi
  · obtain ⟨n, e, h1, h2⟩ := h
    exact .inl ⟨n, e, h1, h2, Kd.dec_yes e h1 h2⟩
  · have : ∀ n : Nat, lo ≤ n → (n : Int) ≤ hi → l ≠ Lib.decDigits n := fun n h1 h2 e => h ⟨n, e, h1, h2⟩
    exact .inr ⟨Kd.dec_no this, this⟩
/-- How the program comes to it. -/
theorem Kd.by_atoi {l : List UInt8} {lo hi v : Int} (h0 : 0 ≤ lo) (h2 : hi ≤ 1099511627776) (ha : Lib.atoiAll l = .ok v) : Kd.dec l lo hi = if Lib.itoa v = l ∧ lo ≤ v ∧ v ≤ hi then v else -1 := by
  split
  · rename_i h
    obtain ⟨e, a, b⟩ := h
    obtain ⟨n, rfl⟩ : ∃ n : Nat, v = n := ⟨v.toNat, by omega⟩
    exact Kd.dec_yes (by rw [← e, Kd.itoa_nat]) a b
  · rename_i h
    refine Kd.dec_no fun n a b e => h ?_
    subst e
    rw [Kd.atoi_dec (by omega)] at ha
    injection ha with ha
    subst ha
    exact ⟨Kd.itoa_nat n, a, b⟩
theorem Kd.not_atoi {l : List UInt8} {lo hi : Int} (h2 : hi ≤ 1099511627776) (ha : ∀ v, Lib.atoiAll l ≠ .ok v) : Kd.dec l lo hi = -1 :=
  Kd.dec_no fun n _ b e => ha n (by rw [e]; exact Kd.atoi_dec (by omega))
/-- How the document comes to it. -/
theorem Kd.by_val {l : List UInt8} {lo hi : Int} : Kd.dec l lo hi = if Lib.itoa (Kd.val l : Nat) = l ∧ lo ≤ (Kd.val l : Nat) ∧ ((Kd.val l : Nat) : Int) ≤ hi then ((Kd.val l : Nat) : Int) else -1 := by
  split
  · rename_i h
    exact Kd.dec_yes (by rw [← Kd.itoa_nat]; exact h.1.symm) h.2.1 h.2.2
  · rename_i h
    refine Kd.dec_no fun n a b e => h ?_
    subst e
    rw [Kd.val_dec]
    exact ⟨Kd.itoa_nat n, a, b⟩
theorem Kd.not_len {l : List UInt8} {lo hi : Int} (h2 : hi ≤ 1099511627776) (hl : l.length < 1 ∨ 18 < l.length) : Kd.dec l lo hi = -1 :=
  Kd.dec_no fun n _ b e => by
    subst e
    have := Kd.dec_len (u := n) (by omega)
    have := Lib.decDigits_length n
    have := Lib.nDigits_pos n
    omega
theorem Kd.not_digit {l : List UInt8} {lo hi : Int} {c : UInt8} (hc : c ∈ l) (hd : ¬ (48 ≤ c.toNat ∧ c.toNat ≤ 57)) : Kd.dec l lo hi = -1 :=
  Kd.dec_no fun n _ _ e => by subst e; exact hd (Kd.dec_digits n c hc)

/-- What stands ahead of the first point, and behind it. -/
def Kd.cut (s : List UInt8) : List UInt8 × List UInt8 := (s.takeWhile (· != 46), (s.dropWhile (· != 46)).drop 1)
theorem Kd.cut_at : ∀ {a b : List UInt8}, (∀ c ∈ a, c ≠ 46) → Kd.cut (a ++ 46 :: b) = (a, b)
  | [], b, _ => rfl
  | c :: a, b, h => by
    have hc : (c != 46) = true := by rw [bne_iff_ne]; exact h c (List.mem_cons_self ..)
    have ih := Kd.cut_at (a := a) (b := b) fun c hc => h c (List.mem_cons_of_mem _ hc)
    unfold Kd.cut at ih ⊢
    injection ih with i1 i2
    rw [List.cons_append, List.takeWhile_cons, List.dropWhile_cons, hc]
    simp only [if_true]
    rw [i1, i2]
theorem Kd.cut_none : ∀ {a : List UInt8}, (∀ c ∈ a, c ≠ 46) → Kd.cut a = (a, [])
  | [], _ => rfl
  | c :: a, h => by
    have hc : (c != 46) = true := by rw [bne_iff_ne]; exact h c (List.mem_cons_self ..)
    have ih := Kd.cut_none (a := a) fun c hc => h c (List.mem_cons_of_mem _ hc)
    unfold Kd.cut at ih ⊢
    injection ih with i1 i2
    rw [List.takeWhile_cons, List.dropWhile_cons, hc]
    simp only [if_true]
    rw [i1, i2]
def Kd.man : List UInt8 := [109, 97, 110, 105, 102, 101, 115, 116]
def Kd.new : List UInt8 := [109, 97, 110, 105, 102, 101, 115, 116, 46, 110, 101, 119]
/-- What a file's name says: its kind, its number, its table. -/
noncomputable def Kd.kind (l : List UInt8) : Nat × Int × Int :=
  if l = Kd.man then (1, 0, 0)
  else if l = Kd.new then (2, 0, 0)
  else match l with
    | [] => (0, 0, 0)
    | c :: s =>
      if c = 106 ∧ 0 < Kd.dec s 1 1099511627776 then (3, Kd.dec s 1 1099511627776, 0)
      else if c = 114 ∧ 0 < Kd.dec (Kd.cut s).1 1 1099511627776 ∧ 0 ≤ Kd.dec (Kd.cut s).2 0 127 then (4, Kd.dec (Kd.cut s).1 1 1099511627776, Kd.dec (Kd.cut s).2 0 127)
      else (0, 0, 0)
theorem Kd.dec_in (l : List UInt8) {lo hi : Int} (h : -1 ≤ hi) : -1 ≤ Kd.dec l lo hi ∧ Kd.dec l lo hi ≤ hi := by
  rcases Kd.dec_cases l lo hi with ⟨n, _, h1, h2, e⟩ | ⟨e, _⟩ <;> rw [e] <;> omega
end Go.Proofs.YtaljcdkgcbdceaaDoor
