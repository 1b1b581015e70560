/- Codes of one bit: the plain facts behind TreeChain. Conditions: each theorem's own hypotheses. -/
import Derived.Test.YtikhahkmebkccaaDoorBkAH
namespace Go.Proofs.YtikhahkmebkccaaDoor
open Go.RowKit Go.Maps Go.Sort Go.Shelf
set_option linter.unusedVariables false
set_option linter.unusedSimpArgs false

/-- A byte of one bit. -/
def Bk.one8 (s : Nat) : UInt8 := UInt8.ofNat (128 / 2 ^ s)
theorem Bk.one8_ones : ∀ s, s < 8 → Bk.ones (Bk.one8 s) = 1 := by decide
set_option maxRecDepth 100000 in
theorem Bk.one8_two : ∀ s, s < 8 → ∀ r, r < 8 → Bk.ones (Bk.one8 s ^^^ Bk.one8 r) = if s = r then 0 else 2 := by decide
theorem Bk.ones_00 : Bk.ones ((0 : UInt8) ^^^ 0) = 0 := by decide
theorem Bk.xor_l (y : UInt8) : (0 : UInt8) ^^^ y = y := by simp
theorem Bk.xor_r (y : UInt8) : y ^^^ (0 : UInt8) = y := by simp
/-- The code of w bits with just bit i. -/
def Bk.bitC (w i : Nat) : List UInt8 := (List.replicate (w / 8) 0).set (i / 8) (Bk.one8 (i % 8))
theorem Bk.bitC_len (w i : Nat) : (Bk.bitC w i).length = w / 8 := by simp [Bk.bitC]
theorem Bk.far_set1 : ∀ (m q : Nat) (y : UInt8), q < m → Bk.far (List.replicate m 0) ((List.replicate m 0).set q y) = Bk.ones y
  | 0, q, y, h => by omega
  | m + 1, 0, y, h => by
    rw [List.replicate_succ, List.set_cons_zero, Bk.far, Bk.far_self, Bk.xor_l]; rfl
  | m + 1, q + 1, y, h => by
    rw [List.replicate_succ, List.set_cons_succ, Bk.far, Bk.far_set1 m q y (by omega), Bk.ones_00]; omega
theorem Bk.far_set2 : ∀ (m p q : Nat) (x y : UInt8), p < m → q < m → Bk.far ((List.replicate m 0).set p x) ((List.replicate m 0).set q y) = if p = q then Bk.ones (x ^^^ y) else Bk.ones x + Bk.ones y
  | 0, p, q, x, y, hp, hq => by omega
  | m + 1, 0, 0, x, y, hp, hq => by
    rw [List.replicate_succ, List.set_cons_zero, List.set_cons_zero, Bk.far, Bk.far_self, if_pos rfl]; rfl
  | m + 1, 0, q + 1, x, y, hp, hq => by
    rw [List.replicate_succ, List.set_cons_zero, List.set_cons_succ, Bk.far, Bk.far_set1 m q y (by omega), Bk.xor_r, if_neg (by omega)]
  | m + 1, p + 1, 0, x, y, hp, hq => by
    rw [List.replicate_succ, List.set_cons_zero, List.set_cons_succ, Bk.far, Bk.far_comm, Bk.far_set1 m p x (by omega), Bk.xor_l, if_neg (by omega)]; omega
  | m + 1, p + 1, q + 1, x, y, hp, hq => by
    rw [List.replicate_succ, List.set_cons_succ, List.set_cons_succ, Bk.far, Bk.far_set2 m p q x y (by omega) (by omega), Bk.ones_00]
    by_cases e : p = q
    · rw [if_pos e, if_pos (by omega)]; omega
    · rw [if_neg e, if_neg (by omega)]; omega
theorem Bk.far_bits {w i j : Nat} (h8 : w % 8 = 0) (hi : i < w) (hj : j < w) : Bk.far (Bk.bitC w i) (Bk.bitC w j) = if i = j then 0 else 2 := by
  unfold Bk.bitC
  rw [Bk.far_set2 _ _ _ _ _ (by omega) (by omega), Bk.one8_two _ (by omega) _ (by omega), Bk.one8_ones _ (by omega), Bk.one8_ones _ (by omega)]
  by_cases e : i / 8 = j / 8
  · rw [if_pos e]
    by_cases f : i % 8 = j % 8
    · rw [if_pos f, if_pos (by omega)]
    · rw [if_neg f, if_neg (by omega)]
  · rw [if_neg e, if_neg (by omega)]
theorem Bk.bitC_inj {w i j : Nat} (h8 : w % 8 = 0) (hi : i < w) (hj : j < w) (h : Bk.bitC w i = Bk.bitC w j) : i = j := by
  have h1 := Bk.far_bits h8 hi hj
  rw [h, Bk.far_self] at h1
  by_cases e : i = j
  · exact e
  · rw [if_neg e] at h1; omega
/-- The chain of the first n codes. -/
def Bk.chain (w n : Nat) : List Bk.N := (List.range n).map fun i => ⟨Bk.bitC w i, true, (i : Int) - 1, if i = 0 then 0 else 2⟩
theorem Bk.chain_len (w n : Nat) : (Bk.chain w n).length = n := by simp [Bk.chain]
theorem Bk.chain_get {w n i : Nat} (h : i < n) : (Bk.chain w n)[i]? = some ⟨Bk.bitC w i, true, (i : Int) - 1, if i = 0 then 0 else 2⟩ := by
  unfold Bk.chain; rw [List.getElem?_map, List.getElem?_range h]; rfl
theorem Bk.chain_succ (w n : Nat) : Bk.chain w (n + 1) = Bk.chain w n ++ [⟨Bk.bitC w n, true, (n : Int) - 1, if n = 0 then 0 else 2⟩] := by
  unfold Bk.chain; rw [List.range_succ, List.map_append]; rfl
theorem Bk.chain_seat {w n : Nat} (h8 : w % 8 = 0) (hg : Bk.Good w (Bk.chain w n)) (hn : n < w) : ∀ d i, i + d + 1 = n → Bk.Seat (Bk.chain w n) (Bk.bitC w n) i (n - 1) 2
  | 0, i, h => by
    have hf : Bk.far (Bk.code (Bk.chain w n) i) (Bk.bitC w n) = 2 := by
      rw [Bk.code_at (Bk.chain_get (by omega)), Bk.far_bits h8 (by omega) hn, if_neg (by omega)]
    have hc : Bk.child (Bk.chain w n) i 2 = none := by
      cases hk : Bk.child (Bk.chain w n) i 2 with
      | none => rfl
      | some k =>
        obtain ⟨m, h1, h2, h3⟩ := Bk.child_some hk
        have hkn : k < n := by have := (List.getElem?_eq_some_iff.1 h1).1; rwa [Bk.chain_len] at this
        rw [Bk.chain_get hkn] at h1
        obtain rfl := Option.some.inj h1
        simp only at h2
        omega
    have hs := Bk.Seat.here (l := Bk.chain w n) (c := Bk.bitC w n) (i := i) (by rw [hf]; exact hc)
    rw [hf] at hs
    have e : n - 1 = i := by omega
    rw [e]; exact hs
  | d + 1, i, h => by
    have hf : Bk.far (Bk.code (Bk.chain w n) i) (Bk.bitC w n) = 2 := by
      rw [Bk.code_at (Bk.chain_get (by omega)), Bk.far_bits h8 (by omega) hn, if_neg (by omega)]
    have hc : Bk.child (Bk.chain w n) i 2 = some (i + 1) := by
      have h1 := hg.child_of (k := i + 1) (i := i) (Bk.chain_get (by omega)) (by simp)
      simpa using h1
    exact .down (by rw [hf]; exact hc) (Bk.chain_seat h8 hg hn d (i + 1) (by omega))
theorem Bk.chain_hang {w n : Nat} (h8 : w % 8 = 0) (hg : Bk.Good w (Bk.chain w n)) (hn : n < w) : Bk.hang (Bk.chain w n) (Bk.bitC w n) = Bk.chain w (n + 1) := by
  by_cases h0 : n = 0
  · subst h0; rfl
  · have hs := Bk.chain_seat h8 hg hn (n - 1) 0 (by omega)
    rw [hg.hang_of hs (fun e => by have := congrArg List.length e; rw [Bk.chain_len] at this; exact h0 this), Bk.chain_succ, if_neg h0]
    rw [show ((n - 1 : Nat) : Int) = (n : Int) - 1 by omega]
theorem Bk.chain_add {w n s : Nat} (h8 : w % 8 = 0) (hg : Bk.Good w (Bk.chain w n)) (hn : n < w) : Bk.add ⟨w, Bk.chain w n, s⟩ (Bk.bitC w n) = (⟨w, Bk.chain w (n + 1), s⟩, true, 0) := by
  have hf : Bk.find (Bk.chain w n) (Bk.bitC w n) = none := by
    cases hf : Bk.find (Bk.chain w n) (Bk.bitC w n) with
    | none => rfl
    | some k =>
      obtain ⟨m, h1, h2⟩ := Bk.find_some hf
      have hkn : k < n := by have := (List.getElem?_eq_some_iff.1 h1).1; rwa [Bk.chain_len] at this
      rw [Bk.chain_get hkn] at h1
      obtain rfl := Option.some.inj h1
      have := Bk.bitC_inj h8 (by omega) hn h2
      omega
  unfold Bk.add
  rw [if_pos (Bk.bitC_len w n)]
  simp only [hf, Bk.chain_hang h8 hg hn]
theorem Bk.chain_good {w : Nat} (h8 : w % 8 = 0) : ∀ n, n ≤ w → Bk.Good w (Bk.chain w n)
  | 0, _ => Bk.Good.nil w
  | n + 1, h => by
    have hg := Bk.chain_good h8 n (by omega)
    have h1 := (Bk.Good.add (t := ⟨w, Bk.chain w n, 0⟩) hg (Bk.bitC w n)).1
    rw [Bk.chain_add h8 hg (by omega)] at h1
    exact h1
theorem Bk.os_snoc (l : List Bk.N) (n : Bk.N) : Bk.os (l ++ [n]) = Bk.os l ++ [n.over] := by simp [Bk.os]
theorem Bk.chain_deep (n : Nat) : (if (n : Int) - 1 < 0 then 1 else ((List.range n).map (· + 1)).getD ((n : Int) - 1).toNat 0 + 1) = n + 1 := by
  cases n with
  | zero => rfl
  | succ m =>
    rw [if_neg (by omega), show (((m + 1 : Nat) : Int) - 1).toNat = m by omega, List.getD_eq_getElem?_getD, List.getElem?_map, List.getElem?_range (by omega)]
    rfl
theorem Bk.chain_deeps (w : Nat) : ∀ n, Bk.deeps (Bk.os (Bk.chain w n)) = (List.range n).map (· + 1)
  | 0 => rfl
  | n + 1 => by
    rw [Bk.chain_succ, Bk.os_snoc, Bk.deeps_snoc, Bk.chain_deeps w n, List.range_succ, List.map_append, Bk.chain_deep]; rfl
theorem Bk.chain_depth (w : Nat) : ∀ n, Bk.depth (Bk.os (Bk.chain w n)) = n
  | 0 => rfl
  | n + 1 => by
    rw [Bk.chain_succ, Bk.os_snoc, Bk.depth_snoc, Bk.chain_depth w n, Bk.chain_deeps, Bk.chain_deep]; omega
theorem Bk.chain_lives (w n : Nat) : Bk.lives (Bk.chain w n) = (List.range n).map (Bk.bitC w) := by
  unfold Bk.lives Bk.chain
  rw [List.filter_map, List.filter_eq_self.2 (fun a _ => by rfl), List.map_map]; rfl
theorem Bk.chain_live (w n : Nat) : Bk.live (Bk.chain w n) = n := by rw [← Bk.lives_len, Bk.chain_lives]; simp
/-- What stays while codes of the chain are dropped. -/
structure Bk.Ch (w n : Nat) (T : Bk.T) : Prop where
  good : Bk.Good T.w T.l
  slim : Bk.Slim T
  tw : T.w = w
  mem : ∀ c ∈ Bk.lives T.l, ∃ k, k < n ∧ c = Bk.bitC w k
  len : T.l.length ≤ 1024
theorem Bk.Ch.start {w n s : Nat} (h8 : w % 8 = 0) (hn : n ≤ w) (hw : w ≤ 1024) : Bk.Ch w n ⟨w, Bk.chain w n, s⟩ :=
  ⟨Bk.chain_good h8 n hn, by unfold Bk.Slim; rw [Bk.chain_live, Bk.chain_len]; omega, rfl, fun c hc => by
    rw [Bk.chain_lives] at hc
    obtain ⟨k, hk, rfl⟩ := List.mem_map.1 hc
    exact ⟨k, List.mem_range.1 hk, rfl⟩, by rw [Bk.chain_len]; omega⟩
theorem Bk.Ch.drop {w n : Nat} {T : Bk.T} (h : Bk.Ch w n T) (c : List UInt8) : Bk.Ch w n (Bk.drop T c).1 ∧ Bk.live (Bk.drop T c).1.l + (if (Bk.drop T c).2 = true then 1 else 0) = Bk.live T.l := by
  obtain ⟨d1, d2⟩ := h.good.drop_is c
  obtain ⟨g1, g2⟩ := h.good.drop c
  obtain ⟨n1, n2, n3, n4⟩ := Bk.drop_num T c h.slim
  rw [← g2] at g1
  refine ⟨⟨g1, n1, g2.trans h.tw, fun x hx => h.mem x ((d2 x).1 hx).1, Nat.le_trans n2 h.len⟩, ?_⟩
  rw [← Bk.lives_len, ← Bk.lives_len, d1]
  have hp : (Bk.lives (Bk.drop T c).1.l).Perm ((Bk.lives T.l).erase c) := by
    rw [List.perm_ext_iff_of_nodup g1.lives_nodup (h.good.lives_nodup.erase c)]
    intro x
    rw [d2 x, h.good.lives_nodup.mem_erase_iff]
    exact And.comm
  rw [hp.length_eq]
  by_cases hm : c ∈ Bk.lives T.l
  · rw [List.length_erase_of_mem hm, decide_eq_true hm, if_pos rfl]
    have := List.length_pos_of_mem hm
    omega
  · rw [List.erase_of_not_mem hm, decide_eq_false hm, if_neg (by decide), Nat.add_zero]
section
variable {w n q : Nat} {T : Bk.T}
theorem Bk.Ch.fits (h : Bk.Ch w n T) : (Bk.bitC w q).length = T.w / 8 := by rw [Bk.bitC_len, h.tw]
theorem Bk.all_mem {T : Bk.T} {q : List UInt8} {x : Bk.H} : x ∈ Bk.all T q ↔ ∃ c ∈ Bk.lives T.l, Bk.hitC q c = x := by
  unfold Bk.all
  rw [(Bk.sortH_is _).mem_iff, List.mem_map]
theorem Bk.all_len (T : Bk.T) (q : List UInt8) : (Bk.all T q).length = Bk.live T.l := by
  unfold Bk.all
  rw [(Bk.sortH_is _).length_eq, List.length_map, Bk.lives_len]
theorem Bk.Good.all_nodup (h : Bk.Good T.w T.l) (q : List UInt8) : (Bk.all T q).Nodup := by
  unfold Bk.all
  rw [(Bk.sortH_is _).nodup_iff]
  refine List.Pairwise.map _ (fun a b hab e => hab ?_) h.lives_nodup
  exact congrArg Bk.H.c e
theorem Bk.Ch.within (h : Bk.Ch w n T) (h8 : w % 8 = 0) (hn : n ≤ w) (hq : q < n) : (Bk.within T (Bk.bitC w q) 2).2 = (Bk.all T (Bk.bitC w q), 0) := by
  have h1 := h.good.within_is (q := Bk.bitC w q) h.fits (r := 2) (by have := h.tw; omega)
  rw [show ((2 : Nat) : Int) = 2 from rfl] at h1
  rw [h1, List.filter_eq_self.2 fun x hx => ?_]
  obtain ⟨c, hc, rfl⟩ := Bk.all_mem.1 hx
  obtain ⟨k, hk, rfl⟩ := h.mem c hc
  refine decide_eq_true (show Bk.far (Bk.bitC w k) (Bk.bitC w q) ≤ 2 from ?_)
  rw [Bk.far_bits h8 (by omega) (by omega)]
  split <;> omega
theorem Bk.Ch.nearest (h : Bk.Ch w n T) : (Bk.nearest T (Bk.bitC w q) 1).2 = (Bk.firstK (Bk.all T (Bk.bitC w q)) 1, 0) :=
  h.good.nearest_is h.fits (k := 1) (by decide)
theorem Bk.Ch.first (h : Bk.Ch w n T) (h8 : w % 8 = 0) (hn : n ≤ w) (hq : q < n) (hm : Bk.bitC w q ∈ Bk.lives T.l) :
    ∃ R, Bk.all T (Bk.bitC w q) = ⟨0, Bk.bitC w q⟩ :: R ∧ Bk.firstK (Bk.all T (Bk.bitC w q)) 1 = [⟨0, Bk.bitC w q⟩] := by
  have hz : ∀ x ∈ Bk.all T (Bk.bitC w q), x.d ≤ 0 → x = ⟨0, Bk.bitC w q⟩ := by
    intro x hx hd
    obtain ⟨c, hc, rfl⟩ := Bk.all_mem.1 hx
    obtain ⟨k, hk, rfl⟩ := h.mem c hc
    have hd' : Bk.far (Bk.bitC w k) (Bk.bitC w q) ≤ 0 := hd
    have hf := Bk.far_bits (i := k) (j := q) h8 (by omega) (by omega)
    by_cases e : k = q
    · subst e; unfold Bk.hitC; rw [Bk.far_self]
    · rw [if_neg e] at hf; omega
  have hin : (⟨0, Bk.bitC w q⟩ : Bk.H) ∈ Bk.all T (Bk.bitC w q) := Bk.all_mem.2 ⟨_, hm, by unfold Bk.hitC; rw [Bk.far_self]⟩
  have hso : (Bk.all T (Bk.bitC w q)).Pairwise fun a b => Bk.leH a b = true := Bk.sortH_sorted _
  have hnd := h.good.all_nodup (Bk.bitC w q)
  generalize Bk.all T (Bk.bitC w q) = S at *
  cases S with
  | nil => cases hin
  | cons x R =>
    have hx : x = ⟨0, Bk.bitC w q⟩ := by
      rcases List.mem_cons.1 hin with e | e
      · exact e.symm
      · have h1 := (List.pairwise_cons.1 hso).1 _ e
        refine hz x (List.mem_cons_self ..) ?_
        rcases (Bk.leH_iff _ _).1 h1 with h2 | ⟨h2, _⟩ <;> simp only at h2 <;> omega
    subst hx
    refine ⟨R, rfl, ?_⟩
    unfold Bk.firstK
    rw [if_neg (by decide), show min 1 ((⟨0, Bk.bitC w q⟩ : Bk.H) :: R).length - 1 = 0 by simp <;> omega]
    show List.filter (fun y => decide (y.d ≤ 0)) ((⟨0, Bk.bitC w q⟩ : Bk.H) :: R) = _
    rw [List.filter_cons_of_pos (by simp), List.filter_eq_nil_iff.2 fun y hy hd => ?_]
    have h1 := hz y (List.mem_cons_of_mem _ hy) (of_decide_eq_true hd)
    rw [h1] at hy
    exact (List.nodup_cons.1 hnd).1 hy
end
end Go.Proofs.YtikhahkmebkccaaDoor
