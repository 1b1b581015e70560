/- Numbers in bytes of seven bits, sums in four bytes, frames: the plain functions on lists of bytes. No conditions but each theorem's own. -/
import Derived.Test.YtifkhjihgnnpfaaGreatDoorCrc
namespace Go.Proofs.YtifkhjihgnnpfaaGreatDoor.Sl

/-- v in bytes of seven bits, at most f + 1 of them. -/
def pvf : Nat → Nat → List UInt8
  | 0, v => [UInt8.ofNat v]
  | f + 1, v => if v < 128 then [UInt8.ofNat v] else UInt8.ofNat (v % 128 + 128) :: pvf f (v / 128)
def putVar (v : Nat) : List UInt8 := pvf 9 v

theorem pvf_small (f v : Nat) (h : v < 128) : pvf f v = [UInt8.ofNat v] := by
  cases f with
  | zero => rfl
  | succ f => rw [pvf, if_pos h]
theorem pvf_big (f v : Nat) (h : 128 ≤ v) : pvf (f + 1) v = UInt8.ofNat (v % 128 + 128) :: pvf f (v / 128) := by
  rw [pvf, if_neg (by omega)]
theorem pvf_len : ∀ f v, 1 ≤ (pvf f v).length ∧ (pvf f v).length ≤ f + 1
  | 0, v => by simp [pvf]
  | f + 1, v => by
    rw [pvf]
    split
    · simp
    · have := pvf_len f (v / 128)
      simp only [List.length_cons]; omega

/-- A number in size bytes, the greatest first. -/
def be : Nat → Nat → List UInt8
  | 0, _ => []
  | n + 1, v => UInt8.ofNat (v / 256 ^ n % 256) :: be n v
theorem be_len : ∀ n v, (be n v).length = n
  | 0, _ => rfl
  | n + 1, v => by rw [be, List.length_cons, be_len n v]
/-- .. read. -/
def beNum (l : List UInt8) : Nat := l.foldl (fun a c => 256 * a + c.toNat) 0
/-- A sum in four bytes, the lowest first. -/
def le4 (v : Nat) : List UInt8 := [UInt8.ofNat (v % 256), UInt8.ofNat (v / 256 % 256), UInt8.ofNat (v / 65536 % 256), UInt8.ofNat (v / 16777216 % 256)]
def summed (l : List UInt8) : List UInt8 := le4 (crc l)

/-- The head of a frame. -/
def head (kind n : Nat) : List UInt8 := [167, UInt8.ofNat kind] ++ be 4 n
/-- A frame. -/
def frame (kind : Nat) (p : List UInt8) : List UInt8 := head kind p.length ++ summed (head kind p.length) ++ p ++ summed (head kind p.length ++ p)

/-- What reading gives: a value and how many bytes it took, or a refusal. -/
structure Got where
  code : Nat
  val : Nat
  len : Nat

/-- A number of bytes of seven bits: f bytes more at most; i read so far. -/
def varAt : Nat → Nat → Nat → List UInt8 → Got
  | 0, _, _, _ => ⟨30, 0, 0⟩
  | _ + 1, _, _, [] => ⟨31, 0, 0⟩
  | f + 1, i, v, c :: l =>
    if i = 9 ∧ 1 < c.toNat then ⟨30, 0, 0⟩
    else if c.toNat < 128 then (if c.toNat = 0 ∧ 0 < i then ⟨32, 0, 0⟩ else ⟨0, v + c.toNat % 128 * 2 ^ (7 * i), i + 1⟩)
    else varAt f (i + 1) (v + c.toNat % 128 * 2 ^ (7 * i)) l
def var (l : List UInt8) : Got := varAt 10 0 0 l
end Go.Proofs.YtifkhjihgnnpfaaGreatDoor.Sl
/- Reading a frame: the plain function on bytes. No conditions but each theorem's own. -/
namespace Go.Proofs.YtifkhjihgnnpfaaGreatDoor.Sl

/-- What reading a frame gives: a refusal's code, or the kind, the payload, how many bytes the frame has. -/
structure Parsed where
  code : Nat
  kind : Nat
  pay : List UInt8
  len : Nat

def parse (l : List UInt8) : Parsed :=
  if l.length = 0 then ⟨31, 0, [], 0⟩
  else if ¬ (l.getD 0 0).toNat = 167 then ⟨33, 0, [], 0⟩
  else if l.length < 10 then ⟨31, 0, [], 0⟩
  else if ¬ (l.drop 6).take 4 = summed (l.take 6) then ⟨34, 0, [], 0⟩
  else if (l.getD 1 0).toNat = 0 then ⟨35, 0, [], 0⟩
  else if 65536 < beNum ((l.drop 2).take 4) then ⟨36, 0, [], 0⟩
  else if l.length < beNum ((l.drop 2).take 4) + 14 then ⟨31, 0, [], 0⟩
  else if ¬ (l.drop (10 + beNum ((l.drop 2).take 4))).take 4 = summed (l.take 6 ++ (l.drop 10).take (beNum ((l.drop 2).take 4))) then ⟨34, 0, [], 0⟩
  else ⟨0, (l.getD 1 0).toNat, (l.drop 10).take (beNum ((l.drop 2).take 4)), beNum ((l.drop 2).take 4) + 14⟩
end Go.Proofs.YtifkhjihgnnpfaaGreatDoor.Sl
/- Numbers and frames there and back: the plain laws. No conditions but each theorem's own. -/
namespace Go.Proofs.YtifkhjihgnnpfaaGreatDoor.Sl
set_option linter.unusedVariables false

theorem ofNat_toNat (n : Nat) (h : n < 256) : (UInt8.ofNat n).toNat = n := by
  simp; omega

/-- A number that was written is read. -/
theorem varAt_pvf : ∀ f i acc v rest, f + i = 9 → v < 2 ^ (64 - 7 * i) → (v = 0 → i = 0) →
    varAt (f + 1) i acc (pvf f v ++ rest) = ⟨0, acc + v * 2 ^ (7 * i), i + (pvf f v).length⟩
  | 0, i, acc, v, rest, hf, hv, h0 => by
    obtain rfl : i = 9 := by omega
    have hv' : v < 2 := by simpa using hv
    have hn := ofNat_toNat v (by omega)
    show varAt (0 + 1) 9 acc (UInt8.ofNat v :: rest) = _
    unfold varAt
    rw [hn, if_neg (by omega), if_pos (by omega), if_neg (by omega)]
    rw [Nat.mod_eq_of_lt (by omega)]
    rfl
  | f + 1, i, acc, v, rest, hf, hv, h0 => by
    by_cases h : v < 128
    · rw [pvf_small _ _ h]
      have hn := ofNat_toNat v (by omega)
      show varAt (f + 1 + 1) i acc (UInt8.ofNat v :: rest) = _
      unfold varAt
      rw [hn, if_neg (by omega), if_pos h, if_neg (by omega), Nat.mod_eq_of_lt h]
      rfl
    · rw [pvf_big _ _ (by omega)]
      have hn := ofNat_toNat (v % 128 + 128) (by omega)
      show varAt (f + 1 + 1) i acc (UInt8.ofNat (v % 128 + 128) :: (pvf f (v / 128) ++ rest)) = _
      unfold varAt
      rw [hn, if_neg (by omega), if_neg (by omega)]
      have hm : (v % 128 + 128) % 128 = v % 128 := by omega
      rw [hm]
      have e : 2 ^ (64 - 7 * i) = 128 * 2 ^ (64 - 7 * (i + 1)) := by
        rw [show 64 - 7 * i = 7 + (64 - 7 * (i + 1)) from by omega, Nat.pow_add]
      rw [varAt_pvf f (i + 1) _ (v / 128) rest (by omega) (by rw [e] at hv; omega) (by omega)]
      have e2 : 2 ^ (7 * (i + 1)) = 128 * 2 ^ (7 * i) := by rw [show 7 * (i + 1) = 7 + 7 * i from by omega, Nat.pow_add]
      have e3 : acc + v % 128 * 2 ^ (7 * i) + v / 128 * 2 ^ (7 * (i + 1)) = acc + v * 2 ^ (7 * i) := by
        rw [e2, Nat.add_assoc, ← Nat.mul_assoc, ← Nat.add_mul]
        congr 2; omega
      rw [e3, List.length_cons]
      congr 1; omega

theorem var_putVar (v : Nat) (rest : List UInt8) (hv : v < 18446744073709551616) : var (putVar v ++ rest) = ⟨0, v, (putVar v).length⟩ := by
  have := varAt_pvf 9 0 0 v rest rfl (by simpa using hv) (fun _ => rfl)
  rw [Nat.mul_zero, Nat.pow_zero, Nat.mul_one, Nat.zero_add, Nat.zero_add] at this
  exact this

/-- A number that was read was written so. -/
theorem pvf_varAt : ∀ f i acc l V m, f + i = 9 → varAt (f + 1) i acc l = ⟨0, V, m⟩ →
    ∃ v rest, l = pvf f v ++ rest ∧ V = acc + v * 2 ^ (7 * i) ∧ m = i + (pvf f v).length ∧ (v = 0 → i = 0)
  | f, i, acc, [], V, m, _, h => by
    have := congrArg Got.code h
    exact absurd (show 31 = 0 from this) (by decide)
  | f, i, acc, c :: l, V, m, hf, h => by
    unfold varAt at h
    have hcl := c.toNat_lt
    by_cases h9 : i = 9 ∧ 1 < c.toNat
    · rw [if_pos h9] at h
      have := congrArg Got.code h
      exact absurd (show 30 = 0 from this) (by decide)
    rw [if_neg h9] at h
    by_cases hc : c.toNat < 128
    · rw [if_pos hc] at h
      by_cases h0 : c.toNat = 0 ∧ 0 < i
      · rw [if_pos h0] at h
        have := congrArg Got.code h
        exact absurd (show 32 = 0 from this) (by decide)
      rw [if_neg h0] at h
      obtain ⟨_, h1, h2⟩ := Got.mk.inj h
      rw [Nat.mod_eq_of_lt hc] at h1
      refine ⟨c.toNat, l, ?_, h1.symm, ?_, by omega⟩
      · rw [pvf_small _ _ hc]; simp
      · rw [pvf_small _ _ hc, ← h2]; rfl
    · rw [if_neg hc] at h
      cases f with
      | zero => omega
      | succ f =>
        obtain ⟨v, rest, hl, hV, hm, h0⟩ := pvf_varAt f (i + 1) _ l V m (by omega) h
        have hv0 : v ≠ 0 := fun e => by have := h0 e; omega
        refine ⟨c.toNat % 128 + 128 * v, rest, ?_, ?_, ?_, by omega⟩
        · rw [pvf_big _ _ (by omega), hl, List.cons_append]
          congr 1
          · rw [show (c.toNat % 128 + 128 * v) % 128 + 128 = c.toNat from by omega]; simp
          · rw [show (c.toNat % 128 + 128 * v) / 128 = v from by omega]
        · have e2 : 2 ^ (7 * (i + 1)) = 128 * 2 ^ (7 * i) := by rw [show 7 * (i + 1) = 7 + 7 * i from by omega, Nat.pow_add]
          rw [hV, e2, Nat.add_assoc, ← Nat.mul_assoc, ← Nat.add_mul]
          congr 2; omega
        · rw [pvf_big _ _ (by omega), List.length_cons, show (c.toNat % 128 + 128 * v) / 128 = v from by omega]
          omega

theorem putVar_var (l : List UInt8) (v m : Nat) (h : var l = ⟨0, v, m⟩) : ∃ rest, l = putVar v ++ rest ∧ m = (putVar v).length := by
  obtain ⟨v', rest, h1, h2, h3, _⟩ := pvf_varAt 9 0 0 l v m rfl h
  rw [Nat.mul_zero, Nat.pow_zero, Nat.mul_one, Nat.zero_add] at h2
  subst h2
  exact ⟨rest, h1, by rw [h3]; exact Nat.zero_add _⟩

theorem beNum_be4 (n : Nat) (h : n < 4294967296) : beNum (be 4 n) = n := by
  unfold beNum be be be be be
  simp only [List.foldl_cons, List.foldl_nil]
  rw [ofNat_toNat _ (by omega), ofNat_toNat _ (by omega), ofNat_toNat _ (by omega), ofNat_toNat _ (by omega)]
  omega

theorem be4_beNum (l : List UInt8) (h : l.length = 4) : be 4 (beNum l) = l := by
  match l, h with
  | [a, b, c, d], _ =>
    have ha := a.toNat_lt
    have hb := b.toNat_lt
    have hc := c.toNat_lt
    have hd := d.toNat_lt
    unfold beNum be be be be be
    simp only [List.foldl_cons, List.foldl_nil]
    rw [show (256 * (256 * (256 * (256 * 0 + a.toNat) + b.toNat) + c.toNat) + d.toNat) / 256 ^ 3 % 256 = a.toNat from by omega,
      show (256 * (256 * (256 * (256 * 0 + a.toNat) + b.toNat) + c.toNat) + d.toNat) / 256 ^ 2 % 256 = b.toNat from by omega,
      show (256 * (256 * (256 * (256 * 0 + a.toNat) + b.toNat) + c.toNat) + d.toNat) / 256 ^ 1 % 256 = c.toNat from by omega,
      show (256 * (256 * (256 * (256 * 0 + a.toNat) + b.toNat) + c.toNat) + d.toNat) / 256 ^ 0 % 256 = d.toNat from by omega]
    simp

theorem head_len (k n : Nat) : (head k n).length = 6 := by unfold head; rw [List.length_append, be_len]; rfl
theorem summed_len4 (l : List UInt8) : (summed l).length = 4 := rfl
theorem frame_len (k : Nat) (p : List UInt8) : (frame k p).length = p.length + 14 := by
  unfold frame; simp only [List.length_append, head_len, summed_len4]; omega

/-- A frame that was written is read. -/
theorem parse_frame (k : Nat) (p rest : List UInt8) (h1 : 1 ≤ k) (h2 : k ≤ 255) (hp : p.length ≤ 65536) : parse (frame k p ++ rest) = ⟨0, k, p, p.length + 14⟩ := by
  obtain ⟨l, hl⟩ : ∃ l, frame k p ++ rest = l := ⟨_, rfl⟩
  have hlen : l.length = p.length + 14 + rest.length := by rw [← hl, List.length_append, frame_len]
  have hl' : l = head k p.length ++ (summed (head k p.length) ++ (p ++ (summed (head k p.length ++ p) ++ rest))) := by
    rw [← hl]; unfold frame; simp only [List.append_assoc]
  obtain ⟨h, hh⟩ : ∃ h, head k p.length = h := ⟨_, rfl⟩
  have hh6 : h.length = 6 := by rw [← hh]; exact head_len _ _
  rw [hh] at hl'
  have t6 : l.take 6 = h := by rw [hl', List.take_left' hh6]
  have d6 : l.drop 6 = summed h ++ (p ++ (summed (h ++ p) ++ rest)) := by rw [hl', List.drop_left' hh6]
  have d6t : (l.drop 6).take 4 = summed h := by rw [d6, List.take_left' (summed_len4 h)]
  have d10 : l.drop 10 = p ++ (summed (h ++ p) ++ rest) := by
    rw [show (10 : Nat) = 6 + 4 from rfl, ← List.drop_drop, d6, List.drop_left' (summed_len4 h)]
  have d10t : (l.drop 10).take p.length = p := by rw [d10, List.take_left' rfl]
  have dn : (l.drop (10 + p.length)).take 4 = summed (h ++ p) := by
    rw [← List.drop_drop, d10, List.drop_left' rfl, List.take_left' (summed_len4 _)]
  have g0 : (l.getD 0 0).toNat = 167 := by rw [hl', ← hh]; rfl
  have g1 : (l.getD 1 0).toNat = k := by rw [hl', ← hh]; show (UInt8.ofNat k).toNat = k; exact ofNat_toNat k (by omega)
  have hn : beNum ((l.drop 2).take 4) = p.length := by
    have : (l.drop 2).take 4 = be 4 p.length := by rw [hl', ← hh]; rfl
    rw [this]; exact beNum_be4 _ (by omega)
  rw [hl]
  unfold parse
  rw [hn, t6, d6t, d10t, dn, g0, g1, hlen, if_neg (by omega), if_neg (by omega), if_neg (by omega), if_neg (by simp), if_neg (by omega), if_neg (by omega), if_neg (by omega), if_neg (by simp)]

/-- A frame that was read was written so. -/
theorem frame_parse (l : List UInt8) (k m : Nat) (p : List UInt8) (h : parse l = ⟨0, k, p, m⟩) :
    1 ≤ k ∧ k ≤ 255 ∧ p.length ≤ 65536 ∧ m = p.length + 14 ∧ m ≤ l.length ∧ l = frame k p ++ l.drop m := by
  unfold parse at h
  have nope : ∀ {c : Nat} {q : List UInt8} {a b : Nat}, c ≠ 0 → (⟨c, a, q, b⟩ : Parsed) = ⟨0, k, p, m⟩ → False := fun hc e => hc (Parsed.mk.inj e).1
  by_cases h0 : l.length = 0
  · rw [if_pos h0] at h; exact (nope (by decide) h).elim
  rw [if_neg h0] at h
  by_cases h1 : (l.getD 0 0).toNat = 167
  rotate_left
  · rw [if_pos h1] at h; exact (nope (by decide) h).elim
  rw [if_neg (not_not_intro h1)] at h
  by_cases h2 : l.length < 10
  · rw [if_pos h2] at h; exact (nope (by decide) h).elim
  rw [if_neg h2] at h
  by_cases h3 : (l.drop 6).take 4 = summed (l.take 6)
  rotate_left
  · rw [if_pos h3] at h; exact (nope (by decide) h).elim
  rw [if_neg (not_not_intro h3)] at h
  by_cases h4 : (l.getD 1 0).toNat = 0
  · rw [if_pos h4] at h; exact (nope (by decide) h).elim
  rw [if_neg h4] at h
  obtain ⟨n, hn⟩ : ∃ n, beNum ((l.drop 2).take 4) = n := ⟨_, rfl⟩
  rw [hn] at h
  by_cases h5 : 65536 < n
  · rw [if_pos h5] at h; exact (nope (by decide) h).elim
  rw [if_neg h5] at h
  by_cases h6 : l.length < n + 14
  · rw [if_pos h6] at h; exact (nope (by decide) h).elim
  rw [if_neg h6] at h
  by_cases h7 : (l.drop (10 + n)).take 4 = summed (l.take 6 ++ (l.drop 10).take n)
  rotate_left
  · rw [if_pos h7] at h; exact (nope (by decide) h).elim
  rw [if_neg (not_not_intro h7)] at h
  obtain ⟨_, hk, hp, hm⟩ := Parsed.mk.inj h
  have hpl : p.length = n := by rw [← hp, List.length_take_of_le]; rw [List.length_drop]; omega
  have hkl : (l.getD 1 0).toNat < 256 := (l.getD 1 0).toNat_lt
  have hd : l.take 6 = head k p.length := by
    rw [hpl, ← hn, head, be4_beNum _ (by rw [List.length_take_of_le]; rw [List.length_drop]; omega), ← hk]
    match l, h2, h1 with
    | a :: b :: c :: d :: e :: f :: t, _, h1 =>
      have ha : a = 167 := UInt8.toNat_inj.mp h1
      subst ha
      simp
    | [], h, _ | [_], h, _ | [_, _], h, _ | [_, _, _], h, _ | [_, _, _, _], h, _ | [_, _, _, _, _], h, _ => simp at h
  refine ⟨by omega, by omega, by omega, by omega, by omega, ?_⟩
  rw [hp, hd] at h7
  rw [hd] at h3
  have hm' : m = 10 + n + 4 := by omega
  unfold frame
  rw [← h3, ← h7, ← hd, hm']
  have a1 : l = l.take 6 ++ l.drop 6 := (List.take_append_drop 6 l).symm
  have a2 : l.drop 6 = (l.drop 6).take 4 ++ l.drop 10 := by rw [show (10 : Nat) = 6 + 4 from rfl, ← List.drop_drop]; exact (List.take_append_drop 4 _).symm
  have a3 : l.drop 10 = p ++ l.drop (10 + n) := by rw [← hp, ← List.drop_drop]; exact (List.take_append_drop n _).symm
  have a4 : l.drop (10 + n) = (l.drop (10 + n)).take 4 ++ l.drop (10 + n + 4) := by rw [← List.drop_drop (i := 4)]; exact (List.take_append_drop 4 _).symm
  simp only [List.append_assoc]
  rw [← a4, ← a3, ← a2, ← a1]
end Go.Proofs.YtifkhjihgnnpfaaGreatDoor.Sl
