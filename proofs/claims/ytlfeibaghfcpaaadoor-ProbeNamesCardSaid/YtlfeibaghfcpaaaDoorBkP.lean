/- Trees by distances, in plain Lean: distances, nodes, what hangs where. No conditions but each theorem's own. -/
import Derived.WalkKit
import Derived.Sort.KeysCollected
namespace Go.Proofs.YtlfeibaghfcpaaaDoor
open Go.RowKit Go.Maps Go.Sort

/-- How many bits of a byte are one. -/
def Bk.ones (x : UInt8) : Nat := ((List.range 8).filter fun i => x.toNat.testBit i).length
theorem Bk.ones_le (x : UInt8) : Bk.ones x ≤ 8 := Nat.le_trans (List.length_filter_le _ _) (by simp)
theorem Bk.filter_or {α : Type} (p q r : α → Bool) (h : ∀ i, p i = true → q i = true ∨ r i = true) : ∀ l : List α, (l.filter p).length ≤ (l.filter q).length + (l.filter r).length
  | [] => Nat.le_refl _
  | x :: l => by
    have ih := Bk.filter_or p q r h l
    rw [List.filter_cons, List.filter_cons, List.filter_cons]
    have hx := h x
    split
    · rename_i hp
      rcases hx hp with hq | hr
      · rw [if_pos hq]; split <;> (try simp only [List.length_cons]) <;> omega
      · rw [if_pos hr]; split <;> (try simp only [List.length_cons]) <;> omega
    · split <;> split <;> (try simp only [List.length_cons]) <;> omega
theorem Bk.ones_tri (x y z : UInt8) : Bk.ones (x ^^^ z) ≤ Bk.ones (x ^^^ y) + Bk.ones (y ^^^ z) := by
  unfold Bk.ones
  refine Bk.filter_or _ _ _ (fun i h => ?_) _
  rw [UInt8.toNat_xor, Nat.testBit_xor] at *
  rw [UInt8.toNat_xor, Nat.testBit_xor]
  revert h
  cases x.toNat.testBit i <;> cases y.toNat.testBit i <;> cases z.toNat.testBit i <;> simp
set_option maxRecDepth 100000 in
theorem Bk.ones_zero : ∀ v : UInt8, Bk.ones v = 0 → v = 0 := by
  have h : ∀ n : Fin 256, Bk.ones (UInt8.ofNat n.val) = 0 → n.val = 0 := by decide
  intro v hv
  have hn := h ⟨v.toNat, v.toNat_lt⟩ (by simpa using hv)
  exact UInt8.toNat_inj.1 (by simpa using hn)

/-- How many bits of two texts of one length are unlike. -/
def Bk.far : List UInt8 → List UInt8 → Nat
  | a :: s, b :: t => Bk.ones (a ^^^ b) + Bk.far s t
  | _, _ => 0
theorem Bk.far_le : ∀ a b : List UInt8, Bk.far a b ≤ 8 * a.length
  | [], _ => by simp [Bk.far]
  | _ :: _, [] => by simp [Bk.far]
  | a :: s, b :: t => by
    have := Bk.far_le s t
    have := Bk.ones_le (a ^^^ b)
    rw [Bk.far, List.length_cons]; omega
theorem Bk.far_comm : ∀ a b : List UInt8, Bk.far a b = Bk.far b a
  | [], [] => rfl
  | [], _ :: _ => rfl
  | _ :: _, [] => rfl
  | a :: s, b :: t => by rw [Bk.far, Bk.far, Bk.far_comm s t, UInt8.xor_comm]
theorem Bk.far_self : ∀ a : List UInt8, Bk.far a a = 0
  | [] => rfl
  | a :: s => by rw [Bk.far, Bk.far_self s, UInt8.xor_self]; decide
theorem Bk.far_tri : ∀ a b c : List UInt8, a.length = b.length → Bk.far a c ≤ Bk.far a b + Bk.far b c
  | [], [], _, _ => by simp [Bk.far]
  | a :: s, b :: t, [], _ => by simp [Bk.far]
  | a :: s, b :: t, c :: u, h => by
    have := Bk.far_tri s t u (by simpa using h)
    have := Bk.ones_tri a b c
    rw [Bk.far, Bk.far, Bk.far]; omega
theorem Bk.far_eq : ∀ a b : List UInt8, a.length = b.length → Bk.far a b = 0 → a = b
  | [], [], _, _ => rfl
  | a :: s, b :: t, h, h0 => by
    rw [Bk.far] at h0
    have h1 := Bk.far_eq s t (by simpa using h) (by omega)
    have h2 := UInt8.xor_eq_zero_iff.1 (Bk.ones_zero _ (show Bk.ones (a ^^^ b) = 0 by omega))
    rw [h1, h2]

/-- A node: its code, is it there, its parent's place (-1: the root), how far it is from it. -/
structure Bk.N where
  code : List UInt8
  live : Bool
  over : Int
  dist : Nat
/-- The place of a node's child at a distance. -/
def Bk.child (l : List Bk.N) (i : Nat) (e : Nat) : Option Nat := l.findIdx? fun n => decide (n.over = (i : Int)) && decide (n.dist = e)
/-- The place of the node with a code. -/
def Bk.find (l : List Bk.N) (c : List UInt8) : Option Nat := l.findIdx? fun n => decide (n.code = c)
def Bk.code (l : List Bk.N) (i : Nat) : List UInt8 := match l[i]? with | some n => n.code | none => []
def Bk.liveAt (l : List Bk.N) (i : Nat) : Bool := match l[i]? with | some n => n.live | none => false
/-- Where a code is to hang: below which node, how far from it. -/
def Bk.seat (l : List Bk.N) (c : List UInt8) : Nat → Nat → Nat × Nat
  | 0, i => (i, 0)
  | f + 1, i => match Bk.child l i (Bk.far (Bk.code l i) c) with
    | none => (i, Bk.far (Bk.code l i) c)
    | some k => Bk.seat l c f k
inductive Bk.Seat (l : List Bk.N) (c : List UInt8) : Nat → Nat → Nat → Prop
  | here {i : Nat} : Bk.child l i (Bk.far (Bk.code l i) c) = none → Bk.Seat l c i i (Bk.far (Bk.code l i) c)
  | down {i k p e : Nat} : Bk.child l i (Bk.far (Bk.code l i) c) = some k → Bk.Seat l c k p e → Bk.Seat l c i p e
def Bk.hang (l : List Bk.N) (c : List UInt8) : List Bk.N :=
  match l with
  | [] => [⟨c, true, -1, 0⟩]
  | _ :: _ => l ++ [⟨c, true, ((Bk.seat l c (l.length + 1) 0).1 : Nat), (Bk.seat l c (l.length + 1) 0).2⟩]

/-- x is i, or stands above it: c is the place below x (or x itself) on the way. -/
inductive Bk.Up (l : List Bk.N) : Nat → Nat → Prop
  | refl (i : Nat) : Bk.Up l i i
  | step {i p c : Nat} {n : Bk.N} : l[i]? = some n → n.over = (p : Int) → Bk.Up l p c → Bk.Up l i c

/-- What always holds of a tree's nodes. -/
structure Bk.Good (w : Nat) (l : List Bk.N) : Prop where
  len : ∀ n ∈ l, n.code.length = w / 8
  nodup : ∀ (i j : Nat) (a b : Bk.N), l[i]? = some a → l[j]? = some b → a.code = b.code → i = j
  over : ∀ (i : Nat) (n : Bk.N), l[i]? = some n → (i = 0 ∧ n.over = -1 ∧ n.dist = 0) ∨ ∃ (p : Nat) (m : Bk.N), n.over = (p : Int) ∧ p < i ∧ l[p]? = some m ∧ n.dist = Bk.far m.code n.code
  one : ∀ (i j : Nat) (a b : Bk.N), l[i]? = some a → l[j]? = some b → a.over = b.over → a.dist = b.dist → i = j
  bk : ∀ (i c a : Nat) (n m x : Bk.N), Bk.Up l i c → l[i]? = some n → l[c]? = some m → m.over = ((a : Nat) : Int) → l[a]? = some x → Bk.far x.code n.code = m.dist
theorem Bk.Good.nil (w : Nat) : Bk.Good w [] := ⟨fun n h => by simp at h, fun i j a b h => by simp at h, fun i n h => by simp at h, fun i j a b h => by simp at h, fun i c a n m x _ h => by simp at h⟩

theorem Bk.child_some {l : List Bk.N} {i e k : Nat} (h : Bk.child l i e = some k) : ∃ n, l[k]? = some n ∧ n.over = (i : Int) ∧ n.dist = e := by
  unfold Bk.child at h
  rw [List.findIdx?_eq_some_iff_getElem] at h
  obtain ⟨hk, hp, _⟩ := h
  refine ⟨l[k], List.getElem?_eq_getElem hk, ?_⟩
  simpa using hp
theorem Bk.child_none {l : List Bk.N} {i e : Nat} (h : Bk.child l i e = none) : ∀ (k : Nat) (n : Bk.N), l[k]? = some n → n.over = (i : Int) → n.dist ≠ e := by
  intro k n hk ho hd
  unfold Bk.child at h
  rw [List.findIdx?_eq_none_iff] at h
  have := h n (List.mem_of_getElem? hk)
  simp [ho, hd] at this
theorem Bk.Good.child_of {w : Nat} {l : List Bk.N} (h : Bk.Good w l) {k i : Nat} {n : Bk.N} (hk : l[k]? = some n) (ho : n.over = (i : Int)) : Bk.child l i n.dist = some k := by
  cases hc : Bk.child l i n.dist with
  | none => exact absurd rfl (Bk.child_none hc k n hk ho)
  | some j =>
    obtain ⟨m, hj, h1, h2⟩ := Bk.child_some hc
    rw [h.one j k m n hj hk (h1.trans ho.symm) h2]
theorem Bk.Good.child_lt {w : Nat} {l : List Bk.N} (h : Bk.Good w l) {i e k : Nat} (hc : Bk.child l i e = some k) : i < k ∧ k < l.length := by
  obtain ⟨n, hk, ho, _⟩ := Bk.child_some hc
  refine ⟨?_, (List.getElem?_eq_some_iff.1 hk).1⟩
  rcases h.over k n hk with ⟨_, h1, _⟩ | ⟨p, m, h1, h2, _⟩
  · omega
  · omega
theorem Bk.code_at {l : List Bk.N} {i : Nat} {n : Bk.N} (h : l[i]? = some n) : Bk.code l i = n.code := by unfold Bk.code; rw [h]
theorem Bk.liveAt_at {l : List Bk.N} {i : Nat} {n : Bk.N} (h : l[i]? = some n) : Bk.liveAt l i = n.live := by unfold Bk.liveAt; rw [h]
theorem Bk.Good.seat_ex {w : Nat} {l : List Bk.N} (h : Bk.Good w l) (c : List UInt8) : ∀ f i, l.length - i < f → ∃ p e, Bk.Seat l c i p e
  | 0, i, hf => by omega
  | f + 1, i, hf => by
    cases hc : Bk.child l i (Bk.far (Bk.code l i) c) with
    | none => exact ⟨_, _, .here hc⟩
    | some k =>
      obtain ⟨h1, h2⟩ := h.child_lt hc
      obtain ⟨p, e, hs⟩ := Bk.Good.seat_ex h c f k (by omega)
      exact ⟨p, e, .down hc hs⟩
theorem Bk.Good.seat_of {w : Nat} {l : List Bk.N} (h : Bk.Good w l) {c : List UInt8} {i p e : Nat} (hs : Bk.Seat l c i p e) : ∀ f, l.length - i < f → Bk.seat l c f i = (p, e) := by
  induction hs with
  | here hc =>
    intro f hf
    cases f with
    | zero => omega
    | succ f => unfold Bk.seat; rw [hc]
  | down hc _ ih =>
    intro f hf
    obtain ⟨h1, h2⟩ := h.child_lt hc
    cases f with
    | zero => omega
    | succ f => unfold Bk.seat; rw [hc]; exact ih f (by omega)
theorem Bk.Good.hang_of {w : Nat} {l : List Bk.N} (h : Bk.Good w l) {c : List UInt8} {p e : Nat} (hs : Bk.Seat l c 0 p e) (hl : l ≠ []) : Bk.hang l c = l ++ [⟨c, true, (p : Nat), e⟩] := by
  unfold Bk.hang
  cases l with
  | nil => exact absurd rfl hl
  | cons x r => rw [h.seat_of hs _ (by omega)]
theorem Bk.Seat.facts {w : Nat} {l : List Bk.N} (h : Bk.Good w l) {c : List UInt8} {i p e : Nat} (hs : Bk.Seat l c i p e) : i < l.length → p < l.length ∧ e = Bk.far (Bk.code l p) c ∧ Bk.child l p e = none := by
  induction hs with
  | here hc => exact fun hi => ⟨hi, rfl, hc⟩
  | down hc _ ih => exact fun hi => ih (h.child_lt hc).2
/-- On the way down to a seat every turn goes by the code's distance. -/
theorem Bk.Seat.way {w : Nat} {l : List Bk.N} (h : Bk.Good w l) {c : List UInt8} {i p e : Nat} (hs : Bk.Seat l c i p e) :
    ∀ q, Bk.Up l p q → q = i ∨ (∃ m a x, l[q]? = some m ∧ m.over = ((a : Nat) : Int) ∧ l[a]? = some x ∧ Bk.far x.code c = m.dist) ∨ Bk.Up l i q := by
  induction hs with
  | here hc => exact fun q hq => .inr (.inr hq)
  | @down i k p e hc _ ih =>
    intro q hq
    obtain ⟨n, hk, ho, hd⟩ := Bk.child_some hc
    obtain ⟨h1, h2⟩ := h.child_lt hc
    have hkk : ∃ m a x, l[k]? = some m ∧ m.over = ((a : Nat) : Int) ∧ l[a]? = some x ∧ Bk.far x.code c = m.dist := by
      have hx : l[i]? = some l[i] := List.getElem?_eq_getElem (by omega)
      exact ⟨n, i, _, hk, ho, hx, by rw [hd, Bk.code_at hx]⟩
    rcases ih q hq with rfl | hm | hu
    · exact .inr (.inl hkk)
    · exact .inr (.inl hm)
    · cases hu with
      | refl => exact .inr (.inl hkk)
      | step hi' ho' hu' =>
        rw [hk] at hi'
        obtain rfl := Option.some.inj hi'
        rw [ho] at ho'
        obtain rfl := Int.ofNat.inj ho'
        exact .inr (.inr hu')
theorem Bk.Good.up_zero {w : Nat} {l : List Bk.N} (h : Bk.Good w l) {q : Nat} (hu : Bk.Up l 0 q) : q = 0 := by
  cases hu with
  | refl => rfl
  | step hi ho _ =>
    rcases h.over 0 _ hi with ⟨_, h1, _⟩ | ⟨p, m, _, h2, _⟩
    · omega
    · omega
theorem Bk.Good.up_lt {w : Nat} {l : List Bk.N} (h : Bk.Good w l) {i q : Nat} (hu : Bk.Up l i q) : q ≤ i := by
  induction hu with
  | refl => exact Nat.le_refl _
  | step hi ho _ ih =>
    rcases h.over _ _ hi with ⟨_, h1, _⟩ | ⟨p, m, h1, h2, _⟩
    · omega
    · omega
theorem Bk.Good.up_snoc {w : Nat} {l : List Bk.N} (h : Bk.Good w l) {x : Bk.N} {i q : Nat} (hu : Bk.Up (l ++ [x]) i q) : i < l.length → Bk.Up l i q := by
  induction hu with
  | refl => exact fun _ => .refl _
  | @step i p c n hi ho _ ih =>
    intro hl
    rw [List.getElem?_append_left hl] at hi
    refine .step hi ho (ih ?_)
    rcases h.over _ _ hi with ⟨_, h1, _⟩ | ⟨p, m, h1, h2, _⟩
    · omega
    · omega
theorem Bk.Good.hang {w : Nat} {l : List Bk.N} (h : Bk.Good w l) {c : List UInt8} (hc : c.length = w / 8) (hn : ∀ n ∈ l, n.code ≠ c) : Bk.Good w (Bk.hang l c) := by
  cases hl : l with
  | nil =>
    unfold Bk.hang
    have one : ∀ (i : Nat) (n : Bk.N), ([⟨c, true, -1, 0⟩] : List Bk.N)[i]? = some n → i = 0 ∧ n = ⟨c, true, -1, 0⟩ := by
      intro i n hi
      cases i with
      | zero => exact ⟨rfl, (Option.some.inj hi).symm⟩
      | succ i => simp at hi
    refine ⟨fun n hn => ?_, fun i j a b ha hb _ => ?_, fun i n hi => ?_, fun i j a b ha hb _ _ => ?_, fun i q a n m x _ hi hm ho ha => ?_⟩
    · rw [List.mem_singleton.1 hn]; exact hc
    · rw [(one i a ha).1, (one j b hb).1]
    · obtain ⟨rfl, rfl⟩ := one i n hi; exact .inl ⟨rfl, rfl, rfl⟩
    · rw [(one i a ha).1, (one j b hb).1]
    · obtain ⟨_, rfl⟩ := one q m hm
      exact absurd ho (by simp)
  | cons y r =>
    rw [← hl]
    have hne : l ≠ [] := by rw [hl]; exact fun e => by cases e
    have h0 : 0 < l.length := by rw [hl]; simp
    obtain ⟨p, e, hs⟩ := h.seat_ex c (l.length + 1) 0 (by omega)
    rw [h.hang_of hs hne]
    obtain ⟨hp, he, hch⟩ := hs.facts h h0
    have hpx : l[p]? = some l[p] := List.getElem?_eq_getElem hp
    have hcp := Bk.code_at hpx
    have old : ∀ (i : Nat) (n : Bk.N), (l ++ [⟨c, true, (p : Int), e⟩])[i]? = some n → l[i]? = some n ∨ (i = l.length ∧ n = ⟨c, true, (p : Int), e⟩) := by
      intro i n hi
      by_cases hlt : i < l.length
      · rw [List.getElem?_append_left hlt] at hi; exact .inl hi
      · rw [List.getElem?_append_right (by omega)] at hi
        have hb := (List.getElem?_eq_some_iff.1 hi).1
        simp at hb
        have : i = l.length := by omega
        subst this
        rw [Nat.sub_self] at hi
        exact .inr ⟨rfl, (Option.some.inj hi).symm⟩
    have lift : ∀ (i : Nat) (n : Bk.N), l[i]? = some n → (l ++ [⟨c, true, (p : Int), e⟩])[i]? = some n := by
      intro i n hi
      rw [List.getElem?_append_left (List.getElem?_eq_some_iff.1 hi).1]; exact hi
    refine ⟨fun n hm => ?_, fun i j a b ha hb hab => ?_, fun i n hi => ?_, fun i j a b ha hb h1 h2 => ?_, fun i q a n m x hu hi hm ho ha => ?_⟩
    · rcases List.mem_append.1 hm with hm | hm
      · exact h.len n hm
      · rw [List.mem_singleton.1 hm]; exact hc
    · rcases old i a ha with ha | ⟨rfl, rfl⟩
      · rcases old j b hb with hb | ⟨rfl, rfl⟩
        · exact h.nodup i j a b ha hb hab
        · exact absurd hab (hn a (List.mem_of_getElem? ha))
      · rcases old j b hb with hb | ⟨rfl, rfl⟩
        · exact absurd hab.symm (hn b (List.mem_of_getElem? hb))
        · rfl
    · rcases old i n hi with hi | ⟨rfl, rfl⟩
      · rcases h.over i n hi with h1 | ⟨p', m, h1, h2, h3, h4⟩
        · exact .inl h1
        · exact .inr ⟨p', m, h1, h2, lift _ _ h3, h4⟩
      · exact .inr ⟨p, _, rfl, hp, lift _ _ hpx, by rw [he, hcp]⟩
    · rcases old i a ha with ha | ⟨rfl, rfl⟩
      · rcases old j b hb with hb | ⟨rfl, rfl⟩
        · exact h.one i j a b ha hb h1 h2
        · exact absurd h2 (Bk.child_none hch i a ha h1)
      · rcases old j b hb with hb | ⟨rfl, rfl⟩
        · exact absurd h2.symm (Bk.child_none hch j b hb h1.symm)
        · rfl
    · rcases old i n hi with hi | ⟨rfl, rfl⟩
      · have hil := (List.getElem?_eq_some_iff.1 hi).1
        have hu' := h.up_snoc hu hil
        have hq := h.up_lt hu'
        have hm' : l[q]? = some m := by rcases old q m hm with hm | ⟨h1, _⟩; exact hm; omega
        have ha' : l[a]? = some x := by
          rcases old a x ha with ha | ⟨h1, _⟩
          · exact ha
          · rcases h.over q m hm' with ⟨_, h3, _⟩ | ⟨p', m', h3, h4, _⟩ <;> omega
        exact h.bk i q a n m x hu' hi hm' ho ha'
      · cases hu with
        | refl =>
          obtain rfl : _ = m := Option.some.inj (hi.symm.trans hm)
          have hap : a = p := by have : ((p : Nat) : Int) = (a : Int) := ho; omega
          subst hap
          have hx : l[a]? = some x := by rcases old a x ha with ha | ⟨h1, _⟩; exact ha; omega
          show Bk.far x.code c = e
          rw [he, Bk.code_at hx]
        | step hi' ho' hu' =>
          obtain rfl := Option.some.inj (hi.symm.trans hi')
          have hpp : _ = p := Int.ofNat.inj ho'.symm
          subst hpp
          have hu2 := h.up_snoc hu' hp
          have hq := h.up_lt hu2
          have hm' : l[q]? = some m := by rcases old q m hm with hm | ⟨h1, _⟩; exact hm; omega
          have ha' : l[a]? = some x := by
            rcases old a x ha with ha | ⟨h1, _⟩
            · exact ha
            · rcases h.over q m hm' with ⟨_, h3, _⟩ | ⟨p', m', h3, h4, _⟩ <;> omega
          rcases hs.way h q hu2 with rfl | ⟨m', a', x', h1, h2, h3, h4⟩ | hz
          · rcases h.over 0 m hm' with ⟨_, h3, _⟩ | ⟨p', m', h3, h4, _⟩ <;> omega
          · obtain rfl := Option.some.inj (hm'.symm.trans h1)
            obtain rfl : a = a' := by omega
            obtain rfl := Option.some.inj (ha'.symm.trans h3)
            exact h4
          · have := h.up_zero hz
            subst this
            rcases h.over 0 m hm' with ⟨_, h3, _⟩ | ⟨p', m', h3, h4, _⟩ <;> omega

def Bk.K (n : Bk.N) : List UInt8 × Int × Nat := (n.code, n.over, n.dist)
theorem Bk.K_at {l l' : List Bk.N} (hk : l'.map Bk.K = l.map Bk.K) {i : Nat} {n : Bk.N} (h : l'[i]? = some n) : ∃ m, l[i]? = some m ∧ m.code = n.code ∧ m.over = n.over ∧ m.dist = n.dist := by
  have h1 : (l'.map Bk.K)[i]? = some (Bk.K n) := by rw [List.getElem?_map, h]; rfl
  rw [hk, List.getElem?_map] at h1
  obtain ⟨m, hm, he⟩ := Option.map_eq_some_iff.1 h1
  unfold Bk.K at he
  simp only [Prod.mk.injEq] at he
  exact ⟨m, hm, he.1, he.2.1, he.2.2⟩
theorem Bk.up_K {l l' : List Bk.N} (hk : l'.map Bk.K = l.map Bk.K) {i q : Nat} (hu : Bk.Up l' i q) : Bk.Up l i q := by
  induction hu with
  | refl => exact .refl _
  | step hi ho _ ih =>
    obtain ⟨m, hm, _, h2, _⟩ := Bk.K_at hk hi
    exact .step hm (h2.trans ho) ih
/-- Whether nodes live is nothing to their places. -/
theorem Bk.Good.congr {w : Nat} {l l' : List Bk.N} (h : Bk.Good w l) (hk : l'.map Bk.K = l.map Bk.K) : Bk.Good w l' := by
  refine ⟨fun n hm => ?_, fun i j a b ha hb hab => ?_, fun i n hi => ?_, fun i j a b ha hb h1 h2 => ?_, fun i q a n m x hu hi hm ho ha => ?_⟩
  · obtain ⟨i, hi⟩ := List.mem_iff_getElem?.1 hm
    obtain ⟨m, hm, h1, _⟩ := Bk.K_at hk hi
    rw [← h1]; exact h.len m (List.mem_of_getElem? hm)
  · obtain ⟨a', ha', h1, _⟩ := Bk.K_at hk ha
    obtain ⟨b', hb', h2, _⟩ := Bk.K_at hk hb
    exact h.nodup i j a' b' ha' hb' (h1.trans (hab.trans h2.symm))
  · obtain ⟨n', hn', h1, h2, h3⟩ := Bk.K_at hk hi
    rcases h.over i n' hn' with ⟨e1, e2, e3⟩ | ⟨p, m, e1, e2, e3, e4⟩
    · exact .inl ⟨e1, h2 ▸ e2, h3 ▸ e3⟩
    · obtain ⟨m', hm', g1, _⟩ := Bk.K_at hk.symm e3
      exact .inr ⟨p, m', h2 ▸ e1, e2, hm', by rw [← h3, e4, g1, h1]⟩
  · obtain ⟨a', ha', _, g2, g3⟩ := Bk.K_at hk ha
    obtain ⟨b', hb', _, k2, k3⟩ := Bk.K_at hk hb
    exact h.one i j a' b' ha' hb' (g2.trans (h1.trans k2.symm)) (g3.trans (h2.trans k3.symm))
  · obtain ⟨n', hn', g1, _⟩ := Bk.K_at hk hi
    obtain ⟨m', hm', _, k2, k3⟩ := Bk.K_at hk hm
    obtain ⟨x', hx', j1, _⟩ := Bk.K_at hk ha
    have := h.bk i q a n' m' x' (Bk.up_K hk hu) hn' hm' (k2.trans ho) hx'
    rw [← g1, ← j1, ← k3]; exact this
def Bk.setLive (l : List Bk.N) (i : Nat) (b : Bool) : List Bk.N := l.modify i fun n => { n with live := b }
theorem Bk.setLive_K (l : List Bk.N) (i : Nat) (b : Bool) : (Bk.setLive l i b).map Bk.K = l.map Bk.K := by
  unfold Bk.setLive
  apply List.ext_getElem?
  intro j
  rw [List.getElem?_map, List.getElem?_map, List.getElem?_modify]
  cases l[j]? with
  | none => rfl
  | some n => by_cases h : i = j <;> simp [h, Bk.K]
theorem Bk.Good.setLive {w : Nat} {l : List Bk.N} (h : Bk.Good w l) (i : Nat) (b : Bool) : Bk.Good w (Bk.setLive l i b) := h.congr (Bk.setLive_K l i b)

/-- How deep each node stands. -/
def Bk.deeps (os : List Int) : List Nat := os.foldl (fun ds o => ds ++ [if o < 0 then 1 else ds.getD o.toNat 0 + 1]) []
theorem Bk.deeps_snoc (os : List Int) (o : Int) : Bk.deeps (os ++ [o]) = Bk.deeps os ++ [if o < 0 then 1 else (Bk.deeps os).getD o.toNat 0 + 1] := by
  unfold Bk.deeps; rw [List.foldl_append]; rfl
theorem Bk.deeps_rev (P : List Int → Prop) (h0 : P []) (hs : ∀ os o, P os → P (os ++ [o])) : ∀ os, P os := by
  intro os
  have h : ∀ n (os : List Int), os.length = n → P os := by
    intro n
    induction n with
    | zero => intro os h; rw [List.length_eq_zero_iff.1 h]; exact h0
    | succ n ih =>
      intro os h
      have hne : os ≠ [] := fun e => by rw [e] at h; cases h
      rw [← List.dropLast_concat_getLast hne]
      exact hs _ _ (ih _ (by rw [List.length_dropLast, h]; rfl))
  exact h _ os rfl
theorem Bk.deeps_len : ∀ os, (Bk.deeps os).length = os.length := by
  refine Bk.deeps_rev _ rfl fun os o ih => ?_
  rw [Bk.deeps_snoc, List.length_append, List.length_append, ih]; rfl
theorem Bk.deeps_le : ∀ os, ∀ d ∈ Bk.deeps os, 1 ≤ d ∧ d ≤ os.length := by
  refine Bk.deeps_rev _ (fun d h => by cases h) fun os o ih d hd => ?_
  rw [Bk.deeps_snoc, List.mem_append, List.mem_singleton] at hd
  rw [List.length_append, List.length_singleton]
  rcases hd with hd | rfl
  · have := ih d hd; omega
  · split
    · omega
    · rw [List.getD_eq_getElem?_getD]
      cases hg : (Bk.deeps os)[o.toNat]? with
      | none => simp
      | some x => have := ih x (List.mem_of_getElem? hg); simp; omega
def Bk.depth (os : List Int) : Nat := (Bk.deeps os).foldl max 0
theorem Bk.depth_snoc (os : List Int) (o : Int) : Bk.depth (os ++ [o]) = max (Bk.depth os) (if o < 0 then 1 else (Bk.deeps os).getD o.toNat 0 + 1) := by
  unfold Bk.depth; rw [Bk.deeps_snoc, List.foldl_append]; rfl
theorem Bk.depth_le : ∀ os, Bk.depth os ≤ os.length := by
  refine Bk.deeps_rev _ (Nat.le_refl _) fun os o ih => ?_
  rw [Bk.depth_snoc, List.length_append]
  have h := (Bk.deeps_le (os ++ [o]) (if o < 0 then 1 else (Bk.deeps os).getD o.toNat 0 + 1) (by rw [Bk.deeps_snoc]; simp)).2
  rw [List.length_append] at h
  exact Nat.max_le.2 ⟨by omega, h⟩

/-- A tree: its width, its nodes as they came, how many were looked at. -/
structure Bk.T where
  w : Nat
  l : List Bk.N
  seen : Nat
def Bk.live (l : List Bk.N) : Nat := (l.filter fun n => n.live).length
theorem Bk.live_le (l : List Bk.N) : Bk.live l ≤ l.length := List.length_filter_le _ _
def Bk.os (l : List Bk.N) : List Int := l.map fun n => n.over
/-- The live codes, rising. -/
def Bk.rising (l : List Bk.N) : List (List UInt8) := ((l.filter fun n => n.live).map fun n => n.code).mergeSort leB
def Bk.anew (l : List Bk.N) : List Bk.N := (Bk.rising l).foldl Bk.hang []
def Bk.add (t : Bk.T) (c : List UInt8) : Bk.T × Bool × Int :=
  if c.length = t.w / 8 then
    match Bk.find t.l c with
    | none => ({ t with l := Bk.hang t.l c }, true, 0)
    | some i => ({ t with l := Bk.setLive t.l i true }, !(Bk.liveAt t.l i), 0)
  else (t, false, 11)
def Bk.has (t : Bk.T) (c : List UInt8) : Bool := match Bk.find t.l c with
  | none => false
  | some i => Bk.liveAt t.l i
/-- Behind a drop: too many dead: hung anew. -/
def Bk.swept (l : List Bk.N) : List Bk.N := if l.length - Bk.live l > Bk.live l + 16 then Bk.anew l else l
def Bk.drop (t : Bk.T) (c : List UInt8) : Bk.T × Bool := match Bk.find t.l c with
  | none => (t, false)
  | some i => if Bk.liveAt t.l i = true then ({ t with l := Bk.swept (Bk.setLive t.l i false) }, true) else (t, false)
theorem Bk.find_some {l : List Bk.N} {c : List UInt8} {i : Nat} (h : Bk.find l c = some i) : ∃ n, l[i]? = some n ∧ n.code = c := by
  unfold Bk.find at h
  rw [List.findIdx?_eq_some_iff_getElem] at h
  obtain ⟨hk, hp, _⟩ := h
  exact ⟨l[i], List.getElem?_eq_getElem hk, by simpa using hp⟩
theorem Bk.find_none {l : List Bk.N} {c : List UInt8} (h : Bk.find l c = none) : ∀ n ∈ l, n.code ≠ c := by
  intro n hn he
  unfold Bk.find at h
  rw [List.findIdx?_eq_none_iff] at h
  have := h n hn
  simp [he] at this
theorem Bk.Good.find_of {w : Nat} {l : List Bk.N} (h : Bk.Good w l) {i : Nat} {n : Bk.N} (hi : l[i]? = some n) : Bk.find l n.code = some i := by
  cases hf : Bk.find l n.code with
  | none => exact absurd rfl (Bk.find_none hf n (List.mem_of_getElem? hi))
  | some j =>
    obtain ⟨m, hj, hc⟩ := Bk.find_some hf
    rw [h.nodup j i m n hj hi hc]
theorem Bk.hang_mem (l : List Bk.N) (c : List UInt8) : ∃ n, Bk.hang l c = l ++ [n] ∧ n.code = c ∧ n.live = true := by
  unfold Bk.hang
  cases l with
  | nil => exact ⟨_, rfl, rfl, rfl⟩
  | cons x r => exact ⟨_, rfl, rfl, rfl⟩
theorem Bk.Good.fold {w : Nat} : ∀ (cs : List (List UInt8)) (l : List Bk.N), Bk.Good w l → (∀ c ∈ cs, c.length = w / 8) → cs.Nodup → (∀ c ∈ cs, ∀ n ∈ l, n.code ≠ c) → Bk.Good w (cs.foldl Bk.hang l)
  | [], l, h, _, _, _ => h
  | c :: cs, l, h, hl, hd, hn => by
    rw [List.foldl_cons]
    obtain ⟨h1, h2⟩ := List.nodup_cons.1 hd
    refine Bk.Good.fold cs _ (h.hang (hl c (List.mem_cons_self ..)) (hn c (List.mem_cons_self ..))) (fun x hx => hl x (List.mem_cons_of_mem _ hx)) h2 fun x hx n hm => ?_
    obtain ⟨y, he, hy, _⟩ := Bk.hang_mem l c
    rw [he, List.mem_append, List.mem_singleton] at hm
    rcases hm with hm | rfl
    · exact hn x (List.mem_cons_of_mem _ hx) n hm
    · rw [hy]; exact fun e => h1 (e ▸ hx)
theorem Bk.Good.codes {w : Nat} {l : List Bk.N} (h : Bk.Good w l) : (l.map fun n => n.code).Nodup := by
  unfold List.Nodup
  rw [List.pairwise_map, List.pairwise_iff_getElem]
  intro i j hi hj hij he
  have := h.nodup i j _ _ (List.getElem?_eq_getElem hi) (List.getElem?_eq_getElem hj) he
  omega
theorem Bk.rising_perm (l : List Bk.N) : (Bk.rising l).Perm ((l.filter fun n => n.live).map fun n => n.code) := List.mergeSort_perm _ _
theorem Bk.Good.rising {w : Nat} {l : List Bk.N} (h : Bk.Good w l) : (Bk.rising l).Nodup ∧ ∀ c ∈ Bk.rising l, c.length = w / 8 := by
  refine ⟨(Bk.rising_perm l).nodup_iff.2 (List.Nodup.sublist (List.Sublist.map _ List.filter_sublist) h.codes), fun c hc => ?_⟩
  have := (Bk.rising_perm l).mem_iff.1 hc
  obtain ⟨n, hn, rfl⟩ := List.mem_map.1 this
  exact h.len n (List.mem_filter.1 hn).1
theorem Bk.Good.anew {w : Nat} {l : List Bk.N} (h : Bk.Good w l) : Bk.Good w (Bk.anew l) :=
  Bk.Good.fold _ _ (Bk.Good.nil w) h.rising.2 h.rising.1 fun c _ n hn => by cases hn
theorem Bk.Good.swept {w : Nat} {l : List Bk.N} (h : Bk.Good w l) : Bk.Good w (Bk.swept l) := by
  unfold Bk.swept; split
  · exact h.anew
  · exact h
theorem Bk.Good.add {t : Bk.T} (h : Bk.Good t.w t.l) (c : List UInt8) : Bk.Good t.w (Bk.add t c).1.l ∧ (Bk.add t c).1.w = t.w := by
  unfold Bk.add
  split
  · rename_i hc
    cases hf : Bk.find t.l c with
    | none => exact ⟨h.hang hc (Bk.find_none hf), rfl⟩
    | some i => exact ⟨h.setLive i true, rfl⟩
  · exact ⟨h, rfl⟩
theorem Bk.Good.drop {t : Bk.T} (h : Bk.Good t.w t.l) (c : List UInt8) : Bk.Good t.w (Bk.drop t c).1.l ∧ (Bk.drop t c).1.w = t.w := by
  unfold Bk.drop
  cases hf : Bk.find t.l c with
  | none => exact ⟨h, rfl⟩
  | some i =>
    show Bk.Good t.w (ite _ _ _ : Bk.T × Bool).1.l ∧ (ite _ _ _ : Bk.T × Bool).1.w = t.w
    split
    · exact ⟨(h.setLive i false).swept, rfl⟩
    · exact ⟨h, rfl⟩
end Go.Proofs.YtlfeibaghfcpaaaDoor
