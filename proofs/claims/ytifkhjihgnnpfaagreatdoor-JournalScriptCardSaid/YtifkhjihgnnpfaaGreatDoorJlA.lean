/- Reading a journal's file: the plain function on bytes, by a fold over frames too. No conditions but each theorem's own. -/
import Derived.Test.YtifkhjihgnnpfaaGreatDoorJnP
namespace Go.Proofs.YtifkhjihgnnpfaaGreatDoor.Jn
open Sl
set_option linter.unusedVariables false

/-- A frame that was read, its place, the place behind it. -/
structure Fr where
  kind : Nat
  pay : ByteArray
  at_ : Nat
  end_ : Nat
/-- The updates so far, and where they end, behind one more frame. -/
def step (seq w : Nat) (st : List Upd × Nat) (x : Fr) : Option (List Upd × Nat) :=
  if (Jn.pay x.kind x.pay.data.toList w).err = 0 ∧ (Jn.pay x.kind x.pay.data.toList w).seq = seq + st.1.length + 1 then some (st.1 ++ [Jn.pay x.kind x.pay.data.toList w], x.end_) else none
/-- .. behind several. -/
def run (seq w : Nat) (l : List Fr) : Option (List Upd × Nat) := l.foldlM (step seq w) ([], 0)
theorem run_snoc (seq w : Nat) (l : List Fr) (x : Fr) : run seq w (l ++ [x]) = (run seq w l).bind fun st => step seq w st x := by
  unfold run
  rw [List.foldlM_append]
  cases List.foldlM (step seq w) ([], 0) l with
  | none => rfl
  | some st =>
    show List.foldlM (step seq w) st [x] = step seq w st x
    rw [List.foldlM_cons]
    cases step seq w st x <;> rfl
/-- What a file's bytes from a place on tell, behind these updates. -/
def told (seq w : Nat) : Nat → List UInt8 → Nat → List Upd → Option (List Upd × Nat)
  | 0, _, i, acc => some (acc, i)
  | f + 1, l, i, acc =>
    if l.length = 0 then some (acc, i)
    else if ¬ (parse l).code = 0 then some (acc, i)
    else if (Jn.pay (parse l).kind (parse l).pay w).err = 0 ∧ (Jn.pay (parse l).kind (parse l).pay w).seq = seq + acc.length + 1 then told seq w f (l.drop (parse l).len) (i + (parse l).len) (acc ++ [Jn.pay (parse l).kind (parse l).pay w])
    else none
/-- What a file's bytes tell. -/
def look (b : List UInt8) (seq w : Nat) : Option (List Upd × Nat) := told seq w (b.length + 1) b 0 []

theorem parse_len (l : List UInt8) (h : (parse l).code = 0) : 14 ≤ (parse l).len ∧ (parse l).len ≤ l.length ∧ (parse l).kind ≤ 255 ∧ (parse l).pay.length ≤ 65536 := by
  obtain ⟨R, hR⟩ : ∃ R, parse l = R := ⟨_, rfl⟩
  rw [hR] at h ⊢
  obtain ⟨c, k, p, m⟩ := R
  obtain rfl : c = 0 := h
  obtain ⟨h1, h2, h3, h4, h5, _⟩ := frame_parse l k m p hR
  exact ⟨by show 14 ≤ m; omega, h5, h2, h3⟩

/-- These frames came first; the next one would begin there. -/
inductive Came (b : List UInt8) : List Fr → Nat → Prop
  | nil : Came b [] 0
  | snoc {l : List Fr} {i : Nat} (x : Fr) (h : Came b l i) (hi : i < b.length) (hc : (parse (b.drop i)).code = 0) (hk : x.kind = (parse (b.drop i)).kind) (hp : x.pay.data.toList = (parse (b.drop i)).pay) (ha : x.at_ = i) (he : x.end_ = i + (parse (b.drop i)).len) : Came b (l ++ [x]) x.end_
theorem Came.le {b : List UInt8} {l : List Fr} {i : Nat} (h : Came b l i) : i ≤ b.length ∧ l.length * 14 ≤ i := by
  induction h with
  | nil => exact ⟨Nat.zero_le _, Nat.le_refl _⟩
  | snoc x h hi hc hk hp ha he ih =>
    have := parse_len _ hc
    rw [List.length_drop] at this
    rw [List.length_append, List.length_singleton, he]
    omega
theorem Came.tells {b : List UInt8} {seq w : Nat} {l : List Fr} {i : Nat} (h : Came b l i) :
    (∀ acc g, run seq w l = some (acc, g) → g = i ∧ ∃ f, b.length < f + i ∧ look b seq w = told seq w f (b.drop i) i acc) ∧ (run seq w l = none → look b seq w = none) := by
  induction h with
  | nil =>
    refine ⟨fun acc g e => ?_, fun e => by cases e⟩
    obtain ⟨rfl, rfl⟩ := Prod.mk.inj (Option.some.inj e)
    exact ⟨rfl, b.length + 1, by omega, rfl⟩
  | @snoc l i x h hi hc hk hp ha he ih =>
    obtain ⟨ih1, ih2⟩ := ih
    rw [run_snoc]
    cases hr : run seq w l with
    | none => exact ⟨fun acc g e => (by cases e), fun _ => ih2 hr⟩
    | some st =>
      obtain ⟨acc0, g0⟩ := st
      obtain ⟨rfl, f, hf, hl⟩ := ih1 acc0 g0 hr
      have hlen := parse_len _ hc
      rw [List.length_drop] at hlen
      obtain ⟨f, rfl⟩ : ∃ k, f = k + 1 := ⟨f - 1, by omega⟩
      have hne : ¬ (b.drop g0).length = 0 := by rw [List.length_drop]; omega
      unfold told at hl
      rw [if_neg hne, if_neg (not_not_intro hc)] at hl
      show (∀ acc g, step seq w (acc0, g0) x = some (acc, g) → _) ∧ (step seq w (acc0, g0) x = none → _)
      unfold step
      rw [hk, hp]
      by_cases hg : (Jn.pay (parse (b.drop g0)).kind (parse (b.drop g0)).pay w).err = 0 ∧ (Jn.pay (parse (b.drop g0)).kind (parse (b.drop g0)).pay w).seq = seq + acc0.length + 1
      · rw [if_pos hg] at hl ⊢
        refine ⟨fun acc g e => ?_, fun e => by cases e⟩
        obtain ⟨rfl, rfl⟩ := Prod.mk.inj (Option.some.inj e)
        refine ⟨rfl, f, by omega, ?_⟩
        rw [hl, List.drop_drop, he]
      · rw [if_neg hg] at hl ⊢
        exact ⟨fun acc g e => (by cases e), fun _ => hl⟩
/-- All frames have come. -/
theorem Came.done {b : List UInt8} {seq w : Nat} {l : List Fr} {i : Nat} (h : Came b l i) (hd : ¬ i < b.length ∨ ¬ (parse (b.drop i)).code = 0) {acc : List Upd} {g : Nat} (hr : run seq w l = some (acc, g)) :
    g = i ∧ look b seq w = some (acc, i) := by
  obtain ⟨rfl, f, hf, hl⟩ := h.tells.1 acc g hr
  have := h.le.1
  refine ⟨rfl, ?_⟩
  rw [hl]
  obtain ⟨f, rfl⟩ : ∃ k, f = k + 1 := ⟨f - 1, by omega⟩
  unfold told
  rcases hd with hd | hd
  · rw [if_pos (by rw [List.length_drop]; omega)]
  · split
    · rfl
    · first | rfl | rw [if_pos hd]
theorem Came.fails {b : List UInt8} {seq w : Nat} {l : List Fr} {i : Nat} (h : Came b l i) (hr : run seq w l = none) : look b seq w = none := h.tells.2 hr
theorem run_len {seq w : Nat} : ∀ {l : List Fr} {acc : List Upd} {g : Nat}, run seq w l = some (acc, g) → acc.length = l.length := by
  suffices ∀ (l : List Fr) (st : List Upd × Nat) (acc : List Upd) (g : Nat), l.foldlM (step seq w) st = some (acc, g) → acc.length = st.1.length + l.length by
    intro l acc g h
    have := this l _ _ _ h
    rw [this]
    exact Nat.zero_add _
  intro l
  induction l with
  | nil =>
    intro st acc g h
    obtain rfl := Option.some.inj h
    rfl
  | cons x l ih =>
    intro st acc g h
    rw [List.foldlM_cons] at h
    cases hs : step seq w st x with
    | none => rw [hs] at h; cases h
    | some st2 =>
      rw [hs] at h
      have := ih st2 acc g h
      unfold step at hs
      split at hs
      · obtain rfl := Option.some.inj hs
        rw [this, List.length_append, List.length_singleton, List.length_cons]
        omega
      · cases hs
#print axioms Came.done
end Go.Proofs.YtifkhjihgnnpfaaGreatDoor.Jn
