/- A journal's file made of updates, and what is told of it: the plain laws. No conditions but each theorem's own. -/
import Derived.Test.YtifkhjihgnnpfaaGreatDoorJlA
import Derived.Test.YtifkhjihgnnpfaaGreatDoorJnC
namespace Go.Proofs.YtifkhjihgnnpfaaGreatDoor
open Go.RowKit
set_option linter.unusedVariables false

/-- An update's bytes. -/
def Jl.fb (u : Jn.Upd) : List UInt8 := Sl.frame u.kind (Sl.putVar u.seq ++ Sl.putVar u.id ++ u.code)
def Jl.bytes (us : List Jn.Upd) : List UInt8 := us.flatMap Jl.fb
/-- Does an update go, for codes of w bits? -/
structure Jl.Fit (w : Nat) (u : Jn.Upd) : Prop where
  err : u.err = 0
  seq : 1 ≤ u.seq ∧ u.seq ≤ 1152921504606846976
  id : u.id ≤ 281474976710656
  code : u.kind = 1 ∧ u.code.length = w / 8 ∨ u.kind = 2 ∧ u.code = []
theorem Jl.putVar_len (n : Nat) : (Sl.putVar n).length ≤ 10 := by
  have := (Sl.pvf_len 9 n).2
  show (Sl.pvf 9 n).length ≤ 10
  omega
theorem Jl.Fit.code_len {w : Nat} {u : Jn.Upd} (h : Jl.Fit w u) (hw : w ≤ 1024) : u.code.length ≤ 128 := by
  rcases h.code with ⟨_, h⟩ | ⟨_, h⟩
  · omega
  · rw [h]; exact Nat.zero_le _
theorem Jl.fb_len {w : Nat} {u : Jn.Upd} (h : Jl.Fit w u) (hw : w ≤ 1024) : (Jl.fb u).length ≤ 34 + u.code.length ∧ 14 ≤ (Jl.fb u).length := by
  have h1 := Jl.putVar_len u.seq
  have h2 := Jl.putVar_len u.id
  unfold Jl.fb
  rw [Sl.frame_len, List.length_append, List.length_append]
  omega
theorem Jl.parse_fb {w : Nat} {u : Jn.Upd} (h : Jl.Fit w u) (hw : w ≤ 1024) (rest : List UInt8) :
    Sl.parse (Jl.fb u ++ rest) = ⟨0, u.kind, Sl.putVar u.seq ++ Sl.putVar u.id ++ u.code, (Jl.fb u).length⟩ ∧ Jn.pay u.kind (Sl.putVar u.seq ++ Sl.putVar u.id ++ u.code) w = u := by
  have h1 := Jl.putVar_len u.seq
  have h2 := Jl.putVar_len u.id
  have h3 := h.code_len hw
  have hk : u.kind = 1 ∨ u.kind = 2 := by rcases h.code with ⟨a, _⟩ | ⟨a, _⟩ <;> omega
  have hl : (Sl.putVar u.seq ++ Sl.putVar u.id ++ u.code).length ≤ 65536 := by rw [List.length_append, List.length_append]; omega
  refine ⟨?_, ?_⟩
  · have := Sl.parse_frame u.kind (Sl.putVar u.seq ++ Sl.putVar u.id ++ u.code) rest (by omega) (by omega) hl
    unfold Jl.fb
    rw [this, Sl.frame_len]
  · rw [pay_back u.seq u.kind u.id w u.code h.seq.1 h.seq.2 h.id hk, if_neg]
    · rw [← h.err]
    · rintro (⟨a, b⟩ | ⟨a, b⟩)
      · rcases h.code with ⟨_, c⟩ | ⟨c, _⟩
        · exact b c
        · omega
      · rcases h.code with ⟨c, _⟩ | ⟨_, c⟩
        · omega
        · rw [c] at b; exact b rfl
theorem Jl.told_bytes (seq w : Nat) (hw : w ≤ 1024) : ∀ (us : List Jn.Upd) (f : Nat) (rest : List UInt8) (i : Nat) (acc : List Jn.Upd), (∀ j u, us[j]? = some u → Jl.Fit w u ∧ u.seq = seq + acc.length + 1 + j) →
    Jn.told seq w (f + us.length) (Jl.bytes us ++ rest) i acc = Jn.told seq w f rest (i + (Jl.bytes us).length) (acc ++ us)
  | [], f, rest, i, acc, _ => by
    rw [List.append_nil]; rfl
  | u :: us, f, rest, i, acc, h => by
    obtain ⟨hu, hs⟩ := h 0 u rfl
    have e1 : Jl.bytes (u :: us) ++ rest = Jl.fb u ++ (Jl.bytes us ++ rest) := by
      show (Jl.fb u ++ Jl.bytes us) ++ rest = _
      rw [List.append_assoc]
    obtain ⟨hp, hy⟩ := Jl.parse_fb hu hw (Jl.bytes us ++ rest)
    have hl := (Jl.fb_len hu hw).2
    rw [e1, List.length_cons]
    show Jn.told seq w ((f + us.length) + 1) _ i acc = _
    conv => lhs; unfold Jn.told
    rw [if_neg (by rw [List.length_append]; omega), hp]
    simp only
    rw [hy, if_neg (not_not_intro trivial), if_pos ⟨hu.err, by omega⟩, List.drop_left' rfl,
      Jl.told_bytes seq w hw us f rest (i + (Jl.fb u).length) (acc ++ [u]) (fun j x hx => by
        obtain ⟨a, b⟩ := h (j + 1) x hx
        refine ⟨a, ?_⟩
        rw [List.length_append, List.length_singleton]
        omega)]
    have e2 : (Jl.bytes (u :: us)).length = (Jl.fb u).length + (Jl.bytes us).length := by
      show (Jl.fb u ++ Jl.bytes us).length = _
      rw [List.length_append]
    rw [e2, List.append_assoc, Nat.add_assoc]
    rfl
theorem Jl.bytes_len {w : Nat} (hw : w ≤ 1024) : ∀ (us : List Jn.Upd), (∀ u ∈ us, Jl.Fit w u) → us.length * 14 ≤ (Jl.bytes us).length ∧ (Jl.bytes us).length ≤ us.length * 162
  | [], _ => ⟨Nat.le_refl _, Nat.le_refl _⟩
  | u :: us, h => by
    have h1 := Jl.fb_len (h u (List.mem_cons_self ..)) hw
    have h2 := Jl.bytes_len hw us fun x hx => h x (List.mem_cons_of_mem _ hx)
    have h3 := (h u (List.mem_cons_self ..)).code_len hw
    have e2 : (Jl.bytes (u :: us)).length = (Jl.fb u).length + (Jl.bytes us).length := by
      show (Jl.fb u ++ Jl.bytes us).length = _
      rw [List.length_append]
    rw [e2, List.length_cons]
    omega
/-- One number behind the other, from seq on. -/
def Jl.Rows (seq w : Nat) (us : List Jn.Upd) : Prop := ∀ j u, us[j]? = some u → Jl.Fit w u ∧ u.seq = seq + 1 + j
theorem Jl.Rows.mem {seq w : Nat} {us : List Jn.Upd} (h : Jl.Rows seq w us) : ∀ u ∈ us, Jl.Fit w u := fun u hu => by
  obtain ⟨j, hj⟩ := List.getElem?_of_mem hu
  exact (h j u hj).1
theorem Jl.Rows.snoc {seq w : Nat} {us : List Jn.Upd} (h : Jl.Rows seq w us) {u : Jn.Upd} (hu : Jl.Fit w u) (hs : u.seq = seq + 1 + us.length) : Jl.Rows seq w (us ++ [u]) := fun j x hx => by
  rw [List.getElem?_append] at hx
  split at hx
  · exact h j x hx
  · rename_i hj
    rw [List.getElem?_singleton] at hx
    split at hx
    · obtain rfl := Option.some.inj hx
      exact ⟨hu, by omega⟩
    · cases hx
theorem Jl.bytes_snoc (us : List Jn.Upd) (u : Jn.Upd) : Jl.bytes (us ++ [u]) = Jl.bytes us ++ Jl.fb u := by simp [Jl.bytes]
/-- What stands behind good frames is told by its own first frame. -/
theorem Jl.look_rest {seq w : Nat} (hw : w ≤ 1024) {us : List Jn.Upd} (h : Jl.Rows seq w us) (rest : List UInt8) :
    ∃ f, Jn.look (Jl.bytes us ++ rest) seq w = Jn.told seq w (f + 1) rest (Jl.bytes us).length us := by
  have hl := Jl.bytes_len hw us h.mem
  refine ⟨(Jl.bytes us ++ rest).length - us.length, ?_⟩
  have := Jl.told_bytes seq w hw us ((Jl.bytes us ++ rest).length - us.length + 1) rest 0 [] (fun j u hu => by
    obtain ⟨a, b⟩ := h j u hu
    exact ⟨a, by simp; omega⟩)
  rw [Nat.zero_add, List.nil_append] at this
  rw [← this]
  unfold Jn.look
  congr 1
  rw [List.length_append]
  omega
theorem Jl.look_bytes {seq w : Nat} (hw : w ≤ 1024) {us : List Jn.Upd} (h : Jl.Rows seq w us) : Jn.look (Jl.bytes us) seq w = some (us, (Jl.bytes us).length) := by
  obtain ⟨f, hf⟩ := Jl.look_rest hw h []
  rw [List.append_nil] at hf
  rw [hf]
  unfold Jn.told
  rw [if_pos (show ([] : List UInt8).length = 0 from rfl)]
/-- A frame that does not go. -/
theorem Jl.look_bad {seq w : Nat} (hw : w ≤ 1024) {us : List Jn.Upd} (h : Jl.Rows seq w us) (k : Nat) (p rest : List UInt8) (hk : 1 ≤ k ∧ k ≤ 255) (hp : p.length ≤ 65536)
    (hb : ¬ ((Jn.pay k p w).err = 0 ∧ (Jn.pay k p w).seq = seq + us.length + 1)) : Jn.look (Jl.bytes us ++ (Sl.frame k p ++ rest)) seq w = none := by
  obtain ⟨f, hf⟩ := Jl.look_rest hw h (Sl.frame k p ++ rest)
  rw [hf]
  unfold Jn.told
  rw [if_neg (by rw [List.length_append, Sl.frame_len]; omega), Sl.parse_frame k p rest hk.1 hk.2 hp]
  simp only
  rw [if_neg (not_not_intro trivial), if_neg hb]
/-- The frames that the law forges, k updates being there. -/
def Jl.forged (k how : Nat) : List UInt8 :=
  if how = 0 then Sl.frame 3 (Sl.putVar (k + 1) ++ Sl.putVar 5)
  else if how = 1 then Sl.frame 2 (Sl.putVar (k + 2) ++ Sl.putVar 5)
  else if how = 2 then Sl.frame 1 (Sl.putVar (k + 1) ++ Sl.putVar 5 ++ [49, 50, 51, 52, 53, 54, 55])
  else if how = 3 then Sl.frame 2 (Sl.putVar (k + 1) ++ Sl.putVar 5 ++ [120])
  else if how = 4 then Sl.frame 2 (Sl.putVar (k + 1) ++ Sl.putVar 281474976710657)
  else Sl.frame 2 (Sl.putVar (k + 1))
theorem Jl.forged_len (k how : Nat) : (Jl.forged k how).length ≤ 41 := by
  have h1 := Jl.putVar_len (k + 1)
  have h2 := Jl.putVar_len (k + 2)
  have h3 := Jl.putVar_len 5
  have h4 := Jl.putVar_len 281474976710657
  unfold Jl.forged
  repeat' split
  all_goals
    rw [Sl.frame_len]
    try simp only [List.length_append, List.length_cons, List.length_nil]
    omega
theorem Jl.forged_bad {us : List Jn.Upd} (h : Jl.Rows 0 64 us) (hl : us.length ≤ 60) (how : Nat) (rest : List UInt8) : Jn.look (Jl.bytes us ++ (Jl.forged us.length how ++ rest)) 0 64 = none := by
  have h1 := Jl.putVar_len (us.length + 1)
  have h2 := Jl.putVar_len (us.length + 2)
  have h3 := Jl.putVar_len 5
  have h4 := Jl.putVar_len 281474976710657
  unfold Jl.forged
  split
  · refine Jl.look_bad (by decide) h 3 _ rest (by decide) (by rw [List.length_append]; omega) ?_
    rintro ⟨he, _⟩
    unfold Jn.pay at he
    rw [if_pos (by decide)] at he
    exact absurd he (by decide)
  split
  · refine Jl.look_bad (by decide) h 2 _ rest (by decide) (by rw [List.length_append]; omega) ?_
    have := pay_back (us.length + 2) 2 5 64 [] (by omega) (by omega) (by decide) (.inr rfl)
    rw [List.append_nil] at this
    rw [this, if_neg (by simp)]
    rintro ⟨_, he⟩
    simp only at he
    omega
  split
  · refine Jl.look_bad (by decide) h 1 _ rest (by decide) (by simp only [List.length_append, List.length_cons, List.length_nil]; omega) ?_
    rw [pay_back (us.length + 1) 1 5 64 _ (by omega) (by omega) (by decide) (.inl rfl), if_pos (by simp)]
    rintro ⟨he, _⟩
    exact absurd he (by decide)
  split
  · refine Jl.look_bad (by decide) h 2 _ rest (by decide) (by simp only [List.length_append, List.length_cons, List.length_nil]; omega) ?_
    rw [pay_back (us.length + 1) 2 5 64 _ (by omega) (by omega) (by decide) (.inr rfl), if_pos (by simp)]
    rintro ⟨he, _⟩
    exact absurd he (by decide)
  split
  · refine Jl.look_bad (by decide) h 2 _ rest (by decide) (by rw [List.length_append]; omega) ?_
    rintro ⟨he, _⟩
    have v1 : Sl.var (Sl.putVar (us.length + 1) ++ Sl.putVar 281474976710657) = ⟨0, us.length + 1, (Sl.putVar (us.length + 1)).length⟩ := Sl.var_putVar _ _ (by omega)
    have v2 : Sl.var (Sl.putVar 281474976710657) = ⟨0, 281474976710657, (Sl.putVar 281474976710657).length⟩ := by
      have := Sl.var_putVar 281474976710657 [] (by decide)
      rwa [List.append_nil] at this
    unfold Jn.pay at he
    rw [if_neg (by decide), v1] at he
    simp only at he
    rw [List.drop_left' rfl, v2] at he
    simp only at he
    rw [if_neg (not_not_intro trivial), if_neg (by omega), if_neg (not_not_intro trivial), if_pos (by decide)] at he
    exact absurd he (by decide)
  · refine Jl.look_bad (by decide) h 2 _ rest (by decide) (by omega) ?_
    rintro ⟨he, _⟩
    have v1 : Sl.var (Sl.putVar (us.length + 1)) = ⟨0, us.length + 1, (Sl.putVar (us.length + 1)).length⟩ := by
      have := Sl.var_putVar (us.length + 1) [] (by omega)
      rwa [List.append_nil] at this
    have v2 : Sl.var [] = ⟨31, 0, 0⟩ := rfl
    unfold Jn.pay at he
    rw [if_neg (by decide), v1] at he
    simp only at he
    rw [List.drop_length, v2] at he
    simp only at he
    rw [if_neg (not_not_intro trivial), if_neg (by omega), if_pos (by decide)] at he
    exact absurd he (by decide)
#print axioms Jl.forged_bad
end Go.Proofs.YtifkhjihgnnpfaaGreatDoor
