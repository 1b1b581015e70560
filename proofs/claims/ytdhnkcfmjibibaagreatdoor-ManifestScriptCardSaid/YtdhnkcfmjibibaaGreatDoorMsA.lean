/- The manifest on a disk, plain: what Store and Load do to a disk's files. Conditions: each theorem's own hypotheses. -/
import Derived.Test.YtdhnkcfmjibibaaGreatDoorZDkAA
import Derived.Test.YtdhnkcfmjibibaaGreatDoorZDkDD
namespace Go.Proofs.YtdhnkcfmjibibaaGreatDoor
open Go.RowKit
set_option linter.unusedVariables false

def Ms.nm : List UInt8 := [109, 97, 110, 105, 102, 101, 115, 116]
def Ms.nw : List UInt8 := [109, 97, 110, 105, 102, 101, 115, 116, 46, 110, 101, 119]
theorem Ms.nm_named : Dk.named Ms.nm = true := by decide
theorem Ms.nw_named : Dk.named Ms.nw = true := by decide
theorem Ms.ne : Ms.nw ≠ Ms.nm := by decide
theorem Ms.create_good {m : Dk.M} (hG : Dk.Good m) (nm : List UInt8) : Dk.Good (Dk.create m nm).1 := by
  unfold Dk.create
  split
  · exact hG
  split
  · exact hG
  rename_i h1 h2
  obtain ⟨q1, q2, q3⟩ := Dk.code_none (Decidable.not_not.1 h2)
  split
  · exact hG
  · refine Dk.acc_good hG _ _ (Dk.up_ins Dk.F.name _ hG.up fun y hy => Dk.get_none q2 y hy) (fun f hf => ?_) (by rw [Dk.len_ins]; omega) (by rw [Dk.used_ins]; show 0 + _ ≤ _; have := hG.used; omega)
    rcases (Dk.mem_ins Dk.F.name).1 hf with rfl | hf
    · exact ⟨q1, Nat.zero_le _, Nat.le_refl _⟩
    · exact hG.file f hf
/-- What stands under the fresh name is taken away. -/
def Ms.s1 (m : Dk.M) : Dk.M × Int := if Dk.code m Ms.nw = 0 then Dk.delete m Ms.nw else (m, 0)
def Ms.s3 (m : Dk.M) (b : List UInt8) : Dk.M × Int := if (Dk.append m Ms.nw b).2 = 0 ∨ (Dk.append m Ms.nw b).2 = 45 then Dk.append m Ms.nw b else ((Dk.delete (Dk.append m Ms.nw b).1 Ms.nw).1, (Dk.append m Ms.nw b).2)
def Ms.s45 (m : Dk.M) : Dk.M × Int := if (Dk.sync m Ms.nw).2 ≠ 0 then Dk.sync m Ms.nw else Dk.rename (Dk.sync m Ms.nw).1 Ms.nw Ms.nm
def Ms.s345 (m : Dk.M) (b : List UInt8) : Dk.M × Int := if (Ms.s3 m b).2 ≠ 0 then Ms.s3 m b else Ms.s45 (Ms.s3 m b).1
def Ms.s2345 (m : Dk.M) (b : List UInt8) : Dk.M × Int := if (Dk.create m Ms.nw).2 ≠ 0 then Dk.create m Ms.nw else Ms.s345 (Dk.create m Ms.nw).1 b
/-- Bytes are stored. -/
def Ms.storeD (m : Dk.M) (b : List UInt8) : Dk.M × Int := if (Ms.s1 m).2 ≠ 0 then Ms.s1 m else Ms.s2345 (Ms.s1 m).1 b

/-- The files of such a disk. -/
def Ms.fs (o x : Option (List UInt8 × Nat)) : List Dk.F := (o.map fun p => (⟨Ms.nm, p.1, p.2⟩ : Dk.F)).toList ++ (x.map fun p => (⟨Ms.nw, p.1, p.2⟩ : Dk.F)).toList
theorem Ms.get_nw (o x : Option (List UInt8 × Nat)) : Dk.get Dk.F.name Ms.nw (Ms.fs o x) = x.map fun p => (⟨Ms.nw, p.1, p.2⟩ : Dk.F) := by cases o <;> cases x <;> rfl
theorem Ms.get_nm (o x : Option (List UInt8 × Nat)) : Dk.get Dk.F.name Ms.nm (Ms.fs o x) = o.map fun p => (⟨Ms.nm, p.1, p.2⟩ : Dk.F) := by cases o <;> cases x <;> rfl
theorem Ms.del_nw (o x : Option (List UInt8 × Nat)) : Dk.del Dk.F.name Ms.nw (Ms.fs o x) = Ms.fs o none := by cases o <;> cases x <;> rfl
theorem Ms.ins_nw (o : Option (List UInt8 × Nat)) : Dk.ins Dk.F.name (Dk.empty Ms.nw) (Ms.fs o none) = Ms.fs o (some ([], 0)) := by cases o <;> rfl
theorem Ms.upd_nw (o : Option (List UInt8 × Nat)) (p q : List UInt8 × Nat) : Dk.upd Ms.nw ⟨Ms.nw, q.1, q.2⟩ (Ms.fs o (some p)) = Ms.fs o (some q) := by cases o <;> rfl
theorem Ms.ren_nw (o : Option (List UInt8 × Nat)) (p : List UInt8 × Nat) : Dk.ren Ms.nw Ms.nm ⟨Ms.nw, p.1, p.2⟩ (Ms.fs o (some p)) = Ms.fs (some p) none := by
  unfold Dk.ren
  rw [if_neg Ms.ne]
  cases o <;> rfl
theorem Ms.fs_len (o x : Option (List UInt8 × Nat)) : (Ms.fs o x).length ≤ 2 := by cases o <;> cases x <;> simp [Ms.fs]
theorem Ms.used_add (o : Option (List UInt8 × Nat)) (p : List UInt8 × Nat) : Dk.used (Ms.fs o (some p)) = Dk.used (Ms.fs o none) + p.1.length := by
  cases o <;> simp [Ms.fs, Dk.used]
section
variable {m : Dk.M} {o x : Option (List UInt8 × Nat)} {p : List UInt8 × Nat} {c : List UInt8}
theorem Ms.code_nw (ho : m.off = false) (hf : m.files = Ms.fs o x) : Dk.code m Ms.nw = if x.isSome = true then 0 else 42 := by
  unfold Dk.code
  rw [ho, if_neg (by decide), Ms.nw_named, if_pos rfl, hf, Ms.get_nw]
  cases x <;> rfl
theorem Ms.code_nm (ho : m.off = false) (hf : m.files = Ms.fs o x) : Dk.code m Ms.nm = if o.isSome = true then 0 else 42 := by
  unfold Dk.code
  rw [ho, if_neg (by decide), Ms.nm_named, if_pos rfl, hf, Ms.get_nm]
  cases o <;> rfl
theorem Ms.data_nm (hf : m.files = Ms.fs (some p) x) : Dk.data m Ms.nm = p.1 := by
  unfold Dk.data
  rw [hf, Ms.get_nm]; rfl
theorem Ms.file_nw (hf : m.files = Ms.fs o (some p)) : Dk.file m Ms.nw = ⟨Ms.nw, p.1, p.2⟩ := by
  unfold Dk.file
  rw [hf, Ms.get_nw]; rfl
/-- A write that goes. -/
structure Ms.Al (m m' : Dk.M) (fs : List Dk.F) : Prop where
  off : m'.off = false
  cap : m'.cap = m.cap
  files : m'.files = fs
  done : m'.done = m.done
  left : m.left = 0 → m'.left = 0
/-- A write at which the power goes. -/
structure Ms.Dn (m m' : Dk.M) (P : List Dk.F → Prop) : Prop where
  one : m.left ≠ 0
  off : m'.off = true
  cap : m'.cap = m.cap
  files : P m'.files
theorem Ms.acc_two (ho : m.off = false) (b : Bool) (fs : List Dk.F) : (∃ m', Dk.acc m b fs = (m', 0) ∧ Ms.Al m m' fs) ∨ ∃ m', Dk.acc m b fs = (m', 45) ∧ Ms.Dn m m' (fun l => l = if b = true then fs else m.files) := by
  unfold Dk.acc
  by_cases h0 : m.left = 0
  · rw [if_pos h0]
    exact .inl ⟨_, rfl, ho, rfl, rfl, rfl, fun h => h⟩
  · rw [if_neg h0]
    by_cases h1 : 1 < m.left
    · rw [if_pos h1]
      exact .inl ⟨_, rfl, ho, rfl, rfl, rfl, fun h => absurd h h0⟩
    · rw [if_neg h1]
      exact .inr ⟨_, rfl, h0, rfl, rfl, rfl⟩
theorem Ms.delete_step (ho : m.off = false) (hf : m.files = Ms.fs o (some p)) : (∃ m', Dk.delete m Ms.nw = (m', 0) ∧ Ms.Al m m' (Ms.fs o none)) ∨ ∃ m', Dk.delete m Ms.nw = (m', 45) ∧ Ms.Dn m m' (fun l => l = Ms.fs o none ∨ l = Ms.fs o (some p)) := by
  have hc := Ms.code_nw ho hf
  rw [if_pos (by rfl)] at hc
  unfold Dk.delete
  rw [if_neg (not_not_intro hc), hf, Ms.del_nw]
  rcases Ms.acc_two ho m.done (Ms.fs o none) with h | ⟨m', h1, h2⟩
  · exact .inl h
  · refine .inr ⟨m', h1, h2.one, h2.off, h2.cap, ?_⟩
    rw [h2.files, hf]
    split
    · exact .inl rfl
    · exact .inr rfl
theorem Ms.create_step (ho : m.off = false) (hf : m.files = Ms.fs o none) : (∃ m', Dk.create m Ms.nw = (m', 0) ∧ Ms.Al m m' (Ms.fs o (some ([], 0)))) ∨ ∃ m', Dk.create m Ms.nw = (m', 45) ∧ Ms.Dn m m' (fun l => l = Ms.fs o none ∨ l = Ms.fs o (some ([], 0))) := by
  have hc := Ms.code_nw ho hf
  rw [if_neg (by decide)] at hc
  have hl := Ms.fs_len o none
  unfold Dk.create
  rw [hc, if_neg (by decide), if_neg (by decide), hf, if_neg (by omega), Ms.ins_nw]
  rcases Ms.acc_two ho m.done (Ms.fs o (some ([], 0))) with h | ⟨m', h1, h2⟩
  · exact .inl h
  · refine .inr ⟨m', h1, h2.one, h2.off, h2.cap, ?_⟩
    rw [h2.files, hf]
    split
    · exact .inr rfl
    · exact .inl rfl
theorem Ms.append_step (ho : m.off = false) (hf : m.files = Ms.fs o (some ([], 0))) (hc : c.length ≤ 100000) (hr : c.length + Dk.used (Ms.fs o none) ≤ m.cap) : (∃ m', Dk.append m Ms.nw c = (m', 0) ∧ Ms.Al m m' (Ms.fs o (some (c, 0)))) ∨ ∃ m', Dk.append m Ms.nw c = (m', 45) ∧ Ms.Dn m m' (fun l => l = Ms.fs o (some (c, 0))) := by
  have hcd := Ms.code_nw ho hf
  rw [if_pos (by rfl)] at hcd
  unfold Dk.append
  rw [if_neg (not_not_intro hcd), Ms.file_nw hf, if_neg (by show ¬ (268435456 - 0 < c.length); omega), if_neg, hf, show Dk.grow ⟨Ms.nw, ([] : List UInt8), 0⟩ c = ⟨Ms.nw, c, 0⟩ from rfl, Ms.upd_nw o ([], 0) (c, 0)]
  · rcases Ms.acc_two ho true (Ms.fs o (some (c, 0))) with h | ⟨m', h1, h2⟩
    · exact .inl h
    · exact .inr ⟨m', h1, h2.one, h2.off, h2.cap, by rw [h2.files, if_pos rfl]⟩
  · rintro ⟨_, h⟩
    rw [hf, Ms.used_add] at h
    simp at h
    omega
theorem Ms.append_full (ho : m.off = false) (hf : m.files = Ms.fs o (some ([], 0))) (hc : c.length ≤ 100000) (hr : ¬ c.length + Dk.used (Ms.fs o none) ≤ m.cap) : Dk.append m Ms.nw c = (m, 44) ∨ c = [] := by
  have hcd := Ms.code_nw ho hf
  rw [if_pos (by rfl)] at hcd
  by_cases h0 : c = []
  · exact .inr h0
  · left
    unfold Dk.append
    rw [if_neg (not_not_intro hcd), Ms.file_nw hf, if_neg (by show ¬ (268435456 - 0 < c.length); omega), if_pos]
    refine ⟨h0, ?_⟩
    rw [hf, Ms.used_add]
    show m.cap - (Dk.used (Ms.fs o none) + 0) < c.length
    have : 0 < c.length := List.length_pos_iff.2 h0
    omega
theorem Ms.sync_step (ho : m.off = false) (hf : m.files = Ms.fs o (some (c, 0))) : (∃ m', Dk.sync m Ms.nw = (m', 0) ∧ Ms.Al m m' (Ms.fs o (some (c, c.length)))) ∨ ∃ m', Dk.sync m Ms.nw = (m', 45) ∧ Ms.Dn m m' (fun l => l = Ms.fs o (some (c, 0))) := by
  have hcd := Ms.code_nw ho hf
  rw [if_pos (by rfl)] at hcd
  unfold Dk.sync
  rw [if_neg (not_not_intro hcd), Ms.file_nw hf, hf, show Dk.synced ⟨Ms.nw, c, 0⟩ = ⟨Ms.nw, c, c.length⟩ from rfl, Ms.upd_nw o (c, 0) (c, c.length)]
  rcases Ms.acc_two ho false (Ms.fs o (some (c, c.length))) with h | ⟨m', h1, h2⟩
  · exact .inl h
  · exact .inr ⟨m', h1, h2.one, h2.off, h2.cap, by rw [h2.files, if_neg (by decide), hf]⟩
theorem Ms.rename_step (ho : m.off = false) (hf : m.files = Ms.fs o (some p)) : (∃ m', Dk.rename m Ms.nw Ms.nm = (m', 0) ∧ Ms.Al m m' (Ms.fs (some p) none)) ∨ ∃ m', Dk.rename m Ms.nw Ms.nm = (m', 45) ∧ Ms.Dn m m' (fun l => l = Ms.fs (some p) none ∨ l = Ms.fs o (some p)) := by
  have hcd := Ms.code_nw ho hf
  rw [if_pos (by rfl)] at hcd
  unfold Dk.rename
  rw [hcd, if_neg (by decide), if_neg (by rw [Ms.nm_named]; decide), if_neg (by decide), Ms.file_nw hf, hf, Ms.ren_nw]
  rcases Ms.acc_two ho m.done (Ms.fs (some p) none) with h | ⟨m', h1, h2⟩
  · exact .inl h
  · refine .inr ⟨m', h1, h2.one, h2.off, h2.cap, ?_⟩
    rw [h2.files, hf]
    split
    · exact .inl rfl
    · exact .inr rfl
/-- What may stand under the fresh name. -/
def Ms.Fr (x : Option (List UInt8 × Nat)) : Prop := ∀ p, x = some p → p.2 ≤ p.1.length ∧ p.1.length ≤ 100000
/-- How a Store ends: it is whole, or the power went. -/
def Ms.Out (m : Dk.M) (o : Option (List UInt8 × Nat)) (c : List UInt8) (r : Dk.M × Int) : Prop :=
  (r.2 = 0 ∧ r.1.off = false ∧ r.1.cap = m.cap ∧ r.1.files = Ms.fs (some (c, c.length)) none ∧ (m.left = 0 → r.1.left = 0)) ∨
  (r.2 = 45 ∧ m.left ≠ 0 ∧ r.1.off = true ∧ r.1.cap = m.cap ∧ (r.1.files = Ms.fs (some (c, c.length)) none ∨ ∃ x, Ms.Fr x ∧ r.1.files = Ms.fs o x))
theorem Ms.fr_none : Ms.Fr none := fun p h => by cases h
theorem Ms.out_45 (ho : m.off = false) (hf : m.files = Ms.fs o (some (c, 0))) (hc : c.length ≤ 100000) : Ms.Out m o c (Ms.s45 m) := by
  unfold Ms.s45
  rcases Ms.sync_step ho hf with ⟨m1, e, a⟩ | ⟨m1, e, a⟩
  · rw [e, if_neg (by simp)]
    rcases Ms.rename_step a.off a.files with ⟨m2, e2, b⟩ | ⟨m2, e2, b⟩
    · rw [e2]
      exact .inl ⟨rfl, b.off, b.cap.trans a.cap, b.files, fun h => b.left (a.left h)⟩
    · rw [e2]
      refine .inr ⟨rfl, fun h => b.one (a.left h), b.off, b.cap.trans a.cap, ?_⟩
      rcases b.files with h | h
      · exact .inl h
      · exact .inr ⟨_, fun p hp => by obtain rfl := Option.some.inj hp; exact ⟨Nat.le_refl _, hc⟩, h⟩
  · rw [e, if_pos (by simp)]
    exact .inr ⟨rfl, a.one, a.off, a.cap, .inr ⟨_, fun p hp => by obtain rfl := Option.some.inj hp; exact ⟨Nat.zero_le _, hc⟩, a.files⟩⟩
theorem Ms.Out.on {m m1 : Dk.M} {r : Dk.M × Int} {fs : List Dk.F} (a : Ms.Al m m1 fs) (h : Ms.Out m1 o c r) : Ms.Out m o c r := by
  rcases h with ⟨h1, h2, h3, h4, h5⟩ | ⟨h1, h2, h3, h4, h5⟩
  · exact .inl ⟨h1, h2, h3.trans a.cap, h4, fun h => h5 (a.left h)⟩
  · exact .inr ⟨h1, fun h => h2 (a.left h), h3, h4.trans a.cap, h5⟩
theorem Ms.out_345 (ho : m.off = false) (hf : m.files = Ms.fs o (some ([], 0))) (hc : c.length ≤ 100000) (hr : c.length + Dk.used (Ms.fs o none) ≤ m.cap) : Ms.Out m o c (Ms.s345 m c) := by
  unfold Ms.s345
  rcases Ms.append_step ho hf hc hr with ⟨m1, e, a⟩ | ⟨m1, e, a⟩
  · have h3 : Ms.s3 m c = (m1, 0) := by unfold Ms.s3; rw [e, if_pos (.inl rfl)]
    rw [h3, if_neg (by simp)]
    exact (Ms.out_45 a.off a.files hc).on a
  · have h3 : Ms.s3 m c = (m1, 45) := by unfold Ms.s3; rw [e, if_pos (.inr rfl)]
    rw [h3, if_pos (by simp)]
    exact .inr ⟨rfl, a.one, a.off, a.cap, .inr ⟨_, fun p hp => by obtain rfl := Option.some.inj hp; exact ⟨Nat.zero_le _, hc⟩, a.files⟩⟩
theorem Ms.out_2345 (ho : m.off = false) (hf : m.files = Ms.fs o none) (hc : c.length ≤ 100000) (hr : c.length + Dk.used (Ms.fs o none) ≤ m.cap) : Ms.Out m o c (Ms.s2345 m c) := by
  unfold Ms.s2345
  rcases Ms.create_step ho hf with ⟨m1, e, a⟩ | ⟨m1, e, a⟩
  · rw [e, if_neg (by simp)]
    exact (Ms.out_345 a.off a.files hc (by rw [a.cap]; exact hr)).on a
  · rw [e, if_pos (by simp)]
    refine .inr ⟨rfl, a.one, a.off, a.cap, .inr ?_⟩
    rcases a.files with h | h
    · exact ⟨_, Ms.fr_none, h⟩
    · exact ⟨_, fun p hp => by obtain rfl := Option.some.inj hp; exact ⟨Nat.le_refl _, Nat.zero_le _⟩, h⟩
theorem Ms.store_out (ho : m.off = false) (hf : m.files = Ms.fs o x) (hx : Ms.Fr x) (hc : c.length ≤ 100000) (hr : c.length + Dk.used (Ms.fs o none) ≤ m.cap) : Ms.Out m o c (Ms.storeD m c) := by
  have hcd := Ms.code_nw ho hf
  unfold Ms.storeD
  cases x with
  | none =>
    rw [if_neg (by decide)] at hcd
    have h1 : Ms.s1 m = (m, 0) := by unfold Ms.s1; rw [hcd, if_neg (by decide)]
    rw [h1, if_neg (by simp)]
    exact Ms.out_2345 ho hf hc hr
  | some p =>
    rw [if_pos (by rfl)] at hcd
    have h1 : Ms.s1 m = Dk.delete m Ms.nw := by unfold Ms.s1; rw [hcd, if_pos rfl]
    rw [h1]
    rcases Ms.delete_step ho hf with ⟨m1, e, a⟩ | ⟨m1, e, a⟩
    · rw [e, if_neg (by simp)]
      exact (Ms.out_2345 a.off a.files hc (by rw [a.cap]; exact hr)).on a
    · rw [e, if_pos (by simp)]
      refine .inr ⟨rfl, a.one, a.off, a.cap, .inr ?_⟩
      rcases a.files with h | h
      · exact ⟨_, Ms.fr_none, h⟩
      · exact ⟨_, hx, h⟩
/-- There is no room: nothing stays. -/
theorem Ms.store_full (ho : m.off = false) (hf : m.files = Ms.fs o none) (hl : m.left = 0) (hc : c.length ≤ 100000) (hc0 : c ≠ []) (hr : ¬ c.length + Dk.used (Ms.fs o none) ≤ m.cap) :
    ∃ m', Ms.storeD m c = (m', 44) ∧ m'.off = false ∧ m'.left = 0 ∧ m'.cap = m.cap ∧ m'.files = Ms.fs o none := by
  have hcd := Ms.code_nw ho hf
  rw [if_neg (by decide)] at hcd
  have h1 : Ms.s1 m = (m, 0) := by unfold Ms.s1; rw [hcd, if_neg (by decide)]
  unfold Ms.storeD
  rw [h1, if_neg (by simp)]
  unfold Ms.s2345
  rcases Ms.create_step ho hf with ⟨m1, e, a⟩ | ⟨m1, e, a⟩
  · rw [e, if_neg (by simp)]
    unfold Ms.s345
    rcases Ms.append_full (c := c) a.off a.files hc (by rw [a.cap]; exact hr) with e1 | e1
    · have h3 : Ms.s3 m1 c = ((Dk.delete m1 Ms.nw).1, 44) := by unfold Ms.s3; rw [e1, if_neg (by simp)]
      rw [h3, if_pos (by simp)]
      rcases Ms.delete_step a.off a.files with ⟨m2, e2, b⟩ | ⟨m2, e2, b⟩
      · exact ⟨m2, by rw [e2], b.off, b.left (a.left hl), b.cap.trans a.cap, b.files⟩
      · exact absurd (a.left hl) b.one
    · exact absurd e1 hc0
  · exact absurd hl a.one
/-- What Load tells. -/
theorem Ms.fs_crash (l : List Dk.Cut) (b : List UInt8) (x : Option (List UInt8 × Nat)) (hx : Ms.Fr x) : ∃ y, Ms.Fr y ∧ (Ms.fs (some (b, b.length)) x).map (Dk.left l) = Ms.fs (some (b, b.length)) y := by
  have h0 : Dk.left l ⟨Ms.nm, b, b.length⟩ = ⟨Ms.nm, b, b.length⟩ := by
    have hk := Dk.kept_le (Dk.cutOf l Ms.nm) ⟨Ms.nm, b, b.length⟩ (Nat.le_refl _)
    have hl := Dk.leave_len (Dk.cutOf l Ms.nm) ⟨Ms.nm, b, b.length⟩ (Nat.le_refl _)
    have h0 : Dk.kept (Dk.cutOf l Ms.nm) ⟨Ms.nm, b, b.length⟩ = 0 := by unfold Dk.kept; simp
    unfold Dk.left Dk.leave
    simp [h0]
  cases x with
  | none => exact ⟨none, Ms.fr_none, by show [Dk.left l ⟨Ms.nm, b, b.length⟩] = _; rw [h0]; rfl⟩
  | some p =>
    obtain ⟨hp, hp2⟩ := hx p rfl
    obtain ⟨f, hf⟩ : ∃ f, Dk.left l ⟨Ms.nw, p.1, p.2⟩ = f := ⟨_, rfl⟩
    have hn : f.name = Ms.nw := by rw [← hf]; rfl
    have hl := Dk.leave_len (Dk.cutOf l Ms.nw) ⟨Ms.nw, p.1, p.2⟩ hp
    have hk := Dk.kept_le (Dk.cutOf l Ms.nw) ⟨Ms.nw, p.1, p.2⟩ hp
    have hfl : f.data.length = f.sure ∧ f.data.length ≤ p.1.length := by
      rw [← hf]
      unfold Dk.left
      refine ⟨?_, ?_⟩
      · first | (rw [hl]; rfl) | (rw [hl]) | simp [hl]
      · show (Dk.leave (Dk.cutOf l Ms.nw) ⟨Ms.nw, p.1, p.2⟩).data.length ≤ p.1.length
        rw [hl]
        exact hk
    refine ⟨some (f.data, f.sure), fun q hq => ?_, ?_⟩
    · obtain rfl := Option.some.inj hq
      exact ⟨by show f.sure ≤ f.data.length; omega, by show f.data.length ≤ _; omega⟩
    · show [Dk.left l ⟨Ms.nm, b, b.length⟩, Dk.left l ⟨Ms.nw, p.1, p.2⟩] = [⟨Ms.nm, b, b.length⟩, ⟨Ms.nw, f.data, f.sure⟩]
      rw [h0, hf, ← hn]
/-- A disk between two Stores: these bytes are durable. -/
def Ms.Inv (cap : Nat) (m : Dk.M) (b : List UInt8) : Prop := m.off = false ∧ m.left = 0 ∧ m.cap = cap ∧ ∃ x, Ms.Fr x ∧ m.files = Ms.fs (some (b, b.length)) x
theorem Ms.used_one (b : List UInt8) (n : Nat) : Dk.used (Ms.fs (some (b, n)) none) = b.length := by simp [Ms.fs, Dk.used]
theorem Ms.crash_inv {cap : Nat} {b : List UInt8} {y : Option (List UInt8 × Nat)} (hc : m.cap = cap) (hy : Ms.Fr y) (hf : m.files = Ms.fs (some (b, b.length)) y) (cs : List Dk.Cut) : Ms.Inv cap (Dk.crash m cs) b := by
  obtain ⟨z, hz, e⟩ := Ms.fs_crash cs b y hy
  refine ⟨rfl, rfl, hc, z, hz, ?_⟩
  show m.files.map (Dk.left cs) = _
  rw [hf, e]
theorem Ms.arm_off (h : m.off = true) (n : Int) (dn : Bool) : Dk.arm m n dn = m := by unfold Dk.arm; rw [if_pos h]
theorem Ms.arm_on (h : m.off = false) (n : Int) (dn : Bool) : Dk.arm m n dn = { m with left := n.toNat, done := dn } := by unfold Dk.arm; rw [if_neg (by rw [h]; decide)]
theorem Ms.inv_try {cap : Nat} {b : List UInt8} (h : Ms.Inv cap m b) (ct : Int) (dn : Bool) (hc : c.length ≤ 100000) (hb : b.length + c.length ≤ cap) (cs : List Dk.Cut) :
    (∃ r, Ms.storeD (Dk.arm m ct dn) c = (r, 0) ∧ r.off = false ∧ Ms.Inv cap (Dk.arm r 0 false) c ∧ Ms.Inv cap (Dk.crash (Dk.arm r 0 false) cs) c) ∨
    ∃ r, Ms.storeD (Dk.arm m ct dn) c = (r, 45) ∧ r.off = true ∧ (Ms.Inv cap (Dk.crash (Dk.arm r 0 false) cs) b ∨ Ms.Inv cap (Dk.crash (Dk.arm r 0 false) cs) c) := by
  obtain ⟨h1, h2, h3, x, h4, h5⟩ := h
  rw [Ms.arm_on h1]
  have ho := Ms.store_out (m := { m with left := ct.toNat, done := dn }) (o := some (b, b.length)) (x := x) (c := c) h1 h5 h4 hc (by rw [Ms.used_one]; show _ ≤ m.cap; omega)
  obtain ⟨⟨r, e⟩, hr⟩ : ∃ z, Ms.storeD { m with left := ct.toNat, done := dn } c = z := ⟨_, rfl⟩
  rw [hr] at ho ⊢
  rcases ho with ⟨q1, q2, q3, q4, _⟩ | ⟨q1, _, q2, q3, q4⟩
  · obtain rfl : e = 0 := q1
    refine .inl ⟨r, rfl, q2, ?_, ?_⟩
    · rw [Ms.arm_on q2]
      exact ⟨q2, rfl, q3.trans h3, none, Ms.fr_none, q4⟩
    · rw [Ms.arm_on q2]
      exact Ms.crash_inv (q3.trans h3) Ms.fr_none q4 cs
  · obtain rfl : e = 45 := q1
    refine .inr ⟨r, rfl, q2, ?_⟩
    rw [Ms.arm_off q2]
    rcases q4 with q4 | ⟨y, hy, q4⟩
    · exact .inr (Ms.crash_inv (q3.trans h3) Ms.fr_none q4 cs)
    · exact .inl (Ms.crash_inv (q3.trans h3) hy q4 cs)
theorem Ms.inv_last {cap : Nat} {o : Option (List UInt8 × Nat)} (h1 : m.off = false) (h2 : m.left = 0) (h3 : m.cap = cap) (h4 : Ms.Fr x) (h5 : m.files = Ms.fs o x) (hc : c.length ≤ 100000) (hb : c.length + Dk.used (Ms.fs o none) ≤ cap) :
    ∃ r, Ms.storeD m c = (r, 0) ∧ r.off = false ∧ r.left = 0 ∧ r.cap = cap ∧ r.files = Ms.fs (some (c, c.length)) none := by
  have ho := Ms.store_out h1 h5 h4 hc (by rw [h3]; exact hb)
  obtain ⟨⟨r, e⟩, hr⟩ : ∃ z, Ms.storeD m c = z := ⟨_, rfl⟩
  rw [hr] at ho ⊢
  rcases ho with ⟨q1, q2, q3, q4, q5⟩ | ⟨q1, q2, _⟩
  · obtain rfl : e = 0 := q1
    exact ⟨r, rfl, q2, q5 h2, q3.trans h3, q4⟩
  · exact absurd h2 q2
end
#print axioms Ms.inv_try
#print axioms Ms.store_out
#print axioms Ms.fs_crash
end Go.Proofs.YtdhnkcfmjibibaaGreatDoor
