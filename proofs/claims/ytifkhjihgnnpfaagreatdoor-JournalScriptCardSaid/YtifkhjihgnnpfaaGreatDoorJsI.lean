/- What an opened journal's file tells when it is looked at again. Plain laws. -/
import Derived.Test.YtifkhjihgnnpfaaGreatDoorJsE
namespace Go.Proofs.YtifkhjihgnnpfaaGreatDoor
open Go.RowKit
set_option linter.unusedVariables false

theorem Js.parse_take (l : List UInt8) (h : (Sl.parse l).code = 0) {j : Nat} (hj : (Sl.parse l).len ≤ j) : Sl.parse (l.take j) = Sl.parse l := by
  obtain ⟨R, hR⟩ : ∃ R, Sl.parse l = R := ⟨_, rfl⟩
  rw [hR] at h hj ⊢
  obtain ⟨c, k, p, m⟩ := R
  obtain rfl : c = 0 := h
  obtain ⟨h1, h2, h3, h4, h5, h6⟩ := Sl.frame_parse l k m p hR
  have hj' : m ≤ j := hj
  rw [h6, List.take_append, List.take_of_length_le (by rw [Sl.frame_len]; omega), Sl.parse_frame k p _ h1 h2 h3, h4]
theorem Js.told_ge (seq w : Nat) : ∀ (f : Nat) (l : List UInt8) (i : Nat) (acc us : List Jn.Upd) (g : Nat), Jn.told seq w f l i acc = some (us, g) → i ≤ g
  | 0, l, i, acc, us, g, h => by
    obtain ⟨rfl, rfl⟩ := Prod.mk.inj (Option.some.inj h)
    omega
  | f + 1, l, i, acc, us, g, h => by
    unfold Jn.told at h
    split at h
    · obtain ⟨rfl, rfl⟩ := Prod.mk.inj (Option.some.inj h)
      omega
    · split at h
      · obtain ⟨rfl, rfl⟩ := Prod.mk.inj (Option.some.inj h)
        omega
      · split at h
        · have := Js.told_ge seq w f _ _ _ us g h
          omega
        · cases h
theorem Js.told_nil (seq w f i : Nat) (acc : List Jn.Upd) : Jn.told seq w f [] i acc = some (acc, i) := by
  cases f with
  | zero => rfl
  | succ f => unfold Jn.told; rw [if_pos (show ([] : List UInt8).length = 0 from rfl)]
theorem Js.told_take (seq w : Nat) : ∀ (f : Nat) (l : List UInt8) (i : Nat) (acc us : List Jn.Upd) (g : Nat), Jn.told seq w f l i acc = some (us, g) → ∀ f', g - i ≤ f' → Jn.told seq w f' (l.take (g - i)) i acc = some (us, g)
  | 0, l, i, acc, us, g, h => by
    obtain ⟨rfl, rfl⟩ := Prod.mk.inj (Option.some.inj h)
    intro f' _
    rw [Nat.sub_self, List.take_zero]
    exact Js.told_nil ..
  | f + 1, l, i, acc, us, g, h => by
    intro f' hf'
    unfold Jn.told at h
    split at h
    · obtain ⟨rfl, rfl⟩ := Prod.mk.inj (Option.some.inj h)
      rw [Nat.sub_self, List.take_zero]
      exact Js.told_nil ..
    rename_i hl0
    split at h
    · obtain ⟨rfl, rfl⟩ := Prod.mk.inj (Option.some.inj h)
      rw [Nat.sub_self, List.take_zero]
      exact Js.told_nil ..
    rename_i hp
    have hp0 : (Sl.parse l).code = 0 := Decidable.not_not.1 hp
    split at h
    rotate_left
    · cases h
    rename_i hok
    obtain ⟨p1, p2, _⟩ := Jn.parse_len l hp0
    have hge := Js.told_ge seq w f _ _ _ us g h
    obtain ⟨f'', rfl⟩ : ∃ f'', f' = f'' + 1 := ⟨f' - 1, by omega⟩
    have ht := Js.parse_take l hp0 (j := g - i) (by omega)
    have ih := Js.told_take seq w f _ _ _ us g h f'' (by omega)
    unfold Jn.told
    have hlen : (l.take (g - i)).length ≠ 0 := by rw [List.length_take]; omega
    rw [if_neg hlen, ht, if_neg hp, if_pos hok, List.drop_take]
    rw [show g - i - (Sl.parse l).len = g - (i + (Sl.parse l).len) by omega]
    exact ih
theorem Js.look_take {b : List UInt8} {seq w : Nat} {us : List Jn.Upd} {g : Nat} (h : Jn.look b seq w = some (us, g)) : Jn.look (b.take g) seq w = some (us, g) := by
  have hl := (Jn.look_len h).2
  have := Js.told_take seq w _ _ _ _ _ _ h ((b.take g).length + 1) (by rw [List.length_take]; omega)
  rw [Nat.sub_zero] at this
  exact this
theorem Js.get_upd {nm : List UInt8} (f : Dk.F) (hf : f.name = nm) : ∀ (l : List Dk.F), (Dk.get Dk.F.name nm l).isSome = true → Dk.get Dk.F.name nm (Dk.upd nm f l) = some f
  | [], h => by cases h
  | x :: l, h => by
    by_cases e : x.name = nm
    · have : Dk.upd nm f (x :: l) = f :: Dk.upd nm f l := by simp [Dk.upd, e]
      rw [this]
      simp [Dk.get, hf]
    · have : Dk.upd nm f (x :: l) = x :: Dk.upd nm f l := by simp [Dk.upd, e]
      rw [this]
      have h' : (Dk.get Dk.F.name nm l).isSome = true := by
        simpa [Dk.get, List.find?_cons, e] using h
      have ih := Js.get_upd f hf l h'
      unfold Dk.get at ih ⊢
      rw [List.find?_cons]
      have e2 : (x.name == nm) = false := by simpa using e
      rw [e2]
      exact ih
/-- A file that has been cut, read again. -/
theorem Js.cut_again {m m1 : Dk.M} {nm : List UInt8} {g : Nat} (h : Dk.cut m nm g = (m1, 0)) : Dk.code m1 nm = 0 ∧ Dk.data m1 nm = (Dk.data m nm).take g := by
  unfold Dk.cut at h
  by_cases hc : Dk.code m nm = 0
  rotate_left
  · rw [if_pos hc] at h
    exact absurd (Prod.mk.inj h).2 hc
  rw [if_neg (not_not_intro hc)] at h
  split at h
  · exact absurd (Prod.mk.inj h).2 (by decide)
  have hg : (Dk.get Dk.F.name nm m.files).isSome = true := by
    unfold Dk.code at hc
    split at hc
    · cases hc
    split at hc
    · split at hc
      · assumption
      · cases hc
    · cases hc
  have hnm : m.off = false ∧ Dk.named nm = true := by
    unfold Dk.code at hc
    split at hc
    · cases hc
    rename_i ho
    split at hc
    · rename_i hn
      exact ⟨by simpa using ho, hn⟩
    · cases hc
  obtain ⟨f0, hf0⟩ := Option.isSome_iff_exists.1 hg
  have hfile : Dk.file m nm = f0 := by unfold Dk.file; rw [hf0]; rfl
  have hcf : (Dk.cutF (Dk.file m nm) g).name = nm := by
    rw [hfile]
    show f0.name = nm
    have := List.find?_some hf0
    simpa using this
  have hup := Js.get_upd (Dk.cutF (Dk.file m nm) g) hcf m.files hg
  have hd : (Dk.cutF (Dk.file m nm) g).data = (Dk.data m nm).take g := by
    rw [hfile]
    unfold Dk.data
    rw [hf0]
    rfl
  unfold Dk.acc at h
  split at h
  · obtain ⟨rfl, _⟩ := Prod.mk.inj h
    refine ⟨?_, ?_⟩
    · unfold Dk.code
      simp only [Int.toNat_natCast]
      rw [if_neg (by rw [hnm.1]; decide), if_pos hnm.2, if_pos (by rw [hup]; rfl)]
    · unfold Dk.data
      simp only [Int.toNat_natCast]
      rw [hup]
      exact hd
  split at h
  · obtain ⟨rfl, _⟩ := Prod.mk.inj h
    refine ⟨?_, ?_⟩
    · unfold Dk.code
      simp only [Int.toNat_natCast]
      rw [if_neg (by rw [hnm.1]; decide), if_pos hnm.2, if_pos (by rw [hup]; rfl)]
    · unfold Dk.data
      simp only [Int.toNat_natCast]
      rw [hup]
      exact hd
  · exact absurd (Prod.mk.inj h).2 (by decide)
/-- Look tells the same behind an Open that went. -/
theorem Js.look_open {m m1 : Dk.M} {n sq l : Int} {us : List Jn.Upd} (h : Js.openR m n sq l = (m1, us, 0)) : ∃ g, Jl.lookR m1 n sq l = (us, g, 0) := by
  obtain ⟨⟨us0, g, c0⟩, hL⟩ : ∃ z, Jl.lookR m n sq l = z := ⟨_, rfl⟩
  unfold Js.openR at h
  simp only [hL] at h
  by_cases h0 : c0 = 0
  rotate_left
  · rw [if_pos h0] at h
    obtain ⟨rfl, e2⟩ := Prod.mk.inj h
    obtain ⟨rfl, rfl⟩ := Prod.mk.inj e2
    exact absurd rfl h0
  subst h0
  rw [if_neg (by simp)] at h
  by_cases hg : g = (Dk.data m (Jn.name n)).length
  · rw [if_pos hg] at h
    obtain ⟨rfl, e2⟩ := Prod.mk.inj h
    obtain ⟨rfl, _⟩ := Prod.mk.inj e2
    exact ⟨g, hL⟩
  rw [if_neg hg] at h
  obtain ⟨⟨mc, cc⟩, hC⟩ : ∃ z, Dk.cut m (Jn.name n) g = z := ⟨_, rfl⟩
  simp only [hC] at h
  by_cases hcc : cc = 0
  rotate_left
  · rw [if_neg hcc] at h
    obtain ⟨rfl, e2⟩ := Prod.mk.inj h
    obtain ⟨rfl, rfl⟩ := Prod.mk.inj e2
    exact absurd rfl hcc
  rw [if_pos hcc] at h
  subst hcc
  obtain ⟨rfl, e2⟩ := Prod.mk.inj h
  obtain ⟨rfl, _⟩ := Prod.mk.inj e2
  obtain ⟨z1, z2, z3⟩ := Jl.lookR_zero hL
  obtain ⟨q1, q2⟩ := Js.cut_again hC
  refine ⟨g, ?_⟩
  unfold Jl.lookR
  rw [if_pos z1, q1, if_pos rfl, q2, Js.look_take z3]
theorem Js.open_zero {m m1 : Dk.M} {n sq l : Int} {us : List Jn.Upd} (h : Js.openR m n sq l = (m1, us, 0)) : Jn.goesE n sq l = 0 := by
  obtain ⟨g, hg⟩ := Js.look_open h
  exact (Jl.lookR_zero hg).1
end Go.Proofs.YtifkhjihgnnpfaaGreatDoor
