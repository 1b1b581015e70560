/- journal.Open. Conditions: each theorem's own hypotheses. -/
import Derived.Test.YthhkebkpophkiaaDoorJlE
import Derived.Test.YthhkebkpophkiaaDoorDkW
namespace Go.Proofs.YthhkebkpophkiaaDoor
open Go.RowKit
set_option linter.unusedVariables false

theorem Jn.told_len (seq w : Nat) : ∀ (f : Nat) (l : List UInt8) (i : Nat) (acc us : List Jn.Upd) (g : Nat), Jn.told seq w f l i acc = some (us, g) → i + 14 * us.length ≤ g + 14 * acc.length ∧ g ≤ i + l.length
  | 0, l, i, acc, us, g, h => by
    obtain ⟨rfl, rfl⟩ := Prod.mk.inj (Option.some.inj h)
    omega
  | f + 1, l, i, acc, us, g, h => by
    unfold Jn.told at h
    split at h
    · obtain ⟨rfl, rfl⟩ := Prod.mk.inj (Option.some.inj h)
      omega
    · split at h
      · obtain ⟨rfl, rfl⟩ := Prod.mk.inj (Option.some.inj h)
        omega
      · rename_i h2
        split at h
        · have hl := Jn.parse_len l (by omega)
          have := Jn.told_len seq w f _ _ _ us g h
          rw [List.length_append, List.length_singleton, List.length_drop] at this
          omega
        · cases h
theorem Jn.look_len {b : List UInt8} {seq w : Nat} {us : List Jn.Upd} {g : Nat} (h : Jn.look b seq w = some (us, g)) : 14 * us.length ≤ g ∧ g ≤ b.length := by
  have := Jn.told_len seq w _ _ _ _ us g h
  simp at this
  omega
theorem Jl.lookR_zero {m : Dk.M} {n sq l : Int} {us : List Jn.Upd} {g : Nat} (h : Jl.lookR m n sq l = (us, g, 0)) : Jn.goesE n sq l = 0 ∧ Dk.code m (Jn.name n) = 0 ∧ Jn.look (Dk.data m (Jn.name n)) sq.toNat l.toNat = some (us, g) := by
  unfold Jl.lookR at h
  by_cases h1 : Jn.goesE n sq l = 0
  · rw [if_pos h1] at h
    by_cases h2 : Dk.code m (Jn.name n) = 0
    · rw [if_pos h2] at h
      refine ⟨h1, h2, ?_⟩
      cases hl : Jn.look (Dk.data m (Jn.name n)) sq.toNat l.toNat with
      | none =>
        rw [hl] at h
        have := congrArg (fun z => z.2.2) h
        simp at this
      | some st =>
        obtain ⟨a, b⟩ := st
        rw [hl] at h
        simp only [Prod.mk.injEq] at h
        rw [h.1, h.2.1]
    · rw [if_neg h2] at h
      exact absurd (congrArg (fun z => z.2.2) h) h2
  · rw [if_neg h1] at h
    exact absurd (congrArg (fun z => z.2.2) h) h1
set_option maxRecDepth 100000 in
set_option maxHeartbeats 2000000 in
theorem Jl.open_no {B d : Nat} {W0 W : World} {m : Dk.M} {K : Nat → Prop} (h : Jl.Sit B W0 W d m K) (hT : TabS W) (hP : PowT W) (n sq l : Int) {us : List Jn.Upd} {g : Nat} {c : Int} (hL : Jl.lookR m n sq l = (us, g, c)) (hc : c ≠ 0) :
    Calls Tryd.prog 24 #[.pointer (some ⟨d, 0, none⟩), .int .i64 n, .int .i64 sq, .int .i64 l] W fun e W' => e = .returned (.tuple #[.pointer none, .slice none 0 0, .int .i64 c]) ∧ Below W.heap.size W W' := by
  have k1 := h.ask fun F hA hG => Jl.look_any hA hG n sq l hT hP hL
  have q1 : (c != 0) = true := bne_iff_ne.2 hc
  clear hL hc hT hP h
  go_enter Tryd.func24, Tryd.ntmps24
  go_wp2_with (go_at_call 13; refine k1.mono ?_; clear k1; rintro e w1 ⟨⟨v, rfl, r1⟩, b1⟩)
  refine bodyPost_ret (v := .tuple #[.pointer none, .slice none 0 0, .int .i64 c]) (by simp [results, Tryd.results24, go_sem]) rfl ?_
  exact ⟨rfl, b1⟩
/-- What lies behind an opening that went. -/
def Jl.Opened (W W' : World) (d : Nat) (age : Int) (nb : ByteArray) (sq l : Int) (us : List Jn.Upd) (j : Nat) (v : Value) : Prop :=
  W.heap.size ≤ j ∧ Blk W' j 117 (Jl.jc d age false nb l (sq + us.length) sq) ∧ Jl.Own W' W.heap.size v us
set_option maxRecDepth 100000 in
set_option maxHeartbeats 2000000 in
theorem Jl.open_whole {B d : Nat} {W0 W : World} {m : Dk.M} {K : Nat → Prop} (h : Jl.Sit B W0 W d m K) (hT : TabS W) (hP : PowT W) (n sq l : Int) {us : List Jn.Upd} {g : Nat} (hL : Jl.lookR m n sq l = (us, g, 0)) (hg : g = (Dk.data m (Jn.name n)).length) (nb : ByteArray) (hnb : str (Jn.name n) = .string nb) :
    Calls Tryd.prog 24 #[.pointer (some ⟨d, 0, none⟩), .int .i64 n, .int .i64 sq, .int .i64 l] W fun e W' => (∃ j v, e = .returned (.tuple #[.pointer (some ⟨j, 0, none⟩), v, .int .i64 0]) ∧ Jl.Opened W W' d m.age nb sq l us j v) ∧ Below W.heap.size W W' := by
  have k1 := h.ask fun F hA hG => Jl.look_any hA hG n sq l hT hP hL
  have hP2 := fun {w : World} (hB : Below W.heap.size W w) => hP.below hB
  have k2 := fun {w : World} (hB : Below W.heap.size W w) => name_any n w (hP2 hB) nb hnb
  have hns : nb.data.toList = Jn.name n := by
    obtain ⟨nb2, e1, e2, _⟩ := str_of (Jn.name n)
    rw [e1] at hnb
    rw [← Value.string.inj hnb]; exact e2
  have hname : nb.size ≤ 9223372036854775807 := by rw [Tx.size, hns]; exact Jl.name_len n
  have k3 := fun {w : World} (hB : Below W.heap.size W w) => (h.later hB).ask fun F hA hG => Dk.size_any hA nb hname
  have k4 := fun {w : World} (hB : Below W.heap.size W w) (ls : Int) => (h.later hB).ask fun F hA hG => Jl.begin_any hA n sq l ls (hP2 hB) nb hnb
  obtain ⟨z1, z2, z3⟩ := Jl.lookR_zero hL
  obtain ⟨_, _, hs⟩ := Jn.goesE_zero z1
  have hll := Jn.look_len z3
  have hdl := Jl.data_len h.good (Jn.name n)
  unfold Dk.sizeV at k3
  rw [hns, if_pos z2, ← hg] at k3
  obtain ⟨ag, hag⟩ : ∃ ag, m.age = ag := ⟨_, rfl⟩
  simp only [hag] at k4 ⊢
  have q1 : ((g : Int) != (g : Int)) = false := by rw [bne_eq_false_iff_eq]
  have w1 : IntKind.i64.wrap (sq + (us.length : Int)) = sq + (us.length : Int) := IntWalk.i64_in _ (by omega)
  clear hL hg hT hP h hnb hns z1 z2 z3 hll hdl hs hag hP2
  go_enter Tryd.func24, Tryd.ntmps24
  go_wp2_with (first
    | (go_at_call 13; refine k1.mono ?_; clear k1; rintro e w1 ⟨⟨v, rfl, r1⟩, b1⟩; obtain ⟨A, cp, rfl⟩ := Jl.slice_form r1)
    | (go_at_call 45; refine (k2 b1).mono ?_; clear k2; rintro e w2 ⟨rfl, b2⟩; have b3 := b1.trans (b2.mono b1.size))
    | (go_at_call 20; refine (k3 b3).mono ?_; rintro e w' ⟨rfl, rfl⟩)
    | (go_at_call 57; refine (k4 b3 _).mono ?_; rintro e w4 ⟨j, rfl, hj, bj, b4⟩))
  refine bodyPost_ret (v := .tuple #[.pointer (some ⟨j, 0, none⟩), .slice A us.length cp, .int .i64 0]) (by simp [results, Tryd.results24, go_sem]) rfl ?_
  have b5 := b3.trans (b4.mono b3.size)
  have hz := b3.size
  exact ⟨⟨_, _, rfl, by omega, bj, (Jl.row_grown (Jl.row_grown r1 (Jl.grown_of b2)) (Jl.grown_of b4))⟩, b5⟩
set_option maxRecDepth 100000 in
set_option maxHeartbeats 2000000 in
/-- A bad tail is cut off. -/
theorem Jl.open_cut {B d : Nat} {W0 W : World} {m m' : Dk.M} {K : Nat → Prop} (h : Jl.Sit B W0 W d m K) (hT : ∀ {w : World}, Below B W0 w → TabS w) (hP : ∀ {w : World}, Below B W0 w → PowT w) (n sq l : Int) {us : List Jn.Upd} {g : Nat} (hL : Jl.lookR m n sq l = (us, g, 0)) (hg : g ≠ (Dk.data m (Jn.name n)).length) (nb : ByteArray) (hnb : str (Jn.name n) = .string nb)
    (hc : Dk.cut m (Jn.name n) g = (m', 0)) :
    Calls Tryd.prog 24 #[.pointer (some ⟨d, 0, none⟩), .int .i64 n, .int .i64 sq, .int .i64 l] W fun e W' => ∃ j v, e = .returned (.tuple #[.pointer (some ⟨j, 0, none⟩), v, .int .i64 0]) ∧ Jl.Opened W W' d m'.age nb sq l us j v ∧ Jl.Sit B W0 W' d m' (fun k => K k ∨ k = j ∨ v.ownBlock = some k) ∧ Jl.Kept K W W' := by
  have hz0 := h.size
  have k1 := h.ask fun F hA hG => Jl.look_any hA hG n sq l (hT h.below) (hP h.below) hL
  have k2 := fun {w : World} (hB : Below W.heap.size W w) => name_any n w (hP (h.below.trans (hB.mono hz0))) nb hnb
  have hns : nb.data.toList = Jn.name n := by
    obtain ⟨nb2, e1, e2, _⟩ := str_of (Jn.name n)
    rw [e1] at hnb
    rw [← Value.string.inj hnb]; exact e2
  have hname : nb.size ≤ 9223372036854775807 := by rw [Tx.size, hns]; exact Jl.name_len n
  have k3 := fun {w : World} (hB : Below W.heap.size W w) => (h.later hB).ask fun F hA hG => Dk.size_any hA nb hname
  obtain ⟨z1, z2, z3⟩ := Jl.lookR_zero hL
  obtain ⟨_, _, hs⟩ := Jn.goesE_zero z1
  have hll := Jn.look_len z3
  have hdl := Jl.data_len h.good (Jn.name n)
  have hm' : (Dk.cut m (Jn.name n) g).1 = m' := by rw [hc]
  have hGm : Dk.Good m' := hm' ▸ Dk.cut_good h.good _ _
  have k5 := fun {w : World} {K' : Nat → Prop} (hS : Jl.Sit B W0 w d m K') => hS.call (m' := m') hGm fun F hA hG => (by
    have := Dk.cut_any hA hG nb hname g (by omega)
    rw [hns, hc] at this
    exact this)
  have k4 := fun {w : World} {K' : Nat → Prop} (hS : Jl.Sit B W0 w d m' K') (ls : Int) => hS.ask fun F hA hG => Jl.begin_any hA n sq l ls (hP hS.below) nb hnb
  have hgr := fun {w : World} (hB : Below W.heap.size W w) => h.grow hB
  unfold Dk.sizeV at k3
  rw [hns, if_pos z2] at k3
  obtain ⟨ag, hag⟩ : ∃ ag, m'.age = ag := ⟨_, rfl⟩
  obtain ⟨len, hlen⟩ : ∃ len, (Dk.data m (Jn.name n)).length = len := ⟨_, rfl⟩
  rw [hlen] at k3 hg
  simp only [hag] at k4 ⊢
  have q1 : ((g : Int) != (len : Int)) = true := by rw [bne_iff_ne]; omega
  have w1 : IntKind.i64.wrap (sq + (us.length : Int)) = sq + (us.length : Int) := IntWalk.i64_in _ (by omega)
  clear hL hg hnb hns z1 z2 z3 hll hdl hs hag hlen hc hm' hGm hT hP
  go_enter Tryd.func24, Tryd.ntmps24
  go_wp2_with (first
    | (go_at_call 25; have S3 := hgr b5; refine (k5 S3).mono ?_; clear k5; rintro e w5 ⟨rfl, S5, K5⟩)
    | (go_at_call 13; refine k1.mono ?_; clear k1; rintro e w1 ⟨⟨v, rfl, r1⟩, b1⟩; obtain ⟨A, cp, rfl⟩ := Jl.slice_form r1)
    | (go_at_call 45; refine (k2 b1).mono ?_; rintro e w2 ⟨rfl, b2⟩; have b3 := b1.trans (b2.mono b1.size); have k22 := k2 b3; clear k2)
    | (go_at_call 20; refine (k3 b3).mono ?_; rintro e w' ⟨rfl, rfl⟩)
    | (go_at_call 45; refine k22.mono ?_; clear k22; rintro e w3 ⟨rfl, b4⟩; have b5 := b3.trans (b4.mono b3.size))
    | (go_at_call 57; refine (k4 S5 _).mono ?_; rintro e w4 ⟨j, rfl, hj, bj, b6⟩))
  refine bodyPost_ret (v := .tuple #[.pointer (some ⟨j, 0, none⟩), .slice A us.length cp, .int .i64 0]) (by simp [results, Tryd.results24, go_sem]) rfl ?_
  have r3 : Jl.Own w3 W.heap.size (.slice A us.length cp) us := Jl.row_grown (Jl.row_grown r1 (Jl.grown_of b2)) (Jl.grown_of b4)
  have hz3 := b5.size
  have hrb : ∀ k, (Value.slice A us.length cp).ownBlock = some k → K k ∨ (W.heap.size ≤ k ∧ k < w3.heap.size) := fun k e => .inr (r3.lt e)
  have r5 := r3.kept K5 hrb
  have r6 : Jl.Own w4 W.heap.size (.slice A us.length cp) us := Jl.row_grown r5 (Jl.grown_of b6)
  have hz5 := K5.1
  refine ⟨j, _, rfl, ⟨by omega, bj, r6⟩, ?_, by have := b6.size; omega, fun k hk => ?_⟩
  · refine (S5.grow b6).sub fun k hk => ?_
    rcases hk with hk | rfl | hk
    · exact .inl (.inl hk)
    · exact .inr ⟨hj, bj.lt⟩
    · exact .inl (hrb k hk)
  · exact ((b6.block k (S5.lt (.inl hk)).2).trans (K5.2 k (.inl hk))).trans (b5.block k (h.lt hk).2)
#print axioms Jl.open_whole
end Go.Proofs.YthhkebkpophkiaaDoor
