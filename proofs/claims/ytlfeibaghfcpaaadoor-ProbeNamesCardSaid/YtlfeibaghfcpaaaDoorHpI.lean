/- Top: the first k hits, in memory; contracts of its functions. Conditions: each theorem's own hypotheses. -/
import Derived.Test.YtlfeibaghfcpaaaDoorHpH
namespace Go.Proofs.YtlfeibaghfcpaaaDoor
open Go.RowKit Go.Maps
set_option linter.unusedVariables false
set_option linter.unusedSimpArgs false

/-- The first k of the hits AA, in memory; F: its blocks. -/
structure Hp.TopX (W : World) (tb k : Nat) (AA : List Pb.H) (b c : Nat) (l : List Pb.H) (A : Option Addr) (cap mb : Nat) : Prop where
  blk : Blk W tb 64 #[.int .i64 (k : Nat), .pointer (some ⟨b, 0, none⟩)]
  pile : Hp.At W b c l A cap mb
  cnt : c ≤ AA.length
  heap : Hp.Heap Pb.gt l
  first : Hp.First Pb.gt k AA l
def Hp.Top (W : World) (tb k : Nat) (AA : List Pb.H) (F : Nat → Prop) : Prop :=
  ∃ b c l A cap mb, Hp.TopX W tb k AA b c l A cap mb ∧ F = fun x => x = tb ∨ Hp.foot b mb A x
theorem Hp.TopX.tb_foot {W : World} {tb k : Nat} {AA : List Pb.H} {b c : Nat} {l : List Pb.H} {A : Option Addr} {cap mb : Nat} (h : Hp.TopX W tb k AA b c l A cap mb) : ¬ Hp.foot b mb A tb := by
  rintro (e | e | ⟨a, ha, e⟩)
  · have h1 := h.blk
    rw [e] at h1
    have := (show W.heap[b]? = _ from h1).symm.trans h.pile.blk
    simp at this
  · obtain ⟨es, clock, hb⟩ := h.pile.has.isMap
    have h1 := h.blk
    rw [e] at h1
    have := (show W.heap[mb]? = _ from h1).symm.trans hb
    cases this
  · obtain ⟨cur, hc⟩ := h.pile.row_cells ha
    have h1 := h.blk
    rw [← e] at h1
    have := (show W.heap[a.block]? = _ from h1).symm.trans hc
    simp at this
theorem Hp.TopX.same {W W' : World} {tb k : Nat} {AA : List Pb.H} {b c : Nat} {l : List Pb.H} {A : Option Addr} {cap mb : Nat} (h : Hp.TopX W tb k AA b c l A cap mb) (hk : ∀ x, (x = tb ∨ Hp.foot b mb A x) → W'.heap[x]? = W.heap[x]?) : Hp.TopX W' tb k AA b c l A cap mb :=
  ⟨(hk tb (.inl rfl)).trans h.blk, h.pile.same (fun x hx => hk x (.inr hx)), h.cnt, h.heap, h.first⟩
theorem Hp.TopX.lt {W : World} {tb k : Nat} {AA : List Pb.H} {b c : Nat} {l : List Pb.H} {A : Option Addr} {cap mb : Nat} (h : Hp.TopX W tb k AA b c l A cap mb) {x : Nat} (hx : x = tb ∨ Hp.foot b mb A x) : x < W.heap.size := by
  rcases hx with rfl | hx
  · exact h.blk.lt
  · exact h.pile.lt hx
theorem Hp.Top.same {W W' : World} {tb k : Nat} {AA : List Pb.H} {F : Nat → Prop} (h : Hp.Top W tb k AA F) (hk : ∀ x, F x → W'.heap[x]? = W.heap[x]?) : Hp.Top W' tb k AA F := by
  obtain ⟨b, c, l, A, cap, mb, hT, rfl⟩ := h
  exact ⟨b, c, l, A, cap, mb, hT.same hk, rfl⟩
theorem Hp.Top.lt {W : World} {tb k : Nat} {AA : List Pb.H} {F : Nat → Prop} (h : Hp.Top W tb k AA F) {x : Nat} (hx : F x) : x < W.heap.size := by
  obtain ⟨b, c, l, A, cap, mb, hT, rfl⟩ := h
  exact hT.lt hx
theorem Hp.Top.permA {W : World} {tb k : Nat} {AA BB : List Pb.H} {F : Nat → Prop} (h : Hp.Top W tb k AA F) (hp : AA.Perm BB) : Hp.Top W tb k BB F := by
  obtain ⟨b, c, l, A, cap, mb, hT, rfl⟩ := h
  exact ⟨b, c, l, A, cap, mb, ⟨hT.blk, hT.pile, by rw [← hp.length_eq]; exact hT.cnt, hT.heap, hT.first.permA hp⟩, rfl⟩
/-- NewTop of a number that goes. -/
theorem Hp.newTop_any (k : Nat) (hk : k ≤ 4096) (W : World) : Calls Tryd.prog 23 #[.int .i64 (k : Nat)] W fun e W' => ∃ tb, e = .returned (.tuple #[.pointer (some ⟨tb, 0, none⟩), .int .i64 0]) ∧ (∃ F, Hp.Top W' tb k [] F ∧ ∀ x, F x → W.heap.size ≤ x) ∧ Below W.heap.size W W' := by
  have hnp := Hp.newPile_any W
  have u1 : decide ((k : Int) < 0) = false := decide_eq_false (by omega)
  have u2 : decide (4096 < (k : Int)) = false := decide_eq_false (by omega)
  have u3 : decide (4096 < k) = false := decide_eq_false (by omega)
  go_enter Tryd.func23, Tryd.ntmps23
  go_wp2_with (go_at_call 30; refine hnp.mono ?_; rintro e w1 ⟨rfl, hP, hB, hz⟩)
  go_ret2
  refine ⟨w1.heap.size, by simp [hz], ⟨fun x => x = w1.heap.size ∨ Hp.foot (W.heap.size + 1) W.heap.size none x, ⟨_, 0, [], none, 0, _, ⟨Blk.new w1 _ _, hP.same (fun x hx => Below.heap_alloc _ _ _ (hP.lt hx)), Nat.le_refl _, Hp.Heap.nil, Hp.First.nil k⟩, rfl⟩, ?_⟩, hB.alloc hB.size _⟩
  rintro x (rfl | rfl | rfl | ⟨a, ha, _⟩)
  · exact hB.size
  · omega
  · omega
  · cases ha
theorem Hp.newTop_bad (k : Int) (hk : k < 0 ∨ 4096 < k) (W : World) : Calls Tryd.prog 23 #[.int .i64 k] W fun e W' => e = .returned (.tuple #[.pointer none, .int .i64 100]) ∧ W = W' := by
  rcases Int.lt_or_le k 0 with h | h
  · have u1 : decide (k < 0) = true := decide_eq_true h
    go_enter Tryd.func23, Tryd.ntmps23
    go_wp2_with fail
    go_ret2
    exact ⟨rfl, rfl⟩
  · have u1 : decide (k < 0) = false := decide_eq_false (by omega)
    have u2 : decide (4096 < k) = true := decide_eq_true (by omega)
    go_enter Tryd.func23, Tryd.ntmps23
    go_wp2_with fail
    go_ret2
    exact ⟨rfl, rfl⟩
end Go.Proofs.YtlfeibaghfcpaaaDoor
