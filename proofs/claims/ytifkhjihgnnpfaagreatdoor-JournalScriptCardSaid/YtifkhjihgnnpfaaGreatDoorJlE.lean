/- A disk and blocks beside it; the laws' helpers same and num; journal.begin. Conditions: each theorem's own hypotheses. -/
import Derived.Laws.StructEq
import Derived.Deep.QuietTactic
import Derived.BigQuiet
import Derived.Test.YtifkhjihgnnpfaaGreatDoorZJlD
import Derived.Test.YtifkhjihgnnpfaaGreatDoorDkS
namespace Go.Proofs.YtifkhjihgnnpfaaGreatDoor
open Go.RowKit
set_option linter.unusedVariables false

theorem Jl.num_any (e : Int) (w : World) : Calls Tryz.prog 23 #[.int .i64 e] w fun r w' => r = .returned (.int .i64 e) ∧ w = w' := by
  go_enter Tryz.func23, Tryz.ntmps23
  go_wp2_with fail
  go_ret
  exact ⟨rfl, rfl⟩
/-- Where updates lie. -/
def Jl.Lie (W : World) (A : Option Addr) (us : List Jn.Upd) : Prop :=
  0 < us.length → ∃ b off, A = some ⟨b, off, none⟩ ∧ ∀ j r, us[j]? = some r →
    W.cell? ⟨b, off + j * 4, none⟩ = some (.int .i64 r.seq) ∧ W.cell? ⟨b, off + j * 4 + 1, none⟩ = some (.int .i64 r.kind) ∧ W.cell? ⟨b, off + j * 4 + 2, none⟩ = some (.int .i64 r.id) ∧ W.cell? ⟨b, off + j * 4 + 3, none⟩ = some (str r.code)
theorem Jl.Lie.at_ {W : World} {A : Option Addr} {us : List Jn.Upd} (H : Jl.Lie W A us) {k : Nat} (hk : k < us.length) : ∃ b off r, A = some ⟨b, off, none⟩ ∧ us[k]? = some r ∧
    W.cell? ⟨b, off + k * 4, none⟩ = some (.int .i64 r.seq) ∧ W.cell? ⟨b, off + k * 4 + 1, none⟩ = some (.int .i64 r.kind) ∧ W.cell? ⟨b, off + k * 4 + 2, none⟩ = some (.int .i64 r.id) ∧ W.cell? ⟨b, off + k * 4 + 3, none⟩ = some (str r.code) := by
  obtain ⟨b, off, hA, hc⟩ := H (by omega)
  obtain ⟨h0, h1, h2, h3⟩ := hc k us[k] (List.getElem?_eq_getElem hk)
  exact ⟨b, off, us[k], hA, List.getElem?_eq_getElem hk, h0, h1, h2, h3⟩
theorem Jl.Lie.heap {W W' : World} {A : Option Addr} {us : List Jn.Upd} (H : Jl.Lie W A us) (h : W'.heap = W.heap) : Jl.Lie W' A us := by
  have hc : ∀ p, W'.cell? p = W.cell? p := fun p => World.cell?_of_block (by rw [h])
  intro h0
  obtain ⟨b, off, hA, hr⟩ := H h0
  exact ⟨b, off, hA, fun j r hj => by rw [hc, hc, hc, hc]; exact hr j r hj⟩
theorem Jl.four_get : ∀ (l : List Jn.Upd) (q : Nat) (h : Jn.Upd), l[q]? = some h → (Jl.cells l)[q * 4]? = some (.int .i64 h.seq) ∧ (Jl.cells l)[q * 4 + 1]? = some (.int .i64 h.kind) ∧ (Jl.cells l)[q * 4 + 2]? = some (.int .i64 h.id) ∧ (Jl.cells l)[q * 4 + 3]? = some (str h.code)
  | [], q, h, hq => by simp at hq
  | x :: l, 0, h, hq => by
    obtain rfl := Option.some.inj hq
    exact ⟨rfl, rfl, rfl, rfl⟩
  | x :: l, q + 1, h, hq => by
    have := Jl.four_get l q h hq
    rw [show (q + 1) * 4 = q * 4 + 1 + 1 + 1 + 1 from by omega]
    exact this
theorem Jl.addLit (b off j : Nat) : (⟨b, off, none⟩ : Addr).add j = ⟨b, off + j, none⟩ := by
  unfold Addr.add; split
  · subst_vars; rfl
  · rfl
/-- A row of updates of the call's own. -/
def Jl.Own (W : World) (B : Nat) (v : Value) (us : List Jn.Upd) : Prop := W.ownsRow B 33 4 v us.length (Jl.cells us)
theorem Jl.Own.lie {W : World} {B : Nat} {A : Option Addr} {n c : Nat} {us : List Jn.Upd} (h : Jl.Own W B (.slice A n c) us) : Jl.Lie W A us := by
  intro h0
  rcases h.2 with ⟨e1, e2⟩ | ⟨g, cap, cur, e1, _⟩
  · omega
  · injection e1 with e1 e2 e3
    subst e1 e2 e3
    refine ⟨g, 0, rfl, fun j r hj => ?_⟩
    obtain ⟨g0, g1, g2, g3⟩ := Jl.four_get us j r hj
    have hc := fun {i : Nat} {u : Value} (hu : (Jl.cells us)[i]? = some u) => World.ownsRow.cells h (g := g) rfl i u hu
    have k := fun i => Jl.addLit g 0 i
    simp only [Nat.zero_add] at k ⊢
    exact ⟨(k _ ▸ hc g0), (k _ ▸ hc g1), (k _ ▸ hc g2), (k _ ▸ hc g3)⟩
theorem Jl.Own.form {W : World} {B : Nat} {v : Value} {us : List Jn.Upd} (h : Jl.Own W B v us) : ∃ A c, v = .slice A us.length c := Jl.slice_form h
theorem Jl.Own.keep {W W' : World} {B : Nat} {v : Value} {us : List Jn.Upd} (h : Jl.Own W B v us) (hk : ∀ k, v.ownBlock = some k → W'.heap[k]? = W.heap[k]?) : Jl.Own W' B v us := by
  refine ⟨h.1, ?_⟩
  rcases h.2 with h2 | ⟨g, cap, cur, rfl, h3, h4, h5⟩
  · exact .inl h2
  · exact .inr ⟨g, cap, cur, rfl, h3, (hk g rfl).trans h4, h5⟩
theorem Jl.Own.lt {W : World} {B : Nat} {v : Value} {us : List Jn.Upd} (h : Jl.Own W B v us) {k : Nat} (hk : v.ownBlock = some k) : B ≤ k ∧ k < W.heap.size := World.ownsRow.lt h k hk
theorem Jl.Own.nil (W : World) (B : Nat) : Jl.Own W B (.slice none 0 0) [] := World.ownsRow_nil _ _ _ _
theorem Jl.Own.more {W : World} {B B' : Nat} {v : Value} {us : List Jn.Upd} (h : Jl.Own W B v us) (hB : B' ≤ B) : Jl.Own W B' v us := by
  refine ⟨h.1, ?_⟩
  rcases h.2 with h2 | ⟨g, cap, cur, rfl, h3, h4, h5⟩
  · exact .inl h2
  · exact .inr ⟨g, cap, cur, rfl, Nat.le_trans hB h3, h4, h5⟩

set_option maxRecDepth 100000 in
theorem Jl.neq_upd (q k i : Int) (c : ByteArray) (W : World) : (binOp .neq 33 (.agg #[.int .i64 q, .int .i64 k, .int .i64 i, .string c]) (.agg #[.int .i64 q, .int .i64 k, .int .i64 i, .string c])).run Tryz.prog W = .ok (.bool false) W := by
  have hS : Tryz.prog.underlying 33 = some (.struct (Tryz.prog.fieldsOf 33)) := by unfold Program.fieldsOf; rw [Tryz.underlying33]
  have hp : Tryz.prog.stoodInHeld 33 = false := by kernel_rfl
  rw [run_neq_struct, show (10000 : Nat) = 9999 + 1 from rfl, run_equalIn_agg W 9999 33 _ _ hS hp]
  unfold Program.fieldsOf
  rw [Tryz.underlying33]
  simp [go_sem, Tryz.underlying9, Tryz.underlying3]
set_option maxRecDepth 100000 in
set_option maxHeartbeats 1000000 in
theorem Jl.same_true (A A' : Option Addr) (c c' : Nat) (us : List Jn.Upd) (w : World) (H : Jl.Lie w A us) (H' : Jl.Lie w A' us) (hm : us.length ≤ 4398046511104) :
    Calls Tryz.prog 27 #[.slice A us.length c, .slice A' us.length c'] w fun e w' => e = .returned (.bool true) ∧ Below w.heap.size w w' := by
  go_enter Tryz.func27, Tryz.ntmps27
  go_wp2_with fail
  go_loopw [5] (fun i wr => ∃ k : Nat, k ≤ us.length ∧ i = .int .i64 k ∧ Hid (wr.heap = w.heap ∧ Below w.heap.size w wr)) (fun i _ => us.length - (intOf i).toNat)
  case atStart => exact ⟨0, Nat.zero_le _, rfl, Lib.hid ⟨rfl, Below.refl _ _⟩⟩
  case round =>
    obtain ⟨k, hk, rfl, HN⟩ := hrel
    by_cases hlt : k < us.length
    · have J : Jl.Lie wr A us := H.heap HN.out.1
      have J' : Jl.Lie wr A' us := H'.heap HN.out.1
      obtain ⟨b, off, r, rfl, hj, e0, e1, e2, e3⟩ := J.at_ hlt
      obtain ⟨b', off', r', rfl, hj', f0, f1, f2, f3⟩ := J'.at_ hlt
      obtain rfl := Option.some.inj (hj.symm.trans hj')
      obtain ⟨C, hC, _⟩ := str_of r.code
      rw [hC] at e3 f3
      have hneq := fun W => Jl.neq_upd r.seq r.kind r.id C W
      have hj0 : (0 : Int) ≤ (k : Int) := by omega
      have hj1 : (k : Int) < (us.length : Int) := by omega
      have u1 : decide (k < us.length) = true := decide_eq_true hlt
      clear hj hj' hC H H' J J'
      go_wp2_with fail
      go_quiet (fail)
      all_goals go_wp2_with fail
      go_roundw
      case rel => exact ⟨k + 1, hlt, by go_num, Lib.hid ⟨HN.out.1, below_dn HN.out.2 _⟩⟩
      case measure => simp [intOf]; omega
    · obtain rfl : k = us.length := by omega
      go_wp2_with fail
      go_ret
      exact ⟨rfl, HN.out.2⟩
section
variable {B d : Nat} {W0 w w' : World} {m m' : Dk.M} {K K' : Nat → Prop}
theorem Jl.Own.kept {v : Value} {us : List Jn.Upd} {B' : Nat} (h : Jl.Own w B' v us) (hk : Jl.Kept K w w') (hK : ∀ k, v.ownBlock = some k → K k) : Jl.Own w' B' v us := h.keep fun k e => hk.2 k (hK k e)
end
/-- A journal's cells. -/
def Jl.jc (d : Nat) (age : Int) (gone : Bool) (nb : ByteArray) (l last synced : Int) : Array Value := #[.pointer (some ⟨d, 0, none⟩), .int .i64 age, .bool gone, .string nb, .int .i64 l, .int .i64 last, .int .i64 synced]
set_option maxRecDepth 100000 in
theorem Jl.begin_any {W : World} {d : Nat} {m : Dk.M} {F : Nat → Prop} (h : Dk.At W d m F) (n sq l last : Int) (hP : PowT W) (nb : ByteArray) (hnb : str (Jn.name n) = .string nb) :
    Calls Tryz.prog 48 #[.pointer (some ⟨d, 0, none⟩), .int .i64 n, .int .i64 sq, .int .i64 l, .int .i64 last] W fun e W' => ∃ j, e = .returned (.pointer (some ⟨j, 0, none⟩)) ∧ W.heap.size ≤ j ∧ Blk W' j 79 (Jl.jc d m.age false nb l last sq) ∧ Below W.heap.size W W' := by
  have k1 := Dk.age_any h
  have k2 := name_any n W hP nb hnb
  obtain ⟨ag, hag⟩ : ∃ ag, m.age = ag := ⟨_, rfl⟩
  rw [hag] at k1 ⊢
  clear hag hnb h hP
  go_enter Tryz.func48, Tryz.ntmps48
  go_wp2_with (first
    | (go_at_call 81; refine k1.mono ?_; rintro e w' ⟨rfl, rfl⟩)
    | (go_at_call 47; refine k2.mono ?_; rintro e w1 ⟨rfl, b1⟩))
  go_ret
  exact ⟨_, rfl, b1.size, Blk.new _ _ _, b1.alloc b1.size _⟩
#print axioms Jl.same_true
#print axioms Jl.begin_any
end Go.Proofs.YtifkhjihgnnpfaaGreatDoor
/- journal.Open. Conditions: each theorem's own hypotheses. -/
namespace Go.Proofs.YtifkhjihgnnpfaaGreatDoor
open Go.RowKit
set_option linter.unusedVariables false

theorem Jn.told_len (seq w : Nat) : ∀ (f : Nat) (l : List UInt8) (i : Nat) (acc us : List Jn.Upd) (g : Nat), Jn.told seq w f l i acc = some (us, g) → i + 14 * us.length ≤ g + 14 * acc.length ∧ g ≤ i + l.length
  | 0, l, i, acc, us, g, h => by
    obtain ⟨rfl, rfl⟩ := Prod.mk.inj (Option.some.inj h)
    omega
  | f + 1, l, i, acc, us, g, h => by
    unfold Jn.told at h
    split at h
    · obtain ⟨rfl, rfl⟩ := Prod.mk.inj (Option.some.inj h)
      omega
    · split at h
      · obtain ⟨rfl, rfl⟩ := Prod.mk.inj (Option.some.inj h)
        omega
      · rename_i h2
        split at h
        · have hl := Jn.parse_len l (by omega)
          have := Jn.told_len seq w f _ _ _ us g h
          rw [List.length_append, List.length_singleton, List.length_drop] at this
          omega
        · cases h
theorem Jn.look_len {b : List UInt8} {seq w : Nat} {us : List Jn.Upd} {g : Nat} (h : Jn.look b seq w = some (us, g)) : 14 * us.length ≤ g ∧ g ≤ b.length := by
  have := Jn.told_len seq w _ _ _ _ us g h
  simp at this
  omega
theorem Jl.lookR_zero {m : Dk.M} {n sq l : Int} {us : List Jn.Upd} {g : Nat} (h : Jl.lookR m n sq l = (us, g, 0)) : Jn.goesE n sq l = 0 ∧ Dk.code m (Jn.name n) = 0 ∧ Jn.look (Dk.data m (Jn.name n)) sq.toNat l.toNat = some (us, g) := by
  unfold Jl.lookR at h
  by_cases h1 : Jn.goesE n sq l = 0
  · rw [if_pos h1] at h
    by_cases h2 : Dk.code m (Jn.name n) = 0
    · rw [if_pos h2] at h
      refine ⟨h1, h2, ?_⟩
      cases hl : Jn.look (Dk.data m (Jn.name n)) sq.toNat l.toNat with
      | none =>
        rw [hl] at h
        have := congrArg (fun z => z.2.2) h
        simp at this
      | some st =>
        obtain ⟨a, b⟩ := st
        rw [hl] at h
        simp only [Prod.mk.injEq] at h
        rw [h.1, h.2.1]
    · rw [if_neg h2] at h
      exact absurd (congrArg (fun z => z.2.2) h) h2
  · rw [if_neg h1] at h
    exact absurd (congrArg (fun z => z.2.2) h) h1
set_option maxRecDepth 100000 in
set_option maxHeartbeats 2000000 in
theorem Jl.open_no {B d : Nat} {W0 W : World} {m : Dk.M} {K : Nat → Prop} (h : Jl.Sit B W0 W d m K) (hT : TabS W) (hP : PowT W) (n sq l : Int) {us : List Jn.Upd} {g : Nat} {c : Int} (hL : Jl.lookR m n sq l = (us, g, c)) (hc : c ≠ 0) :
    Calls Tryz.prog 24 #[.pointer (some ⟨d, 0, none⟩), .int .i64 n, .int .i64 sq, .int .i64 l] W fun e W' => e = .returned (.tuple #[.pointer none, .slice none 0 0, .int .i64 c]) ∧ Below W.heap.size W W' := by
  have k1 := h.ask fun F hA hG => Jl.look_any hA hG n sq l hT hP hL
  have q1 : (c != 0) = true := bne_iff_ne.2 hc
  clear hL hc hT hP h
  go_enter Tryz.func24, Tryz.ntmps24
  go_wp2_with (go_at_call 28; refine k1.mono ?_; clear k1; rintro e w1 ⟨⟨v, rfl, r1⟩, b1⟩)
  refine bodyPost_ret (v := .tuple #[.pointer none, .slice none 0 0, .int .i64 c]) (by simp [results, Tryz.results24, go_sem]) rfl ?_
  exact ⟨rfl, b1⟩
/-- What lies behind an opening that went. -/
def Jl.Opened (W W' : World) (d : Nat) (age : Int) (nb : ByteArray) (sq l : Int) (us : List Jn.Upd) (j : Nat) (v : Value) : Prop :=
  W.heap.size ≤ j ∧ Blk W' j 79 (Jl.jc d age false nb l (sq + us.length) sq) ∧ Jl.Own W' W.heap.size v us
set_option maxRecDepth 100000 in
set_option maxHeartbeats 2000000 in
theorem Jl.open_whole {B d : Nat} {W0 W : World} {m : Dk.M} {K : Nat → Prop} (h : Jl.Sit B W0 W d m K) (hT : TabS W) (hP : PowT W) (n sq l : Int) {us : List Jn.Upd} {g : Nat} (hL : Jl.lookR m n sq l = (us, g, 0)) (hg : g = (Dk.data m (Jn.name n)).length) (nb : ByteArray) (hnb : str (Jn.name n) = .string nb) :
    Calls Tryz.prog 24 #[.pointer (some ⟨d, 0, none⟩), .int .i64 n, .int .i64 sq, .int .i64 l] W fun e W' => (∃ j v, e = .returned (.tuple #[.pointer (some ⟨j, 0, none⟩), v, .int .i64 0]) ∧ Jl.Opened W W' d m.age nb sq l us j v) ∧ Below W.heap.size W W' := by
  have k1 := h.ask fun F hA hG => Jl.look_any hA hG n sq l hT hP hL
  have hP2 := fun {w : World} (hB : Below W.heap.size W w) => hP.below hB
  have k2 := fun {w : World} (hB : Below W.heap.size W w) => name_any n w (hP2 hB) nb hnb
  have hns : nb.data.toList = Jn.name n := by
    obtain ⟨nb2, e1, e2, _⟩ := str_of (Jn.name n)
    rw [e1] at hnb
    rw [← Value.string.inj hnb]; exact e2
  have hname : nb.size ≤ 9223372036854775807 := by rw [Tx.size, hns]; exact Jl.name_len n
  have k3 := fun {w : World} (hB : Below W.heap.size W w) => (h.later hB).ask fun F hA hG => Dk.size_any hA nb hname
  have k4 := fun {w : World} (hB : Below W.heap.size W w) (ls : Int) => (h.later hB).ask fun F hA hG => Jl.begin_any hA n sq l ls (hP2 hB) nb hnb
  obtain ⟨z1, z2, z3⟩ := Jl.lookR_zero hL
  obtain ⟨_, _, hs⟩ := Jn.goesE_zero z1
  have hll := Jn.look_len z3
  have hdl := Jl.data_len h.good (Jn.name n)
  unfold Dk.sizeV at k3
  rw [hns, if_pos z2, ← hg] at k3
  obtain ⟨ag, hag⟩ : ∃ ag, m.age = ag := ⟨_, rfl⟩
  simp only [hag] at k4 ⊢
  have q1 : ((g : Int) != (g : Int)) = false := by rw [bne_eq_false_iff_eq]
  have w1 : IntKind.i64.wrap (sq + (us.length : Int)) = sq + (us.length : Int) := IntWalk.i64_in _ (by omega)
  clear hL hg hT hP h hnb hns z1 z2 z3 hll hdl hs hag hP2
  go_enter Tryz.func24, Tryz.ntmps24
  go_wp2_with (first
    | (go_at_call 28; refine k1.mono ?_; clear k1; rintro e w1 ⟨⟨v, rfl, r1⟩, b1⟩; obtain ⟨A, cp, rfl⟩ := Jl.slice_form r1)
    | (go_at_call 47; refine (k2 b1).mono ?_; clear k2; rintro e w2 ⟨rfl, b2⟩; have b3 := b1.trans (b2.mono b1.size))
    | (go_at_call 51; refine (k3 b3).mono ?_; rintro e w' ⟨rfl, rfl⟩)
    | (go_at_call 48; refine (k4 b3 _).mono ?_; rintro e w4 ⟨j, rfl, hj, bj, b4⟩))
  refine bodyPost_ret (v := .tuple #[.pointer (some ⟨j, 0, none⟩), .slice A us.length cp, .int .i64 0]) (by simp [results, Tryz.results24, go_sem]) rfl ?_
  have b5 := b3.trans (b4.mono b3.size)
  have hz := b3.size
  exact ⟨⟨_, _, rfl, by omega, bj, (Jl.row_grown (Jl.row_grown r1 (Jl.grown_of b2)) (Jl.grown_of b4))⟩, b5⟩
set_option maxRecDepth 100000 in
set_option maxHeartbeats 2000000 in
/-- A bad tail is cut off. -/
theorem Jl.open_cut {B d : Nat} {W0 W : World} {m m' : Dk.M} {K : Nat → Prop} (h : Jl.Sit B W0 W d m K) (hT : ∀ {w : World}, Below B W0 w → TabS w) (hP : ∀ {w : World}, Below B W0 w → PowT w) (n sq l : Int) {us : List Jn.Upd} {g : Nat} (hL : Jl.lookR m n sq l = (us, g, 0)) (hg : g ≠ (Dk.data m (Jn.name n)).length) (nb : ByteArray) (hnb : str (Jn.name n) = .string nb)
    (hc : Dk.cut m (Jn.name n) g = (m', 0)) :
    Calls Tryz.prog 24 #[.pointer (some ⟨d, 0, none⟩), .int .i64 n, .int .i64 sq, .int .i64 l] W fun e W' => ∃ j v, e = .returned (.tuple #[.pointer (some ⟨j, 0, none⟩), v, .int .i64 0]) ∧ Jl.Opened W W' d m'.age nb sq l us j v ∧ Jl.Sit B W0 W' d m' (fun k => K k ∨ k = j ∨ v.ownBlock = some k) ∧ Jl.Kept K W W' := by
  have hz0 := h.size
  have k1 := h.ask fun F hA hG => Jl.look_any hA hG n sq l (hT h.below) (hP h.below) hL
  have k2 := fun {w : World} (hB : Below W.heap.size W w) => name_any n w (hP (h.below.trans (hB.mono hz0))) nb hnb
  have hns : nb.data.toList = Jn.name n := by
    obtain ⟨nb2, e1, e2, _⟩ := str_of (Jn.name n)
    rw [e1] at hnb
    rw [← Value.string.inj hnb]; exact e2
  have hname : nb.size ≤ 9223372036854775807 := by rw [Tx.size, hns]; exact Jl.name_len n
  have k3 := fun {w : World} (hB : Below W.heap.size W w) => (h.later hB).ask fun F hA hG => Dk.size_any hA nb hname
  obtain ⟨z1, z2, z3⟩ := Jl.lookR_zero hL
  obtain ⟨_, _, hs⟩ := Jn.goesE_zero z1
  have hll := Jn.look_len z3
  have hdl := Jl.data_len h.good (Jn.name n)
  have hm' : (Dk.cut m (Jn.name n) g).1 = m' := by rw [hc]
  have hGm : Dk.Good m' := hm' ▸ Dk.cut_good h.good _ _
  have k5 := fun {w : World} {K' : Nat → Prop} (hS : Jl.Sit B W0 w d m K') => hS.call (m' := m') hGm fun F hA hG => (by
    have := Dk.cut_any hA hG nb hname g (by omega)
    rw [hns, hc] at this
    exact this)
  have k4 := fun {w : World} {K' : Nat → Prop} (hS : Jl.Sit B W0 w d m' K') (ls : Int) => hS.ask fun F hA hG => Jl.begin_any hA n sq l ls (hP hS.below) nb hnb
  have hgr := fun {w : World} (hB : Below W.heap.size W w) => h.grow hB
  unfold Dk.sizeV at k3
  rw [hns, if_pos z2] at k3
  obtain ⟨ag, hag⟩ : ∃ ag, m'.age = ag := ⟨_, rfl⟩
  obtain ⟨len, hlen⟩ : ∃ len, (Dk.data m (Jn.name n)).length = len := ⟨_, rfl⟩
  rw [hlen] at k3 hg
  simp only [hag] at k4 ⊢
  have q1 : ((g : Int) != (len : Int)) = true := by rw [bne_iff_ne]; omega
  have w1 : IntKind.i64.wrap (sq + (us.length : Int)) = sq + (us.length : Int) := IntWalk.i64_in _ (by omega)
  clear hL hg hnb hns z1 z2 z3 hll hdl hs hag hlen hc hm' hGm hT hP
  go_enter Tryz.func24, Tryz.ntmps24
  go_wp2_with (first
    | (go_at_call 35; have S3 := hgr b5; refine (k5 S3).mono ?_; clear k5; rintro e w5 ⟨rfl, S5, K5⟩)
    | (go_at_call 28; refine k1.mono ?_; clear k1; rintro e w1 ⟨⟨v, rfl, r1⟩, b1⟩; obtain ⟨A, cp, rfl⟩ := Jl.slice_form r1)
    | (go_at_call 47; refine (k2 b1).mono ?_; rintro e w2 ⟨rfl, b2⟩; have b3 := b1.trans (b2.mono b1.size); have k22 := k2 b3; clear k2)
    | (go_at_call 51; refine (k3 b3).mono ?_; rintro e w' ⟨rfl, rfl⟩)
    | (go_at_call 47; refine k22.mono ?_; clear k22; rintro e w3 ⟨rfl, b4⟩; have b5 := b3.trans (b4.mono b3.size))
    | (go_at_call 48; refine (k4 S5 _).mono ?_; rintro e w4 ⟨j, rfl, hj, bj, b6⟩))
  refine bodyPost_ret (v := .tuple #[.pointer (some ⟨j, 0, none⟩), .slice A us.length cp, .int .i64 0]) (by simp [results, Tryz.results24, go_sem]) rfl ?_
  have r3 : Jl.Own w3 W.heap.size (.slice A us.length cp) us := Jl.row_grown (Jl.row_grown r1 (Jl.grown_of b2)) (Jl.grown_of b4)
  have hz3 := b5.size
  have hrb : ∀ k, (Value.slice A us.length cp).ownBlock = some k → K k ∨ (W.heap.size ≤ k ∧ k < w3.heap.size) := fun k e => .inr (r3.lt e)
  have r5 := r3.kept K5 hrb
  have r6 : Jl.Own w4 W.heap.size (.slice A us.length cp) us := Jl.row_grown r5 (Jl.grown_of b6)
  have hz5 := K5.1
  refine ⟨j, _, rfl, ⟨by omega, bj, r6⟩, ?_, by have := b6.size; omega, fun k hk => ?_⟩
  · refine (S5.grow b6).sub fun k hk => ?_
    rcases hk with hk | rfl | hk
    · exact .inl (.inl hk)
    · exact .inr ⟨hj, bj.lt⟩
    · exact .inl (hrb k hk)
  · exact ((b6.block k (S5.lt (.inl hk)).2).trans (K5.2 k (.inl hk))).trans (b5.block k (h.lt hk).2)
#print axioms Jl.open_whole
end Go.Proofs.YtifkhjihgnnpfaaGreatDoor
