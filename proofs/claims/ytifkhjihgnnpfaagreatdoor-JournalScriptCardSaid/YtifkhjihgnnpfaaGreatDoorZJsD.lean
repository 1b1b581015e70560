/- The document's journal: begun, Create, Last, Synced, down. Conditions: each theorem's own hypotheses. -/
import Derived.Test.YtifkhjihgnnpfaaGreatDoorJpA
import Derived.Test.YtifkhjihgnnpfaaGreatDoorJlK
import Derived.Test.YtifkhjihgnnpfaaGreatDoorMtW
import Derived.Deep.RegionHeld3
namespace Go.Proofs.YtifkhjihgnnpfaaGreatDoor
open Go.RowKit
set_option linter.unusedVariables false

/-- The document's journal, its block. -/
def Js.rc (r : Nat) (J : Jl.Js) (n : Int) : Array Value := #[.pointer (some ⟨r, 0, none⟩), .int .i64 J.age, .bool J.gone, .int .i64 n, .int .i64 J.l, .int .i64 J.last, .int .i64 J.synced]
structure Js.Rt (B : Nat) (W0 w : World) (r : Nat) (m : Dk.M) (j : Nat) (J : Jl.Js) (n : Int) (K : Nat → Prop) : Prop where
  sit : Mt.Sit B W0 w r m K
  blk : Blk w j 81 (Js.rc r J n)
  own : K j
section
variable {B r j : Nat} {W0 w w' : World} {m m' : Dk.M} {J : Jl.Js} {n : Int} {K : Nat → Prop}
theorem Js.Rt.later (h : Js.Rt B W0 w r m j J n K) (hB : Below w.heap.size w w') : Js.Rt B W0 w' r m j J n K := ⟨h.sit.later hB, (hB.block _ h.blk.lt).trans h.blk, h.own⟩
theorem Js.Rt.dn (h : Js.Rt B W0 w r m j J n K) (i : Nat) : Js.Rt B W0 (w.drewN i) r m j J n K := h.later (below_dn (Below.refl _ _) i)
theorem Js.Rt.cell (h : Js.Rt B W0 w r m j J n K) : w.cell? ⟨j, 0, none⟩ = some (.pointer (some ⟨r, 0, none⟩)) ∧ w.cell? ⟨j, 1, none⟩ = some (.int .i64 J.age) ∧ w.cell? ⟨j, 2, none⟩ = some (.bool J.gone) ∧ w.cell? ⟨j, 3, none⟩ = some (.int .i64 n) ∧ w.cell? ⟨j, 4, none⟩ = some (.int .i64 J.l) ∧ w.cell? ⟨j, 5, none⟩ = some (.int .i64 J.last) ∧ w.cell? ⟨j, 6, none⟩ = some (.int .i64 J.synced) :=
  ⟨h.blk.cell 0, h.blk.cell 1, h.blk.cell 2, h.blk.cell 3, h.blk.cell 4, h.blk.cell 5, h.blk.cell 6⟩
theorem Js.Rt.set (h : Js.Rt B W0 w r m j J n K) (i : Nat) (v : Value) {J' : Jl.Js} (hc : (Js.rc r J n).setIfInBounds i v = Js.rc r J' n) : Js.Rt B W0 (w.setCell ⟨j, i, none⟩ v) r m j J' n K ∧ Jl.KeptB K j w (w.setCell ⟨j, i, none⟩ v) :=
  ⟨⟨(h.sit.only (G := fun k => k = j) (Dk.Only.setCell (F := fun k => k = j) (Dk.Only.refl _ w) (p := ⟨j, i, none⟩) (.inl rfl) v) fun k hk => hk ▸ h.own).sub fun k hk => .inl hk, by rw [← hc]; exact h.blk.set_ i v, h.own⟩, by simp [World.setCell], fun k hk hn => Below.heap_setCell w ⟨j, i, none⟩ v k hn⟩
theorem Js.Rt.gone_ (h : Js.Rt B W0 w r m j J n K) (b : Bool) : Js.Rt B W0 (w.setCell ⟨j, 2, none⟩ (.bool b)) r m j { J with gone := b } n K ∧ Jl.KeptB K j w (w.setCell ⟨j, 2, none⟩ (.bool b)) := h.set 2 (.bool b) rfl
theorem Js.KeptB.of {w w' : World} (h : Js.Rt B W0 w r m j J n K) (hB : Below w.heap.size w w') : Jl.KeptB K j w w' := (h.sit.kept hB).b j
theorem Js.Rt.call (h : Js.Rt B W0 w r m j J n K) {g : FuncId} {args : Array Value} {e : Ending} (hG : Dk.Good m')
    (f : ∀ F, Dr.At w r m F → Dk.Good m → Calls Tryz.prog g args w fun x W' => x = e ∧ Dr.Moved w W' r F m') : Calls Tryz.prog g args w fun x W' => x = e ∧ Js.Rt B W0 W' r m' j J n K ∧ Jl.KeptB K j w W' :=
  (h.sit.call hG f).mono fun x W' ⟨a, b, c⟩ => ⟨a, ⟨b, (c.2 j h.own).trans h.blk, h.own⟩, c.b j⟩
theorem Js.Rt.sub {K' : Nat → Prop} (h : Js.Rt B W0 w r m j J n K) (hs : ∀ k, K' k → K k) (hj : K' j) : Js.Rt B W0 w r m j J n K' := ⟨h.sit.sub hs, h.blk, hj⟩
theorem Js.Rt.off (h : Js.Rt B W0 w r m j J n K) (i : Nat) : Calls Tryz.prog 18 #[.pointer (some ⟨r, 0, none⟩)] (w.drewN i) fun e w' => e = .returned (.bool m.off) ∧ w' = w.drewN i :=
  (h.dn i).sit.ask fun F hA hG => (Dr.down_any hA).mono fun e w' ⟨a, b⟩ => ⟨a, b.symm⟩
theorem Js.Rt.ages (h : Js.Rt B W0 w r m j J n K) (i : Nat) : Calls Tryz.prog 83 #[.pointer (some ⟨r, 0, none⟩)] (w.drewN i) fun e w' => e = .returned (.int .i64 m.age) ∧ w' = w.drewN i :=
  (h.dn i).sit.ask fun F hA hG => (Dr.age_any hA).mono fun e w' ⟨a, b⟩ => ⟨a, b.symm⟩
set_option maxRecDepth 100000 in
theorem Js.refLast_any (h : Js.Rt B W0 w r m j J n K) : Calls Tryz.prog 10 #[.pointer (some ⟨j, 0, none⟩)] w fun e w' => e = .returned (.int .i64 J.last) ∧ w = w' := by
  obtain ⟨c0, c1, c2, c3, c4, c5, c6⟩ := h.cell
  go_enter Tryz.func10, Tryz.ntmps10
  go_wp2_with fail
  go_ret
  exact ⟨rfl, rfl⟩
set_option maxRecDepth 100000 in
theorem Js.refSynced_any (h : Js.Rt B W0 w r m j J n K) : Calls Tryz.prog 12 #[.pointer (some ⟨j, 0, none⟩)] w fun e w' => e = .returned (.int .i64 J.synced) ∧ w = w' := by
  obtain ⟨c0, c1, c2, c3, c4, c5, c6⟩ := h.cell
  go_enter Tryz.func12, Tryz.ntmps12
  go_wp2_with fail
  go_ret
  exact ⟨rfl, rfl⟩
/-- Is a journal given up, or its disk down, or cut since? -/
def Js.dead (m : Dk.M) (J : Jl.Js) : Bool := J.gone || (m.off || (m.age != J.age))
set_option maxRecDepth 100000 in
set_option maxHeartbeats 2000000 in
theorem Js.refDown_any (h : Js.Rt B W0 w r m j J n K) : Calls Tryz.prog 74 #[.pointer (some ⟨j, 0, none⟩)] w fun e w' => e = .returned (.bool (Js.dead m J)) ∧ Js.Rt B W0 w' r m j { J with gone := Js.dead m J } n K ∧ Jl.KeptB K j w w' := by
  obtain ⟨jg, gn, nb, jl, last, sy⟩ := J
  obtain ⟨c0, c1, c2, c3, c4, c5, c6⟩ := h.cell
  have kd := h.off
  have ka := h.ages
  have ff := h.blk.frozen 2
  have fin := fun i => (h.dn i).gone_ true
  have fin2 := fun i => h.dn i
  unfold Js.dead
  simp only at c1 c2 fin ⊢
  obtain ⟨ag, hag⟩ : ∃ x, m.age = x := ⟨_, rfl⟩
  rw [hag] at ka ⊢
  have kd0 := kd 0
  rw [show w.drewN 0 = w from rfl] at kd0
  cases ho : m.off with
  | true =>
    rw [ho] at kd0
    simp only [Bool.true_or, Bool.or_true]
    clear c3 c4 c5 c6 kd ho hag
    go_enter Tryz.func74, Tryz.ntmps74
    go_upto_region 2 with (go_at_call 18; refine kd0.mono ?_; rintro e w1 ⟨rfl, rfl⟩)
    go_quiet (fail)
    go_wp2_with fail
    go_ret
    exact ⟨rfl, fin _⟩
  | false =>
    rw [ho] at kd0
    simp only [Bool.false_or]
    cases hq : (ag != jg) with
    | true =>
      simp only [Bool.or_true]
      clear c3 c4 c5 c6 kd ho hag
      go_enter Tryz.func74, Tryz.ntmps74
      go_upto_region 2 with (go_at_call 18; refine kd0.mono ?_; rintro e w1 ⟨rfl, rfl⟩)
      go_quiet ((go_at_call 83; exact Calls.quiet_of_same (ka _)))
      go_wp2_with fail
      go_ret
      exact ⟨rfl, fin _⟩
    | false =>
      simp only [Bool.or_false]
      clear c3 c4 c5 c6 kd ho hag
      go_enter Tryz.func74, Tryz.ntmps74
      go_upto_region 2 with (go_at_call 18; refine kd0.mono ?_; rintro e w1 ⟨rfl, rfl⟩)
      go_quiet ((go_at_call 83; exact Calls.quiet_of_same (ka _)))
      go_wp2_with fail
      go_ret
      exact ⟨rfl, fin2 _, Js.KeptB.of h (below_dn (Below.refl _ _) _)⟩
end
end Go.Proofs.YtifkhjihgnnpfaaGreatDoor
/- The document's journal: begun, Create, Check, Sync. Conditions: each theorem's own hypotheses. -/
namespace Go.Proofs.YtifkhjihgnnpfaaGreatDoor
open Go.RowKit
set_option linter.unusedVariables false

section
variable {B r j : Nat} {W0 W w w' : World} {m m' : Dk.M} {J : Jl.Js} {n : Int} {K : Nat → Prop}
set_option maxRecDepth 100000 in
theorem Js.begun_any {F : Nat → Prop} (h : Dr.At W r m F) (n sq l last : Int) (nb : ByteArray) :
    Calls Tryz.prog 50 #[.pointer (some ⟨r, 0, none⟩), .int .i64 n, .int .i64 sq, .int .i64 l, .int .i64 last] W fun e W' => ∃ j, e = .returned (.pointer (some ⟨j, 0, none⟩)) ∧ W.heap.size ≤ j ∧ Blk W' j 81 (Js.rc r ⟨m.age, false, nb, l, last, sq⟩ n) ∧ Below W.heap.size W W' := by
  have k1 := Dr.age_any h
  obtain ⟨ag, hag⟩ : ∃ ag, m.age = ag := ⟨_, rfl⟩
  rw [hag] at k1 ⊢
  clear hag h
  go_enter Tryz.func50, Tryz.ntmps50
  go_wp2_with (go_at_call 83; refine k1.mono ?_; rintro e w' ⟨rfl, rfl⟩)
  go_ret
  exact ⟨_, rfl, Nat.le_refl _, Blk.new _ _ _, (Below.refl _ _).alloc (Nat.le_refl _) _⟩
set_option maxRecDepth 100000 in
set_option maxHeartbeats 2000000 in
theorem Js.refCreate_no (h : Mt.Sit B W0 W r m K) (hP : ∀ {w : World}, Below B W0 w → PowT w) (n sq l : Int) (nb : ByteArray) (hnb : str (Jn.name n) = .string nb) {c : Int} (hc : c ≠ 0) (hr : Jl.createR m n sq l = (m', c)) :
    Calls Tryz.prog 22 #[.pointer (some ⟨r, 0, none⟩), .int .i64 n, .int .i64 sq, .int .i64 l] W fun e W' => e = .returned (.tuple #[.pointer none, .int .i64 c]) ∧ Mt.Sit B W0 W' r m' K ∧ Jl.Kept K W W' := by
  obtain ⟨hns, hname⟩ := Jl.name_is n nb hnb
  have hz := h.size
  have k1 := Jl.refGoes_any n sq l W
  have k2 := refName_any n W (hP h.below) nb hnb
  have hl := fun {w : World} (hB : Below W.heap.size W w) => h.later hB
  have hk := fun {w : World} (hB : Below W.heap.size W w) => h.kept hB
  have q1 : (c != 0) = true := bne_iff_ne.2 hc
  unfold Jl.createR at hr
  by_cases hg : Jn.goesE n sq l = 0
  · rw [if_pos hg] at hr
    rw [hg] at k1
    have k3 := fun {w : World} (hS : Mt.Sit B W0 w r m K) => hS.call (m' := (Dk.create m nb.data.toList).1) (Jl.create_good hS.good _) fun F hA hG => Dr.create_any hA hG nb hname
    rw [hns, hr] at k3
    simp only at k3
    clear hr hg hP h hnb hns hname hc
    go_enter Tryz.func22, Tryz.ntmps22
    go_wp2_with (first
      | (go_at_call 49; refine k1.mono ?_; clear k1; rintro e w1 ⟨rfl, rfl⟩)
      | (go_at_call 29; refine k2.mono ?_; clear k2; rintro e w2 ⟨rfl, b2⟩; have S2 := hl b2; have kc := k3 S2; clear k3)
      | (go_at_call 38; refine kc.mono ?_; clear kc; rintro e w3 ⟨rfl, S3, K3⟩))
    refine bodyPost_ret (v := .tuple #[.pointer none, .int .i64 c]) (by simp [results, Tryz.results22, go_sem]) rfl ?_
    exact ⟨rfl, S3, (hk b2).trans K3⟩
  · rw [if_neg hg] at hr
    obtain ⟨e1, e2⟩ := Prod.mk.inj hr
    subst e1
    rw [e2] at k1
    clear hr hg hP hnb hns hname e2 k2 hc
    go_enter Tryz.func22, Tryz.ntmps22
    go_wp2_with (go_at_call 49; refine k1.mono ?_; clear k1; rintro e w1 ⟨rfl, rfl⟩)
    refine bodyPost_ret (v := .tuple #[.pointer none, .int .i64 c]) (by simp [results, Tryz.results22, go_sem]) rfl ?_
    exact ⟨rfl, h, Nat.le_refl _, fun _ _ => rfl⟩
set_option maxRecDepth 100000 in
set_option maxHeartbeats 2000000 in
theorem Js.refCreate_ok (h : Mt.Sit B W0 W r m K) (hP : ∀ {w : World}, Below B W0 w → PowT w) (n sq l : Int) (nb : ByteArray) (hnb : str (Jn.name n) = .string nb) (hr : Jl.createR m n sq l = (m', 0)) :
    Calls Tryz.prog 22 #[.pointer (some ⟨r, 0, none⟩), .int .i64 n, .int .i64 sq, .int .i64 l] W fun e W' => ∃ j, e = .returned (.tuple #[.pointer (some ⟨j, 0, none⟩), .int .i64 0]) ∧ W.heap.size ≤ j ∧ Js.Rt B W0 W' r m' j ⟨m'.age, false, nb, l, sq, sq⟩ n (fun k => K k ∨ k = j) ∧ Jl.Kept K W W' := by
  obtain ⟨hns, hname⟩ := Jl.name_is n nb hnb
  have hz := h.size
  have k1 := Jl.refGoes_any n sq l W
  have k2 := refName_any n W (hP h.below) nb hnb
  have hl := fun {w : World} (hB : Below W.heap.size W w) => h.later hB
  have hk := fun {w : World} (hB : Below W.heap.size W w) => h.kept hB
  unfold Jl.createR at hr
  by_cases hg : Jn.goesE n sq l = 0
  rotate_left
  · rw [if_neg hg] at hr
    exact absurd (congrArg Prod.snd hr) hg
  rw [if_pos hg] at hr
  rw [hg] at k1
  have k3 := fun {w : World} (hS : Mt.Sit B W0 w r m K) => hS.call (m' := (Dk.create m nb.data.toList).1) (Jl.create_good hS.good _) fun F hA hG => Dr.create_any hA hG nb hname
  rw [hns, hr] at k3
  simp only at k3
  have k4 := fun {w : World} (hS : Mt.Sit B W0 w r m' K) => hS.ask fun F hA hG => Js.begun_any hA n sq l sq nb
  clear hr hg hP h hnb hns hname
  obtain ⟨ag, hag⟩ : ∃ ag, m'.age = ag := ⟨_, rfl⟩
  simp only [hag] at k4 ⊢
  clear hag
  go_enter Tryz.func22, Tryz.ntmps22
  go_wp2_with (first
    | (go_at_call 49; refine k1.mono ?_; clear k1; rintro e w1 ⟨rfl, rfl⟩)
    | (go_at_call 29; refine k2.mono ?_; clear k2; rintro e w2 ⟨rfl, b3⟩; have S2 := hl b3; have kc := k3 S2; clear k3)
    | (go_at_call 38; refine kc.mono ?_; clear kc; rintro e w3 ⟨rfl, S3, K3⟩; have kb := k4 S3; clear k4)
    | (go_at_call 50; refine kb.mono ?_; clear kb; rintro e w4 ⟨j, rfl, hj, bj, b4⟩))
  refine bodyPost_ret (v := .tuple #[.pointer (some ⟨j, 0, none⟩), .int .i64 0]) (by simp [results, Tryz.results22, go_sem]) rfl ?_
  have hz3 := b3.size
  have hz4 := K3.1
  refine ⟨j, rfl, by omega, ⟨(S3.grow b4).sub fun k hk => ?_, bj, .inr rfl⟩, (hk b3).trans (K3.trans ⟨b4.size, fun k hk => b4.block k (S3.lt hk).2⟩)⟩
  rcases hk with hk | rfl
  · exact .inl hk
  · exact .inr ⟨hj, bj.lt⟩
set_option maxRecDepth 100000 in
theorem Js.refWidth_any (l : Nat) (hl : Jn.wideB (l : Int) = true) (w : World) :
    Calls Tryz.prog 99 #[.int .i64 l] w fun e w' => e = .returned (.bool true) ∧ w = w' := by
  obtain ⟨h1, h2, h3⟩ := Jn.wideB_true hl
  have q1 : decide ((64 : Int) ≤ (l : Int)) = true := decide_eq_true (by omega)
  have q2 : decide ((l : Int) ≤ 1024) = true := decide_eq_true (by omega)
  have q3 : decide (64 ≤ l) = true := decide_eq_true (by omega)
  have q4 : decide (l ≤ 1024) = true := decide_eq_true (by omega)
  have hq : (l : Int).tmod 64 = 0 := by rw [Int.tmod_eq_emod_of_nonneg (by omega)]; omega
  have hq2 : (l : Int) % 64 = 0 := by omega
  clear hl h3
  go_enter Tryz.func99, Tryz.ntmps99
  go_wp2_with fail
  go_ret
  exact ⟨by simp_all, rfl⟩
set_option maxRecDepth 100000 in
theorem Js.refCheck_any (l : Nat) (hl : Jn.wideB (l : Int) = true) (c : ByteArray) (w : World) :
    Calls Tryz.prog 75 #[.int .i64 l, .string c] w fun e w' => e = .returned (.int .i64 (Jl.checkE l c.size)) ∧ w' = w := by
  have k1 := fun w => Js.refWidth_any l hl w
  have hq : (l : Int).tdiv 8 = ((l / 8 : Nat) : Int) := by rw [Int.tdiv_eq_ediv_of_nonneg (by omega)]; rfl
  have hq2 : (l : Int) / 8 = ((l / 8 : Nat) : Int) := rfl
  obtain ⟨d, hd⟩ : ∃ d, l / 8 = d := ⟨_, rfl⟩
  have hd2 : d ≤ 1024 := by
    have := (Jn.wideB_true hl).2.1
    omega
  unfold Jl.checkE
  rw [hd] at hq hq2 ⊢
  by_cases h : c.size = d
  · have q1 : ((c.size : Int) != (d : Int)) = false := by rw [bne_eq_false_iff_eq]; omega
    rw [if_pos h]
    clear hd hl h
    go_enter Tryz.func75, Tryz.ntmps75
    go_wp2_with (go_at_call 99; refine (k1 _).mono ?_; rintro e w' ⟨rfl, rfl⟩)
    go_ret
    exact ⟨rfl, rfl⟩
  · have q1 : ((c.size : Int) != (d : Int)) = true := by rw [bne_iff_ne]; omega
    rw [if_neg h]
    clear hd hl h
    go_enter Tryz.func75, Tryz.ntmps75
    go_wp2_with (go_at_call 99; refine (k1 _).mono ?_; rintro e w' ⟨rfl, rfl⟩)
    go_ret
    exact ⟨rfl, rfl⟩
theorem Js.dead_iff (m : Dk.M) (J : Jl.Js) : (J.gone = true ∨ m.off = true ∨ m.age ≠ J.age) ↔ Js.dead m J = true := by
  unfold Js.dead
  rw [Bool.or_eq_true, Bool.or_eq_true, bne_iff_ne]
set_option maxRecDepth 100000 in
set_option maxHeartbeats 4000000 in
theorem Js.refSync_any (h : Js.Rt B W0 w r m j J n K) (hP : ∀ {w : World}, Below B W0 w → PowT w) (hnb : str (Jn.name n) = .string J.nb) {J' : Jl.Js} {c' : Int} (hs : Jl.sync m J = (m', J', c')) :
    Calls Tryz.prog 44 #[.pointer (some ⟨j, 0, none⟩)] w fun e w' => e = .returned (.int .i64 c') ∧ Js.Rt B W0 w' r m' j J' n K ∧ Jl.KeptB K j w w' := by
  have kd := Js.refDown_any h
  obtain ⟨hns, hname⟩ := Jl.name_is n J.nb hnb
  unfold Jl.sync at hs
  simp only [Js.dead_iff] at hs
  cases hd : Js.dead m J with
  | true =>
    rw [hd, if_pos rfl] at hs
    obtain ⟨rfl, hs2⟩ := Prod.mk.inj hs
    obtain ⟨rfl, rfl⟩ := Prod.mk.inj hs2
    rw [hd] at kd
    clear hd h
    go_enter Tryz.func44, Tryz.ntmps44
    go_wp2_with (go_at_call 74; refine kd.mono ?_; clear kd; rintro e w1 ⟨rfl, R1, k1⟩)
    go_ret
    exact ⟨rfl, R1, k1⟩
  | false =>
    rw [hd, if_neg (by decide)] at hs
    rw [hd] at kd
    have hz0 := h.sit.size
    have hbel := h.sit.below
    have k2 := fun {x : World} (R : Js.Rt B W0 x r m j { J with gone := false } n K) => refName_any n x (hP R.sit.below) J.nb hnb
    have k3 := fun {x : World} (R : Js.Rt B W0 x r m j { J with gone := false } n K) => R.call (m' := (Dk.sync m J.nb.data.toList).1) (Dk.sync_good R.sit.good _) fun F hA hG => Dr.sync_any hA hG J.nb hname
    unfold Jl.syncD at hs
    obtain ⟨⟨m1, c⟩, hS⟩ : ∃ z, Dk.sync m J.nb.data.toList = z := ⟨_, rfl⟩
    rw [hS] at k3 hs
    simp only at k3 hs
    have HS := Lib.hid hs
    clear hs hd hS hnb hns hname h
    obtain ⟨jg, gn, nb, jl, last, sy⟩ := J
    simp only at kd k2 k3
    go_enter Tryz.func44, Tryz.ntmps44
    go_upto_region 4 with (go_at_call 74; refine kd.mono ?_; clear kd; rintro e w1 ⟨rfl, R1, q1⟩)
    have R2 := R1.dn 1
    rw [show w1.drewN 1 = w1.drew from rfl] at R2
    have S2 : w1.drew.cell? ⟨j, 0, none⟩ = some (.pointer (some ⟨r, 0, none⟩)) ∧ w1.drew.cell? ⟨j, 3, none⟩ = some (.int .i64 n) := ⟨R2.cell.1, R2.cell.2.2.2.1⟩
    have q2 : Jl.KeptB K j w w1.drew := q1.trans (Js.KeptB.of R1 (below_dn (Below.refl _ _) 1))
    have kn := k2 R2
    clear R1 q1 k2
    go_region_held3 (fun W' => W'.cell? ⟨j, 0, none⟩ = some (.pointer (some ⟨r, 0, none⟩)) ∧ W'.cell? ⟨j, 3, none⟩ = some (.int .i64 n))
      (first
        | with_reducible assumption)
      (first
        | (go_at_call 29; refine kn.mono ?_; clear kn; rintro e w3 ⟨rfl, b3⟩; have R3 := R2.later b3; have q3 := q2.trans (Js.KeptB.of R2 b3); have S3 : w3.cell? ⟨j, 0, none⟩ = some (.pointer (some ⟨r, 0, none⟩)) ∧ w3.cell? ⟨j, 3, none⟩ = some (.int .i64 n) := ⟨R3.cell.1, R3.cell.2.2.2.1⟩; have ks := k3 R3; clear k3)
        | (go_at_call 78; refine ks.mono ?_; clear ks; rintro e w4 ⟨rfl, R4, q4⟩; have q5 := q3.trans q4; have S4 : w4.cell? ⟨j, 0, none⟩ = some (.pointer (some ⟨r, 0, none⟩)) ∧ w4.cell? ⟨j, 3, none⟩ = some (.int .i64 n) := ⟨R4.cell.1, R4.cell.2.2.2.1⟩))
    all_goals
      by_cases h45 : c = 45
      · subst h45
        have c2 := R4.cell.2.2.1
        have f2 := R4.blk.frozen 2
        go_wp2_with fail
        have hs := HS.out
        rw [if_neg (by decide)] at hs
        obtain ⟨rfl, hs2⟩ := Prod.mk.inj hs
        obtain ⟨rfl, rfl⟩ := Prod.mk.inj hs2
        go_ret
        exact ⟨rfl, (R4.gone_ true).1, q5.trans (R4.gone_ true).2⟩
      by_cases h0 : c = 0
      · subst h0
        have c5 := R4.cell.2.2.2.2.2.1
        have c6 := R4.cell.2.2.2.2.2.2
        have f6 := R4.blk.frozen 6
        have R5 := R4.set 6 (.int .i64 last) (J' := ⟨jg, false, nb, jl, last, last⟩) rfl
        go_wp2_with fail
        have hs := HS.out
        simp only [if_true] at hs
        obtain ⟨rfl, hs2⟩ := Prod.mk.inj hs
        obtain ⟨rfl, rfl⟩ := Prod.mk.inj hs2
        go_ret
        exact ⟨rfl, R5.1, q5.trans R5.2⟩
      · have u1 : (c == 45) = false := beq_eq_false_iff_ne.2 h45
        have u2 : (c == 0) = false := beq_eq_false_iff_ne.2 h0
        go_wp2_with fail
        have hs := HS.out
        rw [if_neg h0] at hs
        simp only [u1] at hs
        obtain ⟨rfl, hs2⟩ := Prod.mk.inj hs
        obtain ⟨rfl, rfl⟩ := Prod.mk.inj hs2
        go_ret
        exact ⟨rfl, R4, q5⟩
end
end Go.Proofs.YtifkhjihgnnpfaaGreatDoor
/- The document's journal: Append. Conditions: each theorem's own hypotheses. -/
namespace Go.Proofs.YtifkhjihgnnpfaaGreatDoor
open Go.RowKit
set_option linter.unusedVariables false

theorem Js.write_ne (q k i : Int) (c : List UInt8) : (((Jn.write q k i c).2 : Int) == 45) = false := by
  rw [beq_eq_false_iff_ne]
  unfold Jn.write
  split
  · decide
  split
  · decide
  split
  · decide
  split
  · decide
  · show ((0 : Nat) : Int) ≠ 45
    decide
section
variable {B r j : Nat} {W0 W w w' : World} {m m' : Dk.M} {J : Jl.Js} {n : Int} {K : Nat → Prop}
set_option maxRecDepth 100000 in
set_option maxHeartbeats 8000000 in
theorem Js.refAppend_any {l : Nat} (h : Js.Rt B W0 w r m j J n K) (hP : ∀ {w : World}, Below B W0 w → PowT w) (hnb : str (Jn.name n) = .string J.nb) (hl : J.l = l) (hw : Jn.wideB (l : Int) = true) (hlast : 0 ≤ J.last ∧ J.last ≤ 4611686018427387904) {q k i : Int} {c : ByteArray} (hc : c.size ≤ 9223372036854775807) (hbs : (Jn.write q k i c.data.toList).1.length ≤ 140737488355328)
    {J' : Jl.Js} {c' : Int} (hs : Jl.app m J l q k i c.data.toList = (m', J', c')) :
    Calls Tryz.prog 42 #[.pointer (some ⟨j, 0, none⟩), .agg #[.int .i64 q, .int .i64 k, .int .i64 i, .string c]] w fun e w' => e = .returned (.int .i64 c') ∧ Js.Rt B W0 w' r m' j J' n K ∧ Jl.KeptB K j w w' := by
  have hcl : c.data.toList.length = c.size := Array.length_toList
  obtain ⟨hns, hname⟩ := Jl.name_is n J.nb hnb
  obtain ⟨w0, hw0⟩ : ∃ x, w.alloc (.cells #[.int .i64 q, .int .i64 k, .int .i64 i, .string c] 33) = x := ⟨_, rfl⟩
  have hA : Below w.heap.size w w0 := by rw [← hw0]; exact (Below.refl _ _).alloc (Nat.le_refl _) _
  have hbu : Blk w0 w.heap.size 33 #[.int .i64 q, .int .i64 k, .int .i64 i, .string c] := by rw [← hw0]; exact Blk.new _ _ _
  have hz0 : w0.heap.size = w.heap.size + 1 := by rw [← hw0]; simp
  have h0 : Js.Rt B W0 w0 r m j J n (fun k => K k ∨ k = w.heap.size) := ⟨(h.sit.grow hA).sub fun k hk => hk.elim .inl fun e => .inr ⟨by omega, by omega⟩, (h.later hA).blk, .inl h.own⟩
  have hk0 : Jl.KeptB K j w w0 := Js.KeptB.of h hA
  have hjw : w.heap.size ≠ j := fun e => by have := h.blk.lt; omega
  have hKj := h.own
  -- from the state with the update's block to the one without
  have hfin : ∀ {x : World} {mm : Dk.M} {JJ : Jl.Js}, Js.Rt B W0 x r mm j JJ n (fun k => K k ∨ k = w.heap.size) → Jl.KeptB (fun k => K k ∨ k = w.heap.size) j w0 x → Js.Rt B W0 x r mm j JJ n K ∧ Jl.KeptB K j w x := fun R q => ⟨R.sub (fun k hk => .inl hk) hKj, hk0.trans ⟨q.1, fun k hk => q.2 k (.inl hk)⟩⟩
  have hcell : ∀ {x : World}, Jl.KeptB (fun k => K k ∨ k = w.heap.size) j w0 x → x.cell? ⟨w.heap.size, 0, none⟩ = some (.int .i64 q) ∧ x.cell? ⟨w.heap.size, 1, none⟩ = some (.int .i64 k) ∧ x.cell? ⟨w.heap.size, 2, none⟩ = some (.int .i64 i) ∧ x.cell? ⟨w.heap.size, 3, none⟩ = some (.string c) := fun hx => by
    have e := hx.2 w.heap.size (.inr rfl) hjw
    exact ⟨(World.cell?_of_block e).trans (hbu.cell 0), (World.cell?_of_block e).trans (hbu.cell 1), (World.cell?_of_block e).trans (hbu.cell 2), (World.cell?_of_block e).trans (hbu.cell 3)⟩
  have kd := Js.refDown_any h0
  unfold Jl.app at hs
  simp only [Js.dead_iff] at hs
  cases hd : Js.dead m J with
  | true =>
    rw [hd, if_pos rfl] at hs
    obtain ⟨rfl, hs2⟩ := Prod.mk.inj hs
    obtain ⟨rfl, rfl⟩ := Prod.mk.inj hs2
    rw [hd] at kd
    clear hd h h0 hs hs2 hcell hbu hnb hns hcl hl hw
    go_enter Tryz.func42, Tryz.ntmps42
    go_wp2_with (go_at_call 74; refine kd.mono ?_; clear kd; rintro e w1 ⟨rfl, R1, q1⟩)
    go_ret
    obtain ⟨R2, q2⟩ := hfin R1 q1
    exact ⟨rfl, R2, q2⟩
  | false =>
    rw [hd, if_neg (by decide)] at hs
    rw [hd] at kd
    obtain ⟨Z, hZ⟩ : ∃ Z, Jn.write q k i c.data.toList = Z := ⟨_, rfl⟩
    have hne := Js.write_ne q k i c.data.toList
    rw [hZ] at hbs hne
    obtain ⟨bs, we⟩ := Z
    obtain ⟨S, hS, hSd, hSs⟩ := str_of bs
    have kw := fun w => refWrite_tell q k i c S bs we w hc hZ hS
    have kch := fun w => Js.refCheck_any l hw c w
    unfold Jl.appD at hs
    simp only [hZ, hcl] at hs
    obtain ⟨jg, gn, nb, jl, last, sy⟩ := J
    simp only at hl hlast hnb hns hname hs kd
    subst hl
    have HS := Lib.hid hs
    clear hd h h0 hbu hcl hs
    by_cases hwe : we = 0
    rotate_left
    · have hs := HS.out
      rw [if_pos hwe] at hs
      simp only [hne] at hs
      obtain ⟨rfl, hs2⟩ := Prod.mk.inj hs
      obtain ⟨rfl, rfl⟩ := Prod.mk.inj hs2
      have u1 : ((we : Int) != 0) = true := by rw [bne_iff_ne]; omega
      clear hs hs2 HS hwe hZ hS hSd hSs hw hlast hbs kch hne hnb hns
      go_enter Tryz.func42, Tryz.ntmps42
      go_wp2_with (first
        | (go_at_call 74; refine kd.mono ?_; clear kd; rintro e w1 ⟨rfl, R1, q1⟩; obtain ⟨x0, x1, x2, x3⟩ := hcell q1)
        | (go_at_call 53; refine (kw _).mono ?_; clear kw; rintro e w2 ⟨rfl, b2⟩))
      go_ret
      obtain ⟨R2, q2⟩ := hfin (R1.later b2) (q1.trans (Js.KeptB.of R1 b2))
      exact ⟨rfl, R2, q2⟩
    subst hwe
    have hs := HS.out
    rw [if_neg (by simp)] at hs
    have HS := Lib.hid hs
    clear hs
    by_cases hck : k = 1 ∧ Jl.checkE l c.size ≠ 0
    · have hs := HS.out
      rw [if_pos hck] at hs
      obtain ⟨rfl, hs2⟩ := Prod.mk.inj hs
      obtain ⟨rfl, rfl⟩ := Prod.mk.inj hs2
      obtain ⟨rfl, hce⟩ := hck
      have u1 : (Jl.checkE l c.size != 0) = true := bne_iff_ne.2 hce
      clear hs hs2 HS hce hZ hS hSd hSs hw hlast hbs hne hnb hns
      go_enter Tryz.func42, Tryz.ntmps42
      go_upto_region 7 with (first
        | (go_at_call 74; refine kd.mono ?_; clear kd; rintro e w1 ⟨rfl, R1, q1⟩; obtain ⟨x0, x1, x2, x3⟩ := hcell q1)
        | (go_at_call 53; refine (kw _).mono ?_; clear kw; rintro e w2 ⟨rfl, b2⟩; have R2 := R1.later b2; have q2 := q1.trans (Js.KeptB.of R1 b2); clear x0 x1 x2 x3; obtain ⟨x0, x1, x2, x3⟩ := hcell q2; have c4 := R2.cell.2.2.2.2.1; simp only at c4))
      go_quiet ((go_at_call 75; exact Calls.quiet_of_same (kch _)))
      go_wp2_with fail
      go_ret
      obtain ⟨R3, q3⟩ := hfin (R2.dn _) (q2.trans (Js.KeptB.of R2 (below_dn (Below.refl _ _) _)))
      exact ⟨rfl, R3, q3⟩
    have hs := HS.out
    rw [if_neg hck] at hs
    have HS := Lib.hid hs
    clear hs
    by_cases hql : q = last + 1
    rotate_left
    · have hs := HS.out
      rw [if_pos hql] at hs
      obtain ⟨rfl, hs2⟩ := Prod.mk.inj hs
      obtain ⟨rfl, rfl⟩ := Prod.mk.inj hs2
      have u2 : (q != last + 1) = true := bne_iff_ne.2 hql
      have u3 : IntKind.i64.wrap (last + 1) = last + 1 := IntWalk.i64_in _ (by omega)
      have fin := fun {x : World} (R : Js.Rt B W0 x r m j ⟨jg, false, nb, l, last, sy⟩ n (fun k => K k ∨ k = w.heap.size)) (hq : Jl.KeptB (fun k => K k ∨ k = w.heap.size) j w0 x) (i : Nat) => hfin (R.dn i) (hq.trans (Js.KeptB.of R (below_dn (Below.refl _ _) i)))
      clear hs hs2 HS hZ hS hSd hSs hw hlast hbs hne hnb hns hql
      by_cases hk1 : k = 1
      · subst hk1
        have u1 : (Jl.checkE l c.size != 0) = false := by rw [bne_eq_false_iff_eq]; exact Decidable.not_not.1 fun h => hck ⟨rfl, h⟩
        clear hck
        go_enter Tryz.func42, Tryz.ntmps42
        go_upto_region 7 with (first
          | (go_at_call 74; refine kd.mono ?_; clear kd; rintro e w1 ⟨rfl, R1, q1⟩; obtain ⟨x0, x1, x2, x3⟩ := hcell q1)
          | (go_at_call 53; refine (kw _).mono ?_; clear kw; rintro e w2 ⟨rfl, b2⟩; have R2 := R1.later b2; have q2 := q1.trans (Js.KeptB.of R1 b2); clear x0 x1 x2 x3; obtain ⟨x0, x1, x2, x3⟩ := hcell q2; have c4 := R2.cell.2.2.2.2.1; have c5 := R2.cell.2.2.2.2.2.1; simp only at c4 c5))
        go_quiet ((go_at_call 75; exact Calls.quiet_of_same (kch _)))
        go_upto_region 9 with fail
        go_quiet (fail)
        go_wp2_with fail
        go_ret
        obtain ⟨R3, q3⟩ := fin (R2.dn _) (q2.trans (Js.KeptB.of R2 (below_dn (Below.refl _ _) _))) _
        exact ⟨rfl, R3, q3⟩
      · have u1 : (k == 1) = false := beq_eq_false_iff_ne.2 hk1
        clear hck hk1
        go_enter Tryz.func42, Tryz.ntmps42
        go_upto_region 7 with (first
          | (go_at_call 74; refine kd.mono ?_; clear kd; rintro e w1 ⟨rfl, R1, q1⟩; obtain ⟨x0, x1, x2, x3⟩ := hcell q1)
          | (go_at_call 53; refine (kw _).mono ?_; clear kw; rintro e w2 ⟨rfl, b2⟩; have R2 := R1.later b2; have q2 := q1.trans (Js.KeptB.of R1 b2); clear x0 x1 x2 x3; obtain ⟨x0, x1, x2, x3⟩ := hcell q2; have c4 := R2.cell.2.2.2.2.1; have c5 := R2.cell.2.2.2.2.2.1; simp only at c4 c5))
        go_quiet (fail)
        go_upto_region 9 with fail
        go_quiet (fail)
        go_wp2_with fail
        go_ret
        obtain ⟨R3, q3⟩ := fin (R2.dn _) (q2.trans (Js.KeptB.of R2 (below_dn (Below.refl _ _) _))) _
        exact ⟨rfl, R3, q3⟩
    subst hql
    have hs := HS.out
    rw [if_neg (by simp)] at hs
    obtain ⟨⟨m1, d⟩, hD⟩ : ∃ z, Dk.append m nb.data.toList bs = z := ⟨_, rfl⟩
    rw [hD] at hs
    simp only at hs
    have hSz : S.size ≤ 140737488355328 := by rw [Tx.size, hSd]; exact hbs
    have k2 := fun {x : World} (R : Js.Rt B W0 x r m j ⟨jg, false, nb, l, last, sy⟩ n (fun k => K k ∨ k = w.heap.size)) => refName_any n x (hP R.sit.below) nb hnb
    have k3 := fun {x : World} (R : Js.Rt B W0 x r m j ⟨jg, false, nb, l, last, sy⟩ n (fun k => K k ∨ k = w.heap.size)) => R.call (m' := (Dk.append m nb.data.toList S.data.toList).1) (Dk.append_good R.sit.good _ _) fun F hA hG => Dr.append_any hA hG nb S hname hSz
    rw [hSd, hD] at k3
    simp only at k3
    have u2 : (last + 1 != last + 1) = false := by simp
    have u3 : IntKind.i64.wrap (last + 1) = last + 1 := IntWalk.i64_in _ (by omega)
    have HS := Lib.hid hs
    clear hs hD hS hSd hSs hSz hZ hne hbs hw hlast hnb hns
    have walk : ∀ kk : Bool, (k == 1) = kk → (kk = true → (Jl.checkE l c.size != 0) = false) → Calls Tryz.prog 42 #[.pointer (some ⟨j, 0, none⟩), .agg #[.int .i64 (last + 1), .int .i64 k, .int .i64 i, .string c]] w fun e w' => e = .returned (.int .i64 c') ∧ Js.Rt B W0 w' r m' j J' n K ∧ Jl.KeptB K j w w' := by
      intro kk u0 u1
      go_enter Tryz.func42, Tryz.ntmps42
      go_upto_region 7 with (first
        | (go_at_call 74; refine kd.mono ?_; clear kd; rintro e w1 ⟨rfl, R1, q1⟩; obtain ⟨x0, x1, x2, x3⟩ := hcell q1)
        | (go_at_call 53; refine (kw _).mono ?_; clear kw; rintro e w2 ⟨rfl, b2⟩; have R2 := R1.later b2; have q2 := q1.trans (Js.KeptB.of R1 b2); clear x0 x1 x2 x3; obtain ⟨x0, x1, x2, x3⟩ := hcell q2; have c4 := R2.cell.2.2.2.2.1; have c5 := R2.cell.2.2.2.2.2.1; simp only at c4 c5))
      clear R1 q1
      go_cut [31] (fun v X => v = .bool false ∧ ∃ (y : World), y = X ∧ Js.Rt B W0 y r m j ⟨jg, false, nb, l, last, sy⟩ n (fun k => K k ∨ k = w.heap.size) ∧ Jl.KeptB (fun k => K k ∨ k = w.heap.size) j w0 y)
      case first =>
        cases kk with
        | true =>
          have u1 := u1 rfl
          go_quiet ((go_at_call 75; exact Calls.quiet_of_same (kch _)))
          go_wp2_with fail
          go_meet
          exact ⟨rfl, _, rfl, R2.dn _, q2.trans (Js.KeptB.of R2 (below_dn (Below.refl _ _) _))⟩
        | false =>
          go_quiet (fail)
          go_wp2_with fail
          go_meet
          exact ⟨rfl, _, rfl, R2.dn _, q2.trans (Js.KeptB.of R2 (below_dn (Below.refl _ _) _))⟩
      case rest =>
      obtain ⟨rfl, w3, rfl, R3, q3⟩ := hcut
      clear R2 q2 x0 x1 x2 x3 c4 c5
      obtain ⟨x0, x1, x2, x3⟩ := hcell q3
      have c5 := R3.cell.2.2.2.2.2.1
      simp only at c5
      go_upto_region 9 with fail
      go_quiet (fail)
      go_upto_region 11 with fail
      have R4 := R3.dn nq
      have q4 := q3.trans (Js.KeptB.of R3 (below_dn (Below.refl _ _) nq))
      generalize w3.drewN nq = Y at R4 q4 ⊢
      clear R3 q3 x0 x1 x2 x3 c5 w3
      have R5 := R4.dn 1
      rw [show Y.drewN 1 = Y.drew from rfl] at R5
      have q5 : Jl.KeptB (fun k => K k ∨ k = w.heap.size) j w0 Y.drew := q4.trans (Js.KeptB.of R4 (below_dn (Below.refl _ _) 1))
      have S5 : Y.drew.cell? ⟨j, 0, none⟩ = some (.pointer (some ⟨r, 0, none⟩)) ∧ Y.drew.cell? ⟨j, 3, none⟩ = some (.int .i64 n) := ⟨R5.cell.1, R5.cell.2.2.2.1⟩
      have kn := k2 R5
      clear R4 q4 k2
      go_region_held3 (fun W' => W'.cell? ⟨j, 0, none⟩ = some (.pointer (some ⟨r, 0, none⟩)) ∧ W'.cell? ⟨j, 3, none⟩ = some (.int .i64 n))
        (first
          | with_reducible assumption)
        (first
          | (go_at_call 29; refine kn.mono ?_; clear kn; rintro e w6 ⟨rfl, b6⟩; have R6 := R5.later b6; have q6 := q5.trans (Js.KeptB.of R5 b6); have S6 : w6.cell? ⟨j, 0, none⟩ = some (.pointer (some ⟨r, 0, none⟩)) ∧ w6.cell? ⟨j, 3, none⟩ = some (.int .i64 n) := ⟨R6.cell.1, R6.cell.2.2.2.1⟩; have ks := k3 R6; clear k3)
          | (go_at_call 40; refine ks.mono ?_; clear ks; rintro e w7 ⟨rfl, R7, q7⟩; have q8 := q6.trans q7; have S7 : w7.cell? ⟨j, 0, none⟩ = some (.pointer (some ⟨r, 0, none⟩)) ∧ w7.cell? ⟨j, 3, none⟩ = some (.int .i64 n) := ⟨R7.cell.1, R7.cell.2.2.2.1⟩))
      all_goals
        obtain ⟨x0, x1, x2, x3⟩ := hcell q8
        by_cases h45 : d = 45
        · subst h45
          have c2 := R7.cell.2.2.1
          have f2 := R7.blk.frozen 2
          go_wp2_with fail
          have hs := HS.out
          rw [if_neg (by decide)] at hs
          obtain ⟨rfl, hs2⟩ := Prod.mk.inj hs
          obtain ⟨rfl, rfl⟩ := Prod.mk.inj hs2
          go_ret
          obtain ⟨R8, q9⟩ := hfin (R7.gone_ true).1 (q8.trans (R7.gone_ true).2)
          exact ⟨rfl, R8, q9⟩
        by_cases h0 : d = 0
        · subst h0
          have c5 := R7.cell.2.2.2.2.2.1
          have f5 := R7.blk.frozen 5
          have R8 := R7.set 5 (.int .i64 (last + 1)) (J' := ⟨jg, false, nb, l, last + 1, sy⟩) rfl
          go_wp2_with fail
          have hs := HS.out
          simp only [if_true] at hs
          obtain ⟨rfl, hs2⟩ := Prod.mk.inj hs
          obtain ⟨rfl, rfl⟩ := Prod.mk.inj hs2
          go_ret
          obtain ⟨R9, q9⟩ := hfin R8.1 (q8.trans R8.2)
          exact ⟨rfl, R9, q9⟩
        · have v1 : (d == 45) = false := beq_eq_false_iff_ne.2 h45
          have v2 : (d == 0) = false := beq_eq_false_iff_ne.2 h0
          go_wp2_with fail
          have hs := HS.out
          rw [if_neg h0] at hs
          simp only [v1] at hs
          obtain ⟨rfl, hs2⟩ := Prod.mk.inj hs
          obtain ⟨rfl, rfl⟩ := Prod.mk.inj hs2
          go_ret
          obtain ⟨R9, q9⟩ := hfin R7 q8
          exact ⟨rfl, R9, q9⟩
    by_cases hk1 : k = 1
    · exact walk true (by rw [hk1]; rfl) fun _ => by rw [bne_eq_false_iff_eq]; exact Decidable.not_not.1 fun h => hck ⟨hk1, h⟩
    · exact walk false (beq_eq_false_iff_ne.2 hk1) fun h => by cases h
end
end Go.Proofs.YtifkhjihgnnpfaaGreatDoor
/- Open of both journals, every answer; calls beside two disks that make something new. Conditions: each theorem's own hypotheses. -/
namespace Go.Proofs.YtifkhjihgnnpfaaGreatDoor
open Go.RowKit
set_option linter.unusedVariables false

/-- What Open does and answers. -/
noncomputable def Js.openR (m : Dk.M) (n sq l : Int) : Dk.M × List Jn.Upd × Int :=
  if (Jl.lookR m n sq l).2.2 ≠ 0 then (m, [], (Jl.lookR m n sq l).2.2)
  else if (Jl.lookR m n sq l).2.1 = (Dk.data m (Jn.name n)).length then (m, (Jl.lookR m n sq l).1, 0)
  else if (Dk.cut m (Jn.name n) (Jl.lookR m n sq l).2.1).2 = 0 then ((Dk.cut m (Jn.name n) (Jl.lookR m n sq l).2.1).1, (Jl.lookR m n sq l).1, 0)
  else ((Dk.cut m (Jn.name n) (Jl.lookR m n sq l).2.1).1, [], (Dk.cut m (Jn.name n) (Jl.lookR m n sq l).2.1).2)
section
variable {B d r : Nat} {W0 w w' : World} {m m' m2 : Dk.M} {K K' : Nat → Prop}
theorem Mt.Two.oneN (h : Mt.Two B W0 w d m r m' K) {g : FuncId} {args : Array Value} {P : Ending → World → (Nat → Prop) → Prop}
    (f : ∀ K0, Jl.Sit B W0 w d m K0 → Calls Tryz.prog g args w fun x W' => ∃ N : Nat → Prop, P x W' N ∧ (∀ k, N k → w.heap.size ≤ k) ∧ Jl.Sit B W0 W' d m2 (fun k => K0 k ∨ N k) ∧ Jl.Kept K0 w W') :
    Calls Tryz.prog g args w fun x W' => ∃ N : Nat → Prop, P x W' N ∧ (∀ k, N k → w.heap.size ≤ k) ∧ Mt.Two B W0 W' d m2 r m' (fun k => K k ∨ N k) ∧ Jl.Kept K w W' := by
  obtain ⟨F, G, h1, h2, h3, h4, h5, h6, h7, h8⟩ := h
  refine (f (fun k => K k ∨ G k) ⟨F, h1, fun k hk => (h3 k hk).1, fun k hk => ?_, h6, h8⟩).mono fun x W' ⟨N, he, hn, hs, hk⟩ => ⟨N, he, hn, ?_, hk.1, fun k hK => hk.2 k (.inl hK)⟩
  · rcases hk with hk | hk
    · exact ⟨(h5 k hk).1, (h5 k hk).2.1, (h5 k hk).2.2.1⟩
    · exact ⟨h4 k hk, h2.lt hk, fun hf => (h3 k hf).2 hk⟩
  · obtain ⟨F', q1, q2, q3, q4, q5⟩ := hs
    refine ⟨F', G, q1, h2.keep fun k hG => hk.2 k (.inr hG), fun k hf => ⟨q2 k hf, fun hg => (q3 k (.inl (.inr hg))).2.2 hf⟩, h4, fun k hK => ?_, q4, h7, q5⟩
    rcases hK with hK | hK
    · exact ⟨(h5 k hK).1, Nat.lt_of_lt_of_le (h5 k hK).2.1 hk.1, (q3 k (.inl (.inl hK))).2.2, (h5 k hK).2.2.2⟩
    · exact ⟨(q3 k (.inr hK)).1, (q3 k (.inr hK)).2.1, (q3 k (.inr hK)).2.2, fun hg => by have := h2.lt hg; have := hn k hK; omega⟩
theorem Mt.Two.twoN (h : Mt.Two B W0 w d m r m' K) {g : FuncId} {args : Array Value} {P : Ending → World → (Nat → Prop) → Prop}
    (f : ∀ K0, Mt.Sit B W0 w r m' K0 → Calls Tryz.prog g args w fun x W' => ∃ N : Nat → Prop, P x W' N ∧ (∀ k, N k → w.heap.size ≤ k) ∧ Mt.Sit B W0 W' r m2 (fun k => K0 k ∨ N k) ∧ Jl.Kept K0 w W') :
    Calls Tryz.prog g args w fun x W' => ∃ N : Nat → Prop, P x W' N ∧ (∀ k, N k → w.heap.size ≤ k) ∧ Mt.Two B W0 W' d m r m2 (fun k => K k ∨ N k) ∧ Jl.Kept K w W' := by
  obtain ⟨F, G, h1, h2, h3, h4, h5, h6, h7, h8⟩ := h
  refine (f (fun k => K k ∨ F k) ⟨G, h2, h4, fun k hk => ?_, h7, h8⟩).mono fun x W' ⟨N, he, hn, hs, hk⟩ => ⟨N, he, hn, ?_, hk.1, fun k hK => hk.2 k (.inl hK)⟩
  · rcases hk with hk | hk
    · exact ⟨(h5 k hk).1, (h5 k hk).2.1, (h5 k hk).2.2.2⟩
    · exact ⟨(h3 k hk).1, h1.lt hk, (h3 k hk).2⟩
  · obtain ⟨G', q1, q2, q3, q4, q5⟩ := hs
    refine ⟨F, G', h1.keep fun k hF => hk.2 k (.inr hF), q1, fun k hf => ⟨(h3 k hf).1, fun hg => (q3 k (.inl (.inr hf))).2.2 hg⟩, q2, fun k hK => ?_, h6, q4, q5⟩
    rcases hK with hK | hK
    · exact ⟨(h5 k hK).1, Nat.lt_of_lt_of_le (h5 k hK).2.1 hk.1, (h5 k hK).2.2.1, (q3 k (.inl (.inl hK))).2.2⟩
    · exact ⟨(q3 k (.inr hK)).1, (q3 k (.inr hK)).2.1, fun hf => by have := h1.lt hf; have := hn k hK; omega, (q3 k (.inr hK)).2.2⟩
end
section
variable {B d r : Nat} {W0 W : World} {m m' : Dk.M} {K : Nat → Prop}
set_option maxRecDepth 100000 in
set_option maxHeartbeats 2000000 in
/-- A bad tail that the disk does not cut off. -/
theorem Js.open_bad (h : Jl.Sit B W0 W d m K) (hT : ∀ {w : World}, Below B W0 w → TabS w) (hP : ∀ {w : World}, Below B W0 w → PowT w) (n sq l : Int) {us : List Jn.Upd} {g : Nat} {c : Int} (hL : Jl.lookR m n sq l = (us, g, 0)) (hg : g ≠ (Dk.data m (Jn.name n)).length)
    (hc : Dk.cut m (Jn.name n) g = (m', c)) (hc0 : c ≠ 0) :
    Calls Tryz.prog 24 #[.pointer (some ⟨d, 0, none⟩), .int .i64 n, .int .i64 sq, .int .i64 l] W fun e W' => e = .returned (.tuple #[.pointer none, .slice none 0 0, .int .i64 c]) ∧ Jl.Sit B W0 W' d m' K ∧ Jl.Kept K W W' := by
  obtain ⟨nb, hnb, _, _⟩ := str_of (Jn.name n)
  have hz0 := h.size
  have k1 := h.ask fun F hA hG => Jl.look_any hA hG n sq l (hT h.below) (hP h.below) hL
  have k2 := fun {w : World} (hB : Below W.heap.size W w) => name_any n w (hP (h.below.trans (hB.mono hz0))) nb hnb
  have hns : nb.data.toList = Jn.name n := (Jl.name_is n nb hnb).1
  have hname : nb.size ≤ 9223372036854775807 := (Jl.name_is n nb hnb).2
  have k3 := fun {w : World} (hB : Below W.heap.size W w) => (h.later hB).ask fun F hA hG => Dk.size_any hA nb hname
  obtain ⟨z1, z2, z3⟩ := Jl.lookR_zero hL
  have hll := Jn.look_len z3
  have hdl := Jl.data_len h.good (Jn.name n)
  have hm' : (Dk.cut m (Jn.name n) g).1 = m' := by rw [hc]
  have hGm : Dk.Good m' := hm' ▸ Dk.cut_good h.good _ _
  have k5 := fun {w : World} {K' : Nat → Prop} (hS : Jl.Sit B W0 w d m K') => hS.call (m' := m') hGm fun F hA hG => (by
    have := Dk.cut_any hA hG nb hname g (by omega)
    rw [hns, hc] at this
    exact this)
  have hgr := fun {w : World} (hB : Below W.heap.size W w) => h.later hB
  have hkp := fun {w : World} (hB : Below W.heap.size W w) => h.kept hB
  unfold Dk.sizeV at k3
  rw [hns, if_pos z2] at k3
  obtain ⟨len, hlen⟩ : ∃ len, (Dk.data m (Jn.name n)).length = len := ⟨_, rfl⟩
  rw [hlen] at k3 hg
  have q1 : ((g : Int) != (len : Int)) = true := by rw [bne_iff_ne]; omega
  have q2 : (c != 0) = true := bne_iff_ne.2 hc0
  clear hL hg hnb hns z1 z2 z3 hll hdl hlen hc hm' hGm hT hP hc0 h
  go_enter Tryz.func24, Tryz.ntmps24
  go_wp2_with (first
    | (go_at_call 35; have S3 := hgr b5; refine (k5 S3).mono ?_; clear k5; rintro e w5 ⟨rfl, S5, K5⟩)
    | (go_at_call 28; refine k1.mono ?_; clear k1; rintro e w1 ⟨⟨v, rfl, r1⟩, b1⟩; obtain ⟨A, cp, rfl⟩ := Jl.slice_form r1)
    | (go_at_call 47; refine (k2 b1).mono ?_; rintro e w2 ⟨rfl, b2⟩; have b3 := b1.trans (b2.mono b1.size); have k22 := k2 b3; clear k2)
    | (go_at_call 51; refine (k3 b3).mono ?_; rintro e w' ⟨rfl, rfl⟩)
    | (go_at_call 47; refine k22.mono ?_; clear k22; rintro e w3 ⟨rfl, b4⟩; have b5 := b3.trans (b4.mono b3.size)))
  refine bodyPost_ret (v := .tuple #[.pointer none, .slice none 0 0, .int .i64 c]) (by simp [results, Tryz.results24, go_sem]) rfl ?_
  exact ⟨rfl, S5, (hkp b5).trans K5⟩
theorem Js.open1_no (h : Mt.Two B W0 W d m r m' K) (hT : ∀ {w : World}, Below B W0 w → TabS w) (hP : ∀ {w : World}, Below B W0 w → PowT w) (n sq l : Int) {m1 : Dk.M} {us : List Jn.Upd} {c : Int} (e : Js.openR m n sq l = (m1, us, c)) (hc : c ≠ 0) :
    us = [] ∧ Calls Tryz.prog 24 #[.pointer (some ⟨d, 0, none⟩), .int .i64 n, .int .i64 sq, .int .i64 l] W fun e W' => e = .returned (.tuple #[.pointer none, .slice none 0 0, .int .i64 c]) ∧ Mt.Two B W0 W' d m1 r m' K ∧ Jl.Kept K W W' := by
  obtain ⟨⟨us0, g, c0⟩, hL⟩ : ∃ z, Jl.lookR m n sq l = z := ⟨_, rfl⟩
  unfold Js.openR at e
  simp only [hL] at e
  by_cases h0 : c0 = 0
  rotate_left
  · rw [if_pos h0] at e
    obtain ⟨rfl, e2⟩ := Prod.mk.inj e
    obtain ⟨rfl, rfl⟩ := Prod.mk.inj e2
    refine ⟨rfl, h.one fun K0 S => ?_⟩
    exact (Jl.open_no S (hT S.below) (hP S.below) n sq l hL h0).mono fun e W' ⟨a, b⟩ => ⟨a, S.later b, S.kept b⟩
  subst h0
  rw [if_neg (by simp)] at e
  by_cases hg : g = (Dk.data m (Jn.name n)).length
  · rw [if_pos hg] at e
    obtain ⟨rfl, e2⟩ := Prod.mk.inj e
    obtain ⟨rfl, rfl⟩ := Prod.mk.inj e2
    exact absurd rfl hc
  rw [if_neg hg] at e
  obtain ⟨⟨mc, cc⟩, hC⟩ : ∃ z, Dk.cut m (Jn.name n) g = z := ⟨_, rfl⟩
  simp only [hC] at e
  by_cases hcc : cc = 0
  · rw [if_pos hcc] at e
    obtain ⟨rfl, e2⟩ := Prod.mk.inj e
    obtain ⟨rfl, rfl⟩ := Prod.mk.inj e2
    exact absurd rfl hc
  rw [if_neg hcc] at e
  obtain ⟨rfl, e2⟩ := Prod.mk.inj e
  obtain ⟨rfl, rfl⟩ := Prod.mk.inj e2
  exact ⟨rfl, h.one fun K0 S => Js.open_bad S hT hP n sq l hL hg hC hcc⟩
theorem Js.open1_ok (h : Mt.Two B W0 W d m r m' K) (hT : ∀ {w : World}, Below B W0 w → TabS w) (hP : ∀ {w : World}, Below B W0 w → PowT w) (n sq l : Int) (nb : ByteArray) (hnb : str (Jn.name n) = .string nb) {m1 : Dk.M} {us : List Jn.Upd} (e : Js.openR m n sq l = (m1, us, 0)) :
    Calls Tryz.prog 24 #[.pointer (some ⟨d, 0, none⟩), .int .i64 n, .int .i64 sq, .int .i64 l] W fun e W' => ∃ N : Nat → Prop, (∃ j v, e = .returned (.tuple #[.pointer (some ⟨j, 0, none⟩), v, .int .i64 0]) ∧ W.heap.size ≤ j ∧ Blk W' j 79 (Jl.jc d m1.age false nb l (sq + us.length) sq) ∧ Jl.Own W' W.heap.size v us ∧ N j ∧ ∀ k, v.ownBlock = some k → N k) ∧ (∀ k, N k → W.heap.size ≤ k) ∧ Mt.Two B W0 W' d m1 r m' (fun k => K k ∨ N k) ∧ Jl.Kept K W W' := by
  obtain ⟨⟨us0, g, c0⟩, hL⟩ : ∃ z, Jl.lookR m n sq l = z := ⟨_, rfl⟩
  unfold Js.openR at e
  simp only [hL] at e
  by_cases h0 : c0 = 0
  rotate_left
  · rw [if_pos h0] at e
    obtain ⟨rfl, e2⟩ := Prod.mk.inj e
    obtain ⟨rfl, rfl⟩ := Prod.mk.inj e2
    exact absurd rfl h0
  subst h0
  rw [if_neg (by simp)] at e
  by_cases hg : g = (Dk.data m (Jn.name n)).length
  · rw [if_pos hg] at e
    obtain ⟨rfl, e2⟩ := Prod.mk.inj e
    obtain ⟨rfl, _⟩ := Prod.mk.inj e2
    refine h.oneN fun K0 S => ?_
    refine (Jl.open_whole S (hT S.below) (hP S.below) n sq l hL hg nb hnb).mono ?_
    rintro e W' ⟨⟨j, v, he, hj, hb, ho⟩, hB⟩
    refine ⟨fun k => k = j ∨ v.ownBlock = some k, ⟨j, v, he, hj, hb, ho, .inl rfl, fun k hk => .inr hk⟩, fun k hk => ?_, (S.grow hB).sub fun k hk => ?_, S.kept hB⟩
    · rcases hk with rfl | hk
      · exact hj
      · exact (ho.lt hk).1
    · rcases hk with hk | rfl | hk
      · exact .inl hk
      · exact .inr ⟨hj, hb.lt⟩
      · exact .inr (ho.lt hk)
  rw [if_neg hg] at e
  obtain ⟨⟨mc, cc⟩, hC⟩ : ∃ z, Dk.cut m (Jn.name n) g = z := ⟨_, rfl⟩
  simp only [hC] at e
  by_cases hcc : cc = 0
  rotate_left
  · rw [if_neg hcc] at e
    obtain ⟨rfl, e2⟩ := Prod.mk.inj e
    obtain ⟨rfl, rfl⟩ := Prod.mk.inj e2
    exact absurd rfl hcc
  rw [if_pos hcc] at e
  subst hcc
  obtain ⟨rfl, e2⟩ := Prod.mk.inj e
  obtain ⟨rfl, _⟩ := Prod.mk.inj e2
  refine h.oneN fun K0 S => ?_
  refine (Jl.open_cut S hT hP n sq l hL hg nb hnb hC).mono ?_
  rintro e W' ⟨j, v, he, ⟨hj, hb, ho⟩, S', hk⟩
  refine ⟨fun k => k = j ∨ v.ownBlock = some k, ⟨j, v, he, hj, hb, ho, .inl rfl, fun k hk => .inr hk⟩, fun k hk => ?_, S', hk⟩
  rcases hk with rfl | hk
  · exact hj
  · exact (ho.lt hk).1

set_option maxRecDepth 100000 in
set_option maxHeartbeats 2000000 in
theorem Js.refOpen_no (h : Mt.Sit B W0 W r m K) (hP : ∀ {w : World}, Below B W0 w → PowT w) (n sq l : Int) {us : List Jn.Upd} {g : Nat} {c : Int} (hL : Jl.lookR m n sq l = (us, g, c)) (hc : c ≠ 0) :
    Calls Tryz.prog 25 #[.pointer (some ⟨r, 0, none⟩), .int .i64 n, .int .i64 sq, .int .i64 l] W fun e W' => e = .returned (.tuple #[.pointer none, .slice none 0 0, .int .i64 c]) ∧ Below W.heap.size W W' := by
  have k1 := h.ask fun F hA hG => Jl.refLook_any hA hG n sq l (hP h.below) hL
  have q1 : (c != 0) = true := bne_iff_ne.2 hc
  clear hL hc hP h
  go_enter Tryz.func25, Tryz.ntmps25
  go_wp2_with (go_at_call 30; refine k1.mono ?_; clear k1; rintro e w1 ⟨⟨v, rfl, r1⟩, b1⟩; obtain ⟨A, cp, rfl⟩ := r1.form)
  refine bodyPost_ret (v := .tuple #[.pointer none, .slice none 0 0, .int .i64 c]) (by simp [results, Tryz.results25, go_sem]) rfl ?_
  exact ⟨rfl, b1⟩
set_option maxRecDepth 100000 in
set_option maxHeartbeats 2000000 in
theorem Js.refOpen_whole (h : Mt.Sit B W0 W r m K) (hP : ∀ {w : World}, Below B W0 w → PowT w) (n sq l : Int) {us : List Jn.Upd} {g : Nat} (hL : Jl.lookR m n sq l = (us, g, 0)) (hg : g = (Dk.data m (Jn.name n)).length) (nb : ByteArray) (hnb : str (Jn.name n) = .string nb) :
    Calls Tryz.prog 25 #[.pointer (some ⟨r, 0, none⟩), .int .i64 n, .int .i64 sq, .int .i64 l] W fun e W' => (∃ j v, e = .returned (.tuple #[.pointer (some ⟨j, 0, none⟩), v, .int .i64 0]) ∧ W.heap.size ≤ j ∧ Blk W' j 81 (Js.rc r ⟨m.age, false, nb, l, sq + us.length, sq⟩ n) ∧ Jl.Own W' W.heap.size v us) ∧ Below W.heap.size W W' := by
  have hz0 := h.size
  have k1 := h.ask fun F hA hG => Jl.refLook_any hA hG n sq l (hP h.below) hL
  have k2 := fun {w : World} (hB : Below W.heap.size W w) => refName_any n w (hP (h.below.trans (hB.mono hz0))) nb hnb
  have hns : nb.data.toList = Jn.name n := (Jl.name_is n nb hnb).1
  have hname : nb.size ≤ 9223372036854775807 := (Jl.name_is n nb hnb).2
  have k3 := fun {w : World} (hB : Below W.heap.size W w) => (h.later hB).ask fun F hA hG => Dr.size_any hA hG.many nb hname
  have k4 := fun {w : World} (hB : Below W.heap.size W w) (ls : Int) => (h.later hB).ask fun F hA hG => Js.begun_any hA n sq l ls nb
  obtain ⟨z1, z2, z3⟩ := Jl.lookR_zero hL
  obtain ⟨_, _, hs⟩ := Jn.goesE_zero z1
  have hll := Jn.look_len z3
  have hdl := Jl.data_len h.good (Jn.name n)
  unfold Dk.sizeV at k3
  rw [hns, if_pos z2, ← hg] at k3
  obtain ⟨ag, hag⟩ : ∃ ag, m.age = ag := ⟨_, rfl⟩
  simp only [hag] at k4 ⊢
  have q1 : decide ((g : Int) < (g : Int)) = false := by simp
  have q2 : decide (g < g) = false := by simp
  have w1 : IntKind.i64.wrap (sq + (us.length : Int)) = sq + (us.length : Int) := IntWalk.i64_in _ (by omega)
  clear hL hg hP h hnb hns z1 z2 z3 hll hdl hs hag
  go_enter Tryz.func25, Tryz.ntmps25
  go_wp2_with (first
    | (go_at_call 30; refine k1.mono ?_; clear k1; rintro e w1 ⟨⟨v, rfl, r1⟩, b1⟩; obtain ⟨A, cp, rfl⟩ := r1.form)
    | (go_at_call 29; refine (k2 b1).mono ?_; clear k2; rintro e w2 ⟨rfl, b2⟩; have b3 := b1.trans (b2.mono b1.size))
    | (go_at_call 52; refine (k3 b3).mono ?_; rintro e w' ⟨rfl, rfl⟩)
    | (go_at_call 50; refine (k4 b3 _).mono ?_; rintro e w4 ⟨j, rfl, hj, bj, b4⟩))
  refine bodyPost_ret (v := .tuple #[.pointer (some ⟨j, 0, none⟩), .slice A us.length cp, .int .i64 0]) (by simp [results, Tryz.results25, go_sem]) rfl ?_
  have b5 := b3.trans (b4.mono b3.size)
  have hz := b3.size
  exact ⟨⟨_, _, rfl, by omega, bj, (Jl.row_grown (Jl.row_grown r1 (Jl.grown_of b2)) (Jl.grown_of b4))⟩, b5⟩
set_option maxRecDepth 100000 in
set_option maxHeartbeats 2000000 in
theorem Js.refOpen_bad (h : Mt.Sit B W0 W r m K) (hP : ∀ {w : World}, Below B W0 w → PowT w) (n sq l : Int) {us : List Jn.Upd} {g : Nat} {c : Int} (hL : Jl.lookR m n sq l = (us, g, 0)) (hg : g ≠ (Dk.data m (Jn.name n)).length)
    (hc : Dk.cut m (Jn.name n) g = (m', c)) (hc0 : c ≠ 0) :
    Calls Tryz.prog 25 #[.pointer (some ⟨r, 0, none⟩), .int .i64 n, .int .i64 sq, .int .i64 l] W fun e W' => e = .returned (.tuple #[.pointer none, .slice none 0 0, .int .i64 c]) ∧ Mt.Sit B W0 W' r m' K ∧ Jl.Kept K W W' := by
  obtain ⟨nb, hnb, _, _⟩ := str_of (Jn.name n)
  have hz0 := h.size
  have k1 := h.ask fun F hA hG => Jl.refLook_any hA hG n sq l (hP h.below) hL
  have k2 := fun {w : World} (hB : Below W.heap.size W w) => refName_any n w (hP (h.below.trans (hB.mono hz0))) nb hnb
  have hns : nb.data.toList = Jn.name n := (Jl.name_is n nb hnb).1
  have hname : nb.size ≤ 9223372036854775807 := (Jl.name_is n nb hnb).2
  have k3 := fun {w : World} (hB : Below W.heap.size W w) => (h.later hB).ask fun F hA hG => Dr.size_any hA hG.many nb hname
  obtain ⟨z1, z2, z3⟩ := Jl.lookR_zero hL
  have hll := Jn.look_len z3
  have hdl := Jl.data_len h.good (Jn.name n)
  have hln := (Jn.look_len z3).2
  have hm' : (Dk.cut m (Jn.name n) g).1 = m' := by rw [hc]
  have hGm : Dk.Good m' := hm' ▸ Dk.cut_good h.good _ _
  have k5 := fun {w : World} {K' : Nat → Prop} (hS : Mt.Sit B W0 w r m K') => hS.call (m' := m') hGm fun F hA hG => (by
    have := Dr.cut_any hA hG nb hname g (by omega)
    rw [hns, hc] at this
    exact this)
  have hgr := fun {w : World} (hB : Below W.heap.size W w) => h.later hB
  have hkp := fun {w : World} (hB : Below W.heap.size W w) => h.kept hB
  unfold Dk.sizeV at k3
  rw [hns, if_pos z2] at k3
  obtain ⟨len, hlen⟩ : ∃ len, (Dk.data m (Jn.name n)).length = len := ⟨_, rfl⟩
  rw [hlen] at k3 hg hln
  have q1 : decide ((g : Int) < (len : Int)) = true := decide_eq_true (by omega)
  have q3 : decide (g < len) = true := decide_eq_true (by omega)
  have q2 : (c != 0) = true := bne_iff_ne.2 hc0
  clear hL hg hnb hns z1 z2 z3 hll hdl hlen hc hm' hGm hP hc0 h hln
  go_enter Tryz.func25, Tryz.ntmps25
  go_wp2_with (first
    | (go_at_call 36; have S3 := hgr b5; refine (k5 S3).mono ?_; clear k5; rintro e w5 ⟨rfl, S5, K5⟩)
    | (go_at_call 30; refine k1.mono ?_; clear k1; rintro e w1 ⟨⟨v, rfl, r1⟩, b1⟩; obtain ⟨A, cp, rfl⟩ := r1.form)
    | (go_at_call 29; refine (k2 b1).mono ?_; rintro e w2 ⟨rfl, b2⟩; have b3 := b1.trans (b2.mono b1.size); have k22 := k2 b3; clear k2)
    | (go_at_call 52; refine (k3 b3).mono ?_; rintro e w' ⟨rfl, rfl⟩)
    | (go_at_call 29; refine k22.mono ?_; clear k22; rintro e w3 ⟨rfl, b4⟩; have b5 := b3.trans (b4.mono b3.size)))
  refine bodyPost_ret (v := .tuple #[.pointer none, .slice none 0 0, .int .i64 c]) (by simp [results, Tryz.results25, go_sem]) rfl ?_
  exact ⟨rfl, S5, (hkp b5).trans K5⟩
set_option maxRecDepth 100000 in
set_option maxHeartbeats 2000000 in
theorem Js.refOpen_cut (h : Mt.Sit B W0 W r m K) (hP : ∀ {w : World}, Below B W0 w → PowT w) (n sq l : Int) {us : List Jn.Upd} {g : Nat} (hL : Jl.lookR m n sq l = (us, g, 0)) (hg : g ≠ (Dk.data m (Jn.name n)).length) (nb : ByteArray) (hnb : str (Jn.name n) = .string nb)
    (hc : Dk.cut m (Jn.name n) g = (m', 0)) :
    Calls Tryz.prog 25 #[.pointer (some ⟨r, 0, none⟩), .int .i64 n, .int .i64 sq, .int .i64 l] W fun e W' => ∃ j v, e = .returned (.tuple #[.pointer (some ⟨j, 0, none⟩), v, .int .i64 0]) ∧ (W.heap.size ≤ j ∧ Blk W' j 81 (Js.rc r ⟨m'.age, false, nb, l, sq + us.length, sq⟩ n) ∧ Jl.Own W' W.heap.size v us) ∧ Mt.Sit B W0 W' r m' (fun k => K k ∨ k = j ∨ v.ownBlock = some k) ∧ Jl.Kept K W W' := by
  have hz0 := h.size
  have k1 := h.ask fun F hA hG => Jl.refLook_any hA hG n sq l (hP h.below) hL
  have k2 := fun {w : World} (hB : Below W.heap.size W w) => refName_any n w (hP (h.below.trans (hB.mono hz0))) nb hnb
  have hns : nb.data.toList = Jn.name n := (Jl.name_is n nb hnb).1
  have hname : nb.size ≤ 9223372036854775807 := (Jl.name_is n nb hnb).2
  have k3 := fun {w : World} (hB : Below W.heap.size W w) => (h.later hB).ask fun F hA hG => Dr.size_any hA hG.many nb hname
  obtain ⟨z1, z2, z3⟩ := Jl.lookR_zero hL
  obtain ⟨_, _, hs⟩ := Jn.goesE_zero z1
  have hll := Jn.look_len z3
  have hdl := Jl.data_len h.good (Jn.name n)
  have hln := (Jn.look_len z3).2
  have hm' : (Dk.cut m (Jn.name n) g).1 = m' := by rw [hc]
  have hGm : Dk.Good m' := hm' ▸ Dk.cut_good h.good _ _
  have k5 := fun {w : World} {K' : Nat → Prop} (hS : Mt.Sit B W0 w r m K') => hS.call (m' := m') hGm fun F hA hG => (by
    have := Dr.cut_any hA hG nb hname g (by omega)
    rw [hns, hc] at this
    exact this)
  have k4 := fun {w : World} {K' : Nat → Prop} (hS : Mt.Sit B W0 w r m' K') (ls : Int) => hS.ask fun F hA hG => Js.begun_any hA n sq l ls nb
  have hgr := fun {w : World} (hB : Below W.heap.size W w) => h.grow hB
  unfold Dk.sizeV at k3
  rw [hns, if_pos z2] at k3
  obtain ⟨ag, hag⟩ : ∃ ag, m'.age = ag := ⟨_, rfl⟩
  obtain ⟨len, hlen⟩ : ∃ len, (Dk.data m (Jn.name n)).length = len := ⟨_, rfl⟩
  rw [hlen] at k3 hg hln
  simp only [hag] at k4 ⊢
  have q1 : decide ((g : Int) < (len : Int)) = true := decide_eq_true (by omega)
  have q3 : decide (g < len) = true := decide_eq_true (by omega)
  have w1 : IntKind.i64.wrap (sq + (us.length : Int)) = sq + (us.length : Int) := IntWalk.i64_in _ (by omega)
  clear hL hg hnb hns z1 z2 z3 hll hdl hs hag hlen hc hm' hGm hP hln
  go_enter Tryz.func25, Tryz.ntmps25
  go_wp2_with (first
    | (go_at_call 36; have S3 := hgr b5; refine (k5 S3).mono ?_; clear k5; rintro e w5 ⟨rfl, S5, K5⟩)
    | (go_at_call 30; refine k1.mono ?_; clear k1; rintro e w1 ⟨⟨v, rfl, r1⟩, b1⟩; obtain ⟨A, cp, rfl⟩ := r1.form)
    | (go_at_call 29; refine (k2 b1).mono ?_; rintro e w2 ⟨rfl, b2⟩; have b3 := b1.trans (b2.mono b1.size); have k22 := k2 b3; clear k2)
    | (go_at_call 52; refine (k3 b3).mono ?_; rintro e w' ⟨rfl, rfl⟩)
    | (go_at_call 29; refine k22.mono ?_; clear k22; rintro e w3 ⟨rfl, b4⟩; have b5 := b3.trans (b4.mono b3.size))
    | (go_at_call 50; refine (k4 S5 _).mono ?_; rintro e w4 ⟨j, rfl, hj, bj, b6⟩))
  refine bodyPost_ret (v := .tuple #[.pointer (some ⟨j, 0, none⟩), .slice A us.length cp, .int .i64 0]) (by simp [results, Tryz.results25, go_sem]) rfl ?_
  have r3 : Jl.Own w3 W.heap.size (.slice A us.length cp) us := Jl.row_grown (Jl.row_grown r1 (Jl.grown_of b2)) (Jl.grown_of b4)
  have hz3 := b5.size
  have hrb : ∀ k, (Value.slice A us.length cp).ownBlock = some k → K k ∨ (W.heap.size ≤ k ∧ k < w3.heap.size) := fun k e => .inr (r3.lt e)
  have r5 := r3.kept K5 hrb
  have r6 : Jl.Own w4 W.heap.size (.slice A us.length cp) us := Jl.row_grown r5 (Jl.grown_of b6)
  have hz5 := K5.1
  refine ⟨j, _, rfl, ⟨by omega, bj, r6⟩, ?_, by have := b6.size; omega, fun k hk => ?_⟩
  · refine (S5.grow b6).sub fun k hk => ?_
    rcases hk with hk | rfl | hk
    · exact .inl (.inl hk)
    · exact .inr ⟨hj, bj.lt⟩
    · exact .inl (hrb k hk)
  · exact ((b6.block k (S5.lt (.inl hk)).2).trans (K5.2 k (.inl hk))).trans (b5.block k (h.lt hk).2)
theorem Js.open2_no (h : Mt.Two B W0 W d m' r m K) (hP : ∀ {w : World}, Below B W0 w → PowT w) (n sq l : Int) {m1 : Dk.M} {us : List Jn.Upd} {c : Int} (e : Js.openR m n sq l = (m1, us, c)) (hc : c ≠ 0) :
    us = [] ∧ Calls Tryz.prog 25 #[.pointer (some ⟨r, 0, none⟩), .int .i64 n, .int .i64 sq, .int .i64 l] W fun e W' => e = .returned (.tuple #[.pointer none, .slice none 0 0, .int .i64 c]) ∧ Mt.Two B W0 W' d m' r m1 K ∧ Jl.Kept K W W' := by
  obtain ⟨⟨us0, g, c0⟩, hL⟩ : ∃ z, Jl.lookR m n sq l = z := ⟨_, rfl⟩
  unfold Js.openR at e
  simp only [hL] at e
  by_cases h0 : c0 = 0
  rotate_left
  · rw [if_pos h0] at e
    obtain ⟨rfl, e2⟩ := Prod.mk.inj e
    obtain ⟨rfl, rfl⟩ := Prod.mk.inj e2
    refine ⟨rfl, h.two fun K0 S => ?_⟩
    exact (Js.refOpen_no S hP n sq l hL h0).mono fun e W' ⟨a, b⟩ => ⟨a, S.later b, S.kept b⟩
  subst h0
  rw [if_neg (by simp)] at e
  by_cases hg : g = (Dk.data m (Jn.name n)).length
  · rw [if_pos hg] at e
    obtain ⟨rfl, e2⟩ := Prod.mk.inj e
    obtain ⟨rfl, rfl⟩ := Prod.mk.inj e2
    exact absurd rfl hc
  rw [if_neg hg] at e
  obtain ⟨⟨mc, cc⟩, hC⟩ : ∃ z, Dk.cut m (Jn.name n) g = z := ⟨_, rfl⟩
  simp only [hC] at e
  by_cases hcc : cc = 0
  · rw [if_pos hcc] at e
    obtain ⟨rfl, e2⟩ := Prod.mk.inj e
    obtain ⟨rfl, rfl⟩ := Prod.mk.inj e2
    exact absurd rfl hc
  rw [if_neg hcc] at e
  obtain ⟨rfl, e2⟩ := Prod.mk.inj e
  obtain ⟨rfl, rfl⟩ := Prod.mk.inj e2
  exact ⟨rfl, h.two fun K0 S => Js.refOpen_bad S hP n sq l hL hg hC hcc⟩
theorem Js.open2_ok (h : Mt.Two B W0 W d m' r m K) (hP : ∀ {w : World}, Below B W0 w → PowT w) (n sq l : Int) (nb : ByteArray) (hnb : str (Jn.name n) = .string nb) {m1 : Dk.M} {us : List Jn.Upd} (e : Js.openR m n sq l = (m1, us, 0)) :
    Calls Tryz.prog 25 #[.pointer (some ⟨r, 0, none⟩), .int .i64 n, .int .i64 sq, .int .i64 l] W fun e W' => ∃ N : Nat → Prop, (∃ j v, e = .returned (.tuple #[.pointer (some ⟨j, 0, none⟩), v, .int .i64 0]) ∧ W.heap.size ≤ j ∧ Blk W' j 81 (Js.rc r ⟨m1.age, false, nb, l, sq + us.length, sq⟩ n) ∧ Jl.Own W' W.heap.size v us ∧ N j ∧ ∀ k, v.ownBlock = some k → N k) ∧ (∀ k, N k → W.heap.size ≤ k) ∧ Mt.Two B W0 W' d m' r m1 (fun k => K k ∨ N k) ∧ Jl.Kept K W W' := by
  obtain ⟨⟨us0, g, c0⟩, hL⟩ : ∃ z, Jl.lookR m n sq l = z := ⟨_, rfl⟩
  unfold Js.openR at e
  simp only [hL] at e
  by_cases h0 : c0 = 0
  rotate_left
  · rw [if_pos h0] at e
    obtain ⟨rfl, e2⟩ := Prod.mk.inj e
    obtain ⟨rfl, rfl⟩ := Prod.mk.inj e2
    exact absurd rfl h0
  subst h0
  rw [if_neg (by simp)] at e
  by_cases hg : g = (Dk.data m (Jn.name n)).length
  · rw [if_pos hg] at e
    obtain ⟨rfl, e2⟩ := Prod.mk.inj e
    obtain ⟨rfl, _⟩ := Prod.mk.inj e2
    refine h.twoN fun K0 S => ?_
    refine (Js.refOpen_whole S hP n sq l hL hg nb hnb).mono ?_
    rintro e W' ⟨⟨j, v, he, hj, hb, ho⟩, hB⟩
    refine ⟨fun k => k = j ∨ v.ownBlock = some k, ⟨j, v, he, hj, hb, ho, .inl rfl, fun k hk => .inr hk⟩, fun k hk => ?_, (S.grow hB).sub fun k hk => ?_, S.kept hB⟩
    · rcases hk with rfl | hk
      · exact hj
      · exact (ho.lt hk).1
    · rcases hk with hk | rfl | hk
      · exact .inl hk
      · exact .inr ⟨hj, hb.lt⟩
      · exact .inr (ho.lt hk)
  rw [if_neg hg] at e
  obtain ⟨⟨mc, cc⟩, hC⟩ : ∃ z, Dk.cut m (Jn.name n) g = z := ⟨_, rfl⟩
  simp only [hC] at e
  by_cases hcc : cc = 0
  rotate_left
  · rw [if_neg hcc] at e
    obtain ⟨rfl, e2⟩ := Prod.mk.inj e
    obtain ⟨rfl, rfl⟩ := Prod.mk.inj e2
    exact absurd rfl hcc
  rw [if_pos hcc] at e
  subst hcc
  obtain ⟨rfl, e2⟩ := Prod.mk.inj e
  obtain ⟨rfl, _⟩ := Prod.mk.inj e2
  refine h.twoN fun K0 S => ?_
  refine (Js.refOpen_cut S hP n sq l hL hg nb hnb hC).mono ?_
  rintro e W' ⟨j, v, he, ⟨hj, hb, ho⟩, S', hk⟩
  refine ⟨fun k => k = j ∨ v.ownBlock = some k, ⟨j, v, he, hj, hb, ho, .inl rfl, fun k hk => .inr hk⟩, fun k hk => ?_, S', hk⟩
  rcases hk with rfl | hk
  · exact hj
  · exact (ho.lt hk).1
end
end Go.Proofs.YtifkhjihgnnpfaaGreatDoor
