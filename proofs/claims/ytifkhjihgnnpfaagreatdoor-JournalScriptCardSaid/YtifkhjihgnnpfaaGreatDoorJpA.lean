/- A journal in memory: gate, Last, Synced, Create. Conditions: each theorem's own hypotheses. -/
import Derived.Test.YtifkhjihgnnpfaaGreatDoorJlE
import Derived.Test.YtifkhjihgnnpfaaGreatDoorJnW
import Derived.Test.YtifkhjihgnnpfaaGreatDoorZDkW
import Derived.StillTailTactics
import Derived.Test.YtifkhjihgnnpfaaGreatDoorJlH
import Derived.Deep.QuietTactic
import Derived.BigQuiet
namespace Go.Proofs.YtifkhjihgnnpfaaGreatDoor
open Go.RowKit
set_option linter.unusedVariables false

/-- Blocks beside the disk are as they were, but for one. -/
def Jl.KeptB (K : Nat → Prop) (j : Nat) (w w' : World) : Prop := w.heap.size ≤ w'.heap.size ∧ ∀ k, K k → k ≠ j → w'.heap[k]? = w.heap[k]?
theorem Jl.KeptB.refl (K : Nat → Prop) (j : Nat) (w : World) : Jl.KeptB K j w w := ⟨Nat.le_refl _, fun _ _ _ => rfl⟩
theorem Jl.KeptB.trans {K : Nat → Prop} {j : Nat} {a b c : World} (h : Jl.KeptB K j a b) (h' : Jl.KeptB K j b c) : Jl.KeptB K j a c := ⟨Nat.le_trans h.1 h'.1, fun k hk hn => (h'.2 k hk hn).trans (h.2 k hk hn)⟩
theorem Jl.Kept.b {K : Nat → Prop} {w w' : World} (h : Jl.Kept K w w') (j : Nat) : Jl.KeptB K j w w' := ⟨h.1, fun k hk _ => h.2 k hk⟩
section
variable {B d j : Nat} {W0 w w' : World} {m : Dk.M} {K : Nat → Prop}
theorem Jl.Sit.dn (h : Jl.Sit B W0 w d m K) (n : Nat) : Jl.Sit B W0 (w.drewN n) d m K := h.later (below_dn (Below.refl _ _) n)
theorem Jl.Sit.setB (h : Jl.Sit B W0 w d m K) (hj : K j) (i : Nat) (v : Value) : Jl.Sit B W0 (w.setCell ⟨j, i, none⟩ v) d m K ∧ Jl.KeptB K j w (w.setCell ⟨j, i, none⟩ v) := by
  refine ⟨(h.only (G := fun k => k = j) (Dk.Only.setCell (F := fun k => k = j) (Dk.Only.refl _ w) (p := ⟨j, i, none⟩) (.inl rfl) v) fun k hk => hk ▸ hj).sub fun k hk => .inl hk, by simp [World.setCell], fun k hk hn => Below.heap_setCell w ⟨j, i, none⟩ v k hn⟩
theorem Jl.Blk.dn {t : TypeId} {cs : Array Value} (h : Blk w j t cs) (n : Nat) : Blk (w.drewN n) j t cs := h
end
/-- What a journal holds, its block. -/
structure Jl.Js where
  age : Int
  gone : Bool
  nb : ByteArray
  l : Int
  last : Int
  synced : Int
def Jl.Js.cells (J : Jl.Js) (d : Nat) : Array Value := Jl.jc d J.age J.gone J.nb J.l J.last J.synced
/-- A journal at j over a disk at d; other blocks beside. -/
structure Jl.St (B : Nat) (W0 w : World) (d : Nat) (m : Dk.M) (j : Nat) (J : Jl.Js) (K : Nat → Prop) : Prop where
  sit : Jl.Sit B W0 w d m K
  blk : Blk w j 79 (J.cells d)
  own : K j
section
variable {B d j : Nat} {W0 w w' : World} {m : Dk.M} {J : Jl.Js} {K : Nat → Prop}
theorem Jl.St.dn (h : Jl.St B W0 w d m j J K) (n : Nat) : Jl.St B W0 (w.drewN n) d m j J K := ⟨h.sit.dn n, h.blk, h.own⟩
theorem Jl.St.later (h : Jl.St B W0 w d m j J K) (hB : Below w.heap.size w w') : Jl.St B W0 w' d m j J K := ⟨h.sit.later hB, (hB.block _ h.blk.lt).trans h.blk, h.own⟩
theorem Jl.St.cell (h : Jl.St B W0 w d m j J K) : w.cell? ⟨j, 0, none⟩ = some (.pointer (some ⟨d, 0, none⟩)) ∧ w.cell? ⟨j, 1, none⟩ = some (.int .i64 J.age) ∧ w.cell? ⟨j, 2, none⟩ = some (.bool J.gone) ∧ w.cell? ⟨j, 3, none⟩ = some (.string J.nb) ∧ w.cell? ⟨j, 4, none⟩ = some (.int .i64 J.l) ∧ w.cell? ⟨j, 5, none⟩ = some (.int .i64 J.last) ∧ w.cell? ⟨j, 6, none⟩ = some (.int .i64 J.synced) :=
  ⟨h.blk.cell 0, h.blk.cell 1, h.blk.cell 2, h.blk.cell 3, h.blk.cell 4, h.blk.cell 5, h.blk.cell 6⟩
theorem Jl.St.down (h : Jl.St B W0 w d m j J K) (n : Nat) : Calls Tryz.prog 17 #[.pointer (some ⟨d, 0, none⟩)] (w.drewN n) fun e w' => e = .returned (.bool m.off) ∧ w' = w.drewN n :=
  (h.dn n).sit.ask fun F hA hG => (Dk.down_any hA).mono fun e w' ⟨a, b⟩ => ⟨a, b.symm⟩
theorem Jl.St.ages (h : Jl.St B W0 w d m j J K) (n : Nat) : Calls Tryz.prog 81 #[.pointer (some ⟨d, 0, none⟩)] (w.drewN n) fun e w' => e = .returned (.int .i64 m.age) ∧ w' = w.drewN n :=
  (h.dn n).sit.ask fun F hA hG => (Dk.age_any hA).mono fun e w' ⟨a, b⟩ => ⟨a, b.symm⟩
theorem Jl.St.gone_ (h : Jl.St B W0 w d m j J K) (b : Bool) : Jl.St B W0 (w.setCell ⟨j, 2, none⟩ (.bool b)) d m j { J with gone := b } K ∧ Jl.KeptB K j w (w.setCell ⟨j, 2, none⟩ (.bool b)) :=
  ⟨⟨(h.sit.setB h.own 2 _).1, h.blk.set_ 2 (.bool b), h.own⟩, (h.sit.setB h.own 2 _).2⟩
set_option maxRecDepth 100000 in
set_option maxHeartbeats 2000000 in
/-- A journal that is given up, or whose disk is down or has been cut since. -/
theorem Jl.gate_down (h : Jl.St B W0 w d m j J K) (hd : J.gone = true ∨ m.off = true ∨ m.age ≠ J.age) (f : Value) :
    Calls Tryz.prog 70 #[.pointer (some ⟨j, 0, none⟩), f] w fun e w' => e = .returned (.int .i64 45) ∧ Jl.St B W0 w' d m j { J with gone := true } K ∧ Jl.KeptB K j w w' := by
  obtain ⟨c0, c1, c2, c3, c4, c5, c6⟩ := h.cell
  have kd := h.down
  have ka := h.ages
  have ff := h.blk.frozen 2
  have fin := fun n => (h.dn n).gone_ true
  obtain ⟨ag, hag⟩ : ∃ x, m.age = x := ⟨_, rfl⟩
  obtain ⟨jg, hjg⟩ : ∃ x, J.age = x := ⟨_, rfl⟩
  rw [hag] at hd ka
  rw [hjg] at hd c1
  clear c3 c4 c5 c6 hag hjg
  cases hg : J.gone with
  | true =>
    rw [hg] at c2
    clear hd hg
    go_enter Tryz.func70, Tryz.ntmps70
    go_upto_region 1 with fail
    go_quiet (fail)
    go_wp2_with fail
    go_ret
    exact ⟨rfl, fin _⟩
  | false =>
    rw [hg] at c2 hd
    cases ho : m.off with
    | true =>
      rw [ho] at kd
      clear hd hg ho
      go_enter Tryz.func70, Tryz.ntmps70
      go_upto_region 1 with fail
      go_quiet ((go_at_call 17; exact Calls.quiet_of_same (kd _)))
      go_wp2_with fail
      go_ret
      exact ⟨rfl, fin _⟩
    | false =>
      rw [ho] at kd hd
      have q1 : (ag != jg) = true := by
        rw [bne_iff_ne]
        rcases hd with h | h | h
        · cases h
        · cases h
        · exact h
      clear hd hg ho
      go_enter Tryz.func70, Tryz.ntmps70
      go_upto_region 1 with fail
      go_quiet (first | (go_at_call 17; exact Calls.quiet_of_same (kd _)) | (go_at_call 81; exact Calls.quiet_of_same (ka _)))
      go_wp2_with fail
      go_ret
      exact ⟨rfl, fin _⟩
set_option maxRecDepth 100000 in
set_option maxHeartbeats 2000000 in
/-- .. and one that is not: what the closure does is done. -/
theorem Jl.gate_do {m' : Dk.M} {J' : Jl.Js} {c : Int} {g : FuncId} {cs : Array Value} (h : Jl.St B W0 w d m j J K) (hg : J.gone = false) (ho : m.off = false) (ha : m.age = J.age)
    (hdo : ∀ n, Calls Tryz.prog g cs (w.drewN n) fun e X' => e = .returned (.int .i64 c) ∧ Jl.St B W0 X' d m' j J' K ∧ Jl.KeptB K j w X') (hin : ∀ args w, (callFunc g args).run Tryz.prog w = .ok (.enter g args) w) :
    Calls Tryz.prog 70 #[.pointer (some ⟨j, 0, none⟩), .func (.func g) #[] cs] w fun e w' => e = .returned (.int .i64 c) ∧ Jl.St B W0 w' d m' j { J' with gone := c == 45 } K ∧ Jl.KeptB K j w w' := by
  obtain ⟨c0, c1, c2, c3, c4, c5, c6⟩ := h.cell
  have kd := h.down
  have ka := h.ages
  obtain ⟨jg, hjg⟩ : ∃ x, J.age = x := ⟨_, rfl⟩
  rw [ha] at ka
  rw [hjg] at ka c1
  rw [ho] at kd
  rw [hg] at c2
  have q1 : (jg != jg) = false := by rw [bne_eq_false_iff_eq]
  clear c3 c4 c5 c6 hjg ha ho hg h
  go_enter Tryz.func70, Tryz.ntmps70
  go_upto_region 1 with fail
  go_quiet (first | (go_at_call 17; exact Calls.quiet_of_same (kd _)) | (go_at_call 81; exact Calls.quiet_of_same (ka _)))
  go_wp2_with (refine (hdo _).mono ?_; rintro e X' ⟨rfl, S', K'⟩; have c2' := S'.cell.2.2.1; have ff' := S'.blk.frozen 2)
  go_ret
  obtain ⟨a, b⟩ := S'.gone_ (c == 45)
  exact ⟨rfl, a, K'.trans b⟩
set_option maxRecDepth 100000 in
theorem Jl.last_any (h : Jl.St B W0 w d m j J K) : Calls Tryz.prog 9 #[.pointer (some ⟨j, 0, none⟩)] w fun e w' => e = .returned (.int .i64 J.last) ∧ w = w' := by
  obtain ⟨c0, c1, c2, c3, c4, c5, c6⟩ := h.cell
  go_enter Tryz.func9, Tryz.ntmps9
  go_wp2_with fail
  go_ret
  exact ⟨rfl, rfl⟩
set_option maxRecDepth 100000 in
theorem Jl.synced_any (h : Jl.St B W0 w d m j J K) : Calls Tryz.prog 11 #[.pointer (some ⟨j, 0, none⟩)] w fun e w' => e = .returned (.int .i64 J.synced) ∧ w = w' := by
  obtain ⟨c0, c1, c2, c3, c4, c5, c6⟩ := h.cell
  go_enter Tryz.func11, Tryz.ntmps11
  go_wp2_with fail
  go_ret
  exact ⟨rfl, rfl⟩
end
end Go.Proofs.YtifkhjihgnnpfaaGreatDoor
/- A journal's Sync and Append. Conditions: each theorem's own hypotheses. -/
namespace Go.Proofs.YtifkhjihgnnpfaaGreatDoor
open Go.RowKit
set_option linter.unusedVariables false

section
variable {B d j : Nat} {W0 w w' : World} {m : Dk.M} {J : Jl.Js} {K : Nat → Prop}
theorem Jl.KeptB.of {K : Nat → Prop} {j : Nat} {w w' : World} (h : Jl.Sit B W0 w d m K) (hB : Below w.heap.size w w') : Jl.KeptB K j w w' := (h.kept hB).b j
theorem Jl.St.set (h : Jl.St B W0 w d m j J K) (i : Nat) (v : Value) {J' : Jl.Js} (hc : (J.cells d).setIfInBounds i v = J'.cells d) : Jl.St B W0 (w.setCell ⟨j, i, none⟩ v) d m j J' K ∧ Jl.KeptB K j w (w.setCell ⟨j, i, none⟩ v) :=
  ⟨⟨(h.sit.setB h.own i _).1, hc ▸ h.blk.set_ i v, h.own⟩, (h.sit.setB h.own i _).2⟩
theorem Jl.St.call {m' : Dk.M} (h : Jl.St B W0 w d m j J K) {g : FuncId} {args : Array Value} {r : Ending} (hG : Dk.Good m')
    (f : ∀ F, Dk.At w d m F → Dk.Good m → Calls Tryz.prog g args w fun e W' => e = r ∧ Dk.Moved w W' d F m') : Calls Tryz.prog g args w fun e W' => e = r ∧ Jl.St B W0 W' d m' j J K ∧ Jl.KeptB K j w W' :=
  (h.sit.call hG f).mono fun e W' ⟨a, b, c⟩ => ⟨a, ⟨b, (c.2 j h.own).trans h.blk, h.own⟩, c.b j⟩
/-- What Sync's closure does. -/
def Jl.syncD (m : Dk.M) (J : Jl.Js) : Dk.M × Jl.Js × Int :=
  if (Dk.sync m J.nb.data.toList).2 = 0 then ((Dk.sync m J.nb.data.toList).1, { J with synced := J.last }, 0) else ((Dk.sync m J.nb.data.toList).1, J, (Dk.sync m J.nb.data.toList).2)
/-- What Sync does and answers. -/
def Jl.sync (m : Dk.M) (J : Jl.Js) : Dk.M × Jl.Js × Int :=
  if J.gone = true ∨ m.off = true ∨ m.age ≠ J.age then (m, { J with gone := true }, 45)
  else ((Jl.syncD m J).1, { (Jl.syncD m J).2.1 with gone := (Jl.syncD m J).2.2 == 45 }, (Jl.syncD m J).2.2)
set_option maxRecDepth 100000 in
set_option maxHeartbeats 2000000 in
theorem Jl.sync1_any {bj : Nat} (h : Jl.St B W0 w d m j J K) (hs : J.nb.size ≤ 9223372036854775807) (hb : w.cell? ⟨bj, 0, none⟩ = some (.pointer (some ⟨j, 0, none⟩))) (hbk : K bj ∧ bj ≠ j) :
    Calls Tryz.prog 76 #[.pointer (some ⟨bj, 0, none⟩)] w fun e w' => e = .returned (.int .i64 (Jl.syncD m J).2.2) ∧ Jl.St B W0 w' d (Jl.syncD m J).1 j (Jl.syncD m J).2.1 K ∧ Jl.KeptB K j w w' := by
  obtain ⟨c0, c1, c2, c3, c4, c5, c6⟩ := h.cell
  have hcal := fun n => (h.dn n).call (Dk.sync_good h.sit.good J.nb.data.toList) fun F hA hG => Dk.sync_any hA hG J.nb hs
  have hcell : ∀ {x : World}, Jl.KeptB K j w x → x.cell? ⟨bj, 0, none⟩ = some (.pointer (some ⟨j, 0, none⟩)) := fun hx => (World.cell?_of_block (hx.2 bj hbk.1 hbk.2)).trans hb
  unfold Jl.syncD
  obtain ⟨Z, hZ⟩ : ∃ Z, Dk.sync m J.nb.data.toList = Z := ⟨_, rfl⟩
  obtain ⟨m', c⟩ := Z
  rw [hZ] at hcal
  simp only [hZ]
  simp only at hcal
  clear hZ hs
  by_cases h0 : c = 0
  · subst h0
    rw [if_pos rfl]
    go_enter Tryz.func76, Tryz.ntmps76
    go_upto_region 1 with fail
    go_still_tail 8, (by kernel_rfl)
    go_upto_region 4 with (go_at_call 77; refine (hcal 1).mono ?_; clear hcal; rintro e x ⟨rfl, S', K'⟩; have e0 := hcell K'; clear hcell c0 c1 c2 c3 c4 c5 c6; obtain ⟨c0, c1, c2, c3, c4, c5, c6⟩ := S'.cell; have ff := S'.blk.frozen 6)
    go_still_tail 7, (by kernel_rfl)
    go_wp2_with fail
    go_ret
    obtain ⟨a, b⟩ := (S'.dn 1).set 6 (.int .i64 J.last) (J' := { J with synced := J.last }) rfl
    exact ⟨rfl, a, K'.trans b⟩
  · rw [if_neg h0]
    have q1 : (c != 0) = true := bne_iff_ne.2 h0
    clear hcell
    go_enter Tryz.func76, Tryz.ntmps76
    go_upto_region 1 with fail
    go_still_tail 8, (by kernel_rfl)
    go_wp2_with (go_at_call 77; refine (hcal 1).mono ?_; clear hcal; rintro e x ⟨rfl, S', K'⟩)
    go_ret
    exact ⟨rfl, S', K'⟩
set_option maxRecDepth 100000 in
set_option maxHeartbeats 2000000 in
/-- Sync. -/
theorem Jl.sync_any (h : Jl.St B W0 w d m j J K) (hs : J.nb.size ≤ 9223372036854775807) :
    Calls Tryz.prog 43 #[.pointer (some ⟨j, 0, none⟩)] w fun e w' => e = .returned (.int .i64 (Jl.sync m J).2.2) ∧ Jl.St B W0 w' d (Jl.sync m J).1 j (Jl.sync m J).2.1 K ∧ Jl.KeptB K j w w' := by
  have hA : Below w.heap.size w (w.alloc (.cells #[.pointer (some ⟨j, 0, none⟩)] 28)) := (Below.refl _ _).alloc (Nat.le_refl _) _
  have h1 : Jl.St B W0 (w.alloc (.cells #[.pointer (some ⟨j, 0, none⟩)] 28)) d m j J (fun k => K k ∨ k = w.heap.size) := ⟨(h.sit.grow hA).sub fun k hk => hk.elim .inl fun e => .inr ⟨by omega, by simp; omega⟩, (h.later hA).blk, .inl h.own⟩
  have hk : Jl.KeptB K j w (w.alloc (.cells #[.pointer (some ⟨j, 0, none⟩)] 28)) := .of h.sit hA
  have hb := Blk.new w 28 #[.pointer (some ⟨j, 0, none⟩)]
  have hjw : w.heap.size ≠ j := fun e => by have := h.blk.lt; omega
  have fin : ∀ {X : World} {m' : Dk.M} {J' : Jl.Js}, Jl.St B W0 X d m' j J' (fun k => K k ∨ k = w.heap.size) → Jl.KeptB (fun k => K k ∨ k = w.heap.size) j (w.alloc (.cells #[.pointer (some ⟨j, 0, none⟩)] 28)) X → Jl.St B W0 X d m' j J' K ∧ Jl.KeptB K j w X := fun a b =>
    ⟨⟨a.sit.sub fun k hk => .inl hk, a.blk, h.own⟩, hk.trans ⟨b.1, fun k h1 h2 => b.2 k (.inl h1) h2⟩⟩
  have e0 : (w.alloc (.cells #[.pointer (some ⟨j, 0, none⟩)] 28)).cell? ⟨w.heap.size, 0, none⟩ = some (.pointer (some ⟨j, 0, none⟩)) := hb.cell 0
  unfold Jl.sync
  by_cases hd : J.gone = true ∨ m.off = true ∨ m.age ≠ J.age
  · have kg := fun f => Jl.gate_down h1 hd f
    rw [if_pos hd]
    clear hd hb e0
    go_enter Tryz.func43, Tryz.ntmps43
    go_wp2_with (go_at_call 70; refine (kg _).mono ?_; clear kg; rintro e x ⟨rfl, a, b⟩)
    go_ret
    exact ⟨rfl, fin a b⟩
  · have kg := Jl.gate_do (g := 76) (cs := #[.pointer (some ⟨w.heap.size, 0, none⟩)]) h1 (by cases hg : J.gone with | false => rfl | true => exact absurd (.inl hg) hd) (by cases hg : m.off with | false => rfl | true => exact absurd (.inr (.inl hg)) hd) (by by_cases hg : m.age = J.age; exact hg; exact absurd (.inr (.inr hg)) hd)
      (fun n => (Jl.sync1_any (bj := w.heap.size) (h1.dn n) hs e0 ⟨.inr rfl, hjw⟩).mono fun e X ⟨a, b, c⟩ => ⟨a, b, c⟩) (fun args w => Dk.run_enter Tryz.func76 (by kernel_rfl) rfl args w)
    rw [if_neg hd]
    obtain ⟨Z, hZ⟩ : ∃ Z, Jl.syncD m J = Z := ⟨_, rfl⟩
    rw [hZ] at kg ⊢
    obtain ⟨m', J', c⟩ := Z
    simp only at kg ⊢
    clear hd hb e0 hZ
    go_enter Tryz.func43, Tryz.ntmps43
    go_wp2_with (go_at_call 70; refine kg.mono ?_; clear kg; rintro e x ⟨rfl, a, b⟩)
    go_ret
    exact ⟨rfl, fin a b⟩
end
#print axioms Jl.sync_any
end Go.Proofs.YtifkhjihgnnpfaaGreatDoor
/- A journal's Append. Conditions: each theorem's own hypotheses. -/
namespace Go.Proofs.YtifkhjihgnnpfaaGreatDoor
open Go.RowKit
set_option linter.unusedVariables false

theorem Jl.isWidth_any (l : Int) (w : World) :
    Calls Tryz.prog 98 #[.int .i64 l] w fun e w' => e = .returned (.bool (Jn.wideB l)) ∧ w = w' := by
  unfold Jn.wideB
  by_cases h1 : 64 ≤ l
  rotate_left
  · have q1 : decide (64 ≤ l) = false := decide_eq_false h1
    rw [q1]
    go_enter Tryz.func98, Tryz.ntmps98
    go_wp2_with fail
    go_ret
    exact ⟨rfl, rfl⟩
  by_cases h2 : l ≤ 1024
  rotate_left
  · have q1 : decide (64 ≤ l) = true := decide_eq_true h1
    have q2 : decide (l ≤ 1024) = false := decide_eq_false h2
    rw [q2, Bool.and_false]
    go_enter Tryz.func98, Tryz.ntmps98
    go_wp2_with fail
    go_ret
    exact ⟨rfl, rfl⟩
  obtain ⟨n, rfl⟩ := Int.eq_ofNat_of_zero_le (show 0 ≤ l by omega)
  have q1 : decide ((64 : Int) ≤ (n : Int)) = true := decide_eq_true h1
  have q2 : decide ((n : Int) ≤ 1024) = true := decide_eq_true h2
  have q3 : decide (64 ≤ n) = true := decide_eq_true (by omega)
  have q4 : decide (n ≤ 1024) = true := decide_eq_true (by omega)
  rw [q1, q2, Int.toNat_natCast]
  obtain ⟨b, hb⟩ : ∃ b, ((((n % 64 : Nat) : Int) == 0)) = b := ⟨_, rfl⟩
  rw [hb]
  have hq : (n : Int).tmod 64 = ((n % 64 : Nat) : Int) := by rw [Int.tmod_eq_emod_of_nonneg (by omega)]; rfl
  go_enter Tryz.func98, Tryz.ntmps98
  go_wp2_with fail
  go_ret
  exact ⟨by simp_all, rfl⟩
/-- Is a text a code of l bits? (l a width.) -/
def Jl.checkE (l n : Nat) : Int := if n = l / 8 then 0 else 11
set_option maxRecDepth 100000 in
theorem Jl.check_any (l : Nat) (hl : Jn.wideB (l : Int) = true) (c : ByteArray) (w : World) :
    Calls Tryz.prog 73 #[.int .i64 l, .string c] w fun e w' => e = .returned (.int .i64 (Jl.checkE l c.size)) ∧ w' = w := by
  have k1 := fun w => Jl.isWidth_any l w
  rw [hl] at k1
  have hq : (l : Int).tdiv 8 = ((l / 8 : Nat) : Int) := by rw [Int.tdiv_eq_ediv_of_nonneg (by omega)]; rfl
  have hq2 : (l : Int) / 8 = ((l / 8 : Nat) : Int) := rfl
  obtain ⟨d, hd⟩ : ∃ d, l / 8 = d := ⟨_, rfl⟩
  have hd2 : d ≤ 1024 := by
    have := (Jn.wideB_true hl).2.1
    omega
  unfold Jl.checkE
  rw [hd] at hq hq2 ⊢
  by_cases h : c.size = d
  · have q1 : ((c.size : Int) != (d : Int)) = false := by rw [bne_eq_false_iff_eq]; omega
    rw [if_pos h]
    clear hd hl h
    go_enter Tryz.func73, Tryz.ntmps73
    go_wp2_with (go_at_call 98; refine (k1 _).mono ?_; rintro e w' ⟨rfl, rfl⟩)
    go_ret
    exact ⟨rfl, rfl⟩
  · have q1 : ((c.size : Int) != (d : Int)) = true := by rw [bne_iff_ne]; omega
    rw [if_neg h]
    clear hd hl h
    go_enter Tryz.func73, Tryz.ntmps73
    go_wp2_with (go_at_call 98; refine (k1 _).mono ?_; rintro e w' ⟨rfl, rfl⟩)
    go_ret
    exact ⟨rfl, rfl⟩
/-- What Append's closure does, l bits wide. -/
def Jl.appD (m : Dk.M) (J : Jl.Js) (l : Nat) (q k i : Int) (c : List UInt8) : Dk.M × Jl.Js × Int :=
  if (Jn.write q k i c).2 ≠ 0 then (m, J, (Jn.write q k i c).2)
  else if k = 1 ∧ Jl.checkE l c.length ≠ 0 then (m, J, 11)
  else if q ≠ J.last + 1 then (m, J, 51)
  else if (Dk.append m J.nb.data.toList (Jn.write q k i c).1).2 = 0 then ((Dk.append m J.nb.data.toList (Jn.write q k i c).1).1, { J with last := q }, 0)
  else ((Dk.append m J.nb.data.toList (Jn.write q k i c).1).1, J, (Dk.append m J.nb.data.toList (Jn.write q k i c).1).2)
def Jl.app (m : Dk.M) (J : Jl.Js) (l : Nat) (q k i : Int) (c : List UInt8) : Dk.M × Jl.Js × Int :=
  if J.gone = true ∨ m.off = true ∨ m.age ≠ J.age then (m, { J with gone := true }, 45)
  else ((Jl.appD m J l q k i c).1, { (Jl.appD m J l q k i c).2.1 with gone := (Jl.appD m J l q k i c).2.2 == 45 }, (Jl.appD m J l q k i c).2.2)
section
variable {B d j : Nat} {W0 w w' : World} {m : Dk.M} {J : Jl.Js} {K : Nat → Prop}
set_option maxRecDepth 100000 in
set_option maxHeartbeats 4000000 in
theorem Jl.app1_any {bj bu l : Nat} (h : Jl.St B W0 w d m j J K) (hT : ∀ {w : World}, Below B W0 w → TabS w) (hl : J.l = l) (hw : Jn.wideB (l : Int) = true) (hlast : 0 ≤ J.last ∧ J.last ≤ 4611686018427387904) (hs : J.nb.size ≤ 9223372036854775807) {q k i : Int} {c : ByteArray} (hc : c.size ≤ 9223372036854775807)
    (hb : w.cell? ⟨bj, 0, none⟩ = some (.pointer (some ⟨j, 0, none⟩))) (hu : Blk w bu 33 #[.int .i64 q, .int .i64 k, .int .i64 i, .string c]) (hbk : (K bj ∧ bj ≠ j) ∧ K bu ∧ bu ≠ j) (hbs : (Jn.write q k i c.data.toList).1.length ≤ 9223372036854775807) :
    Calls Tryz.prog 71 #[.pointer (some ⟨bu, 0, none⟩), .pointer (some ⟨bj, 0, none⟩)] w fun e w' => e = .returned (.int .i64 (Jl.appD m J l q k i c.data.toList).2.2) ∧ Jl.St B W0 w' d (Jl.appD m J l q k i c.data.toList).1 j (Jl.appD m J l q k i c.data.toList).2.1 K ∧ Jl.KeptB K j w w' := by
  have hcl : c.data.toList.length = c.size := Array.length_toList
  obtain ⟨y0, y1, y2, y3⟩ : w.cell? ⟨bu, 0, none⟩ = some (.int .i64 q) ∧ w.cell? ⟨bu, 1, none⟩ = some (.int .i64 k) ∧ w.cell? ⟨bu, 2, none⟩ = some (.int .i64 i) ∧ w.cell? ⟨bu, 3, none⟩ = some (.string c) := ⟨hu.cell 0, hu.cell 1, hu.cell 2, hu.cell 3⟩
  obtain ⟨Z, hZ⟩ : ∃ Z, Jn.write q k i c.data.toList = Z := ⟨_, rfl⟩
  rw [hZ] at hbs
  obtain ⟨bs, we⟩ := Z
  obtain ⟨S, hS, hSd, hSs⟩ := str_of bs
  have kw := write_tell q k i c S bs we w hc (hT h.sit.below) hZ hS
  have kst := fun {x : World} (hx : Below w.heap.size w x) => h.later hx
  have kch := fun w => Jl.check_any l hw c w
  have hcell : ∀ {x : World}, Jl.KeptB K j w x → x.cell? ⟨bj, 0, none⟩ = some (.pointer (some ⟨j, 0, none⟩)) ∧ x.cell? ⟨bu, 0, none⟩ = some (.int .i64 q) ∧ x.cell? ⟨bu, 1, none⟩ = some (.int .i64 k) ∧ x.cell? ⟨bu, 3, none⟩ = some (.string c) := fun hx => by
    have e1 := hx.2 bj hbk.1.1 hbk.1.2
    have e2 := hx.2 bu hbk.2.1 hbk.2.2
    exact ⟨(World.cell?_of_block e1).trans hb, (World.cell?_of_block e2).trans y0, (World.cell?_of_block e2).trans y1, (World.cell?_of_block e2).trans y3⟩
  have hkb := fun {x : World} (hx : Below w.heap.size w x) => Jl.KeptB.of (j := j) h.sit hx
  unfold Jl.appD
  simp only [hZ, hcl]
  by_cases h0 : we = 0
  rotate_left
  · rw [if_pos (by omega)]
    have q1 : ((we : Int) != 0) = true := by rw [bne_iff_ne]; omega
    clear hcl hZ hS hSd hSs hT hl hw hlast hs hu hcell kch hb hbs
    go_enter Tryz.func71, Tryz.ntmps71
    go_wp2_with (go_at_call 72; refine kw.mono ?_; clear kw; rintro e x ⟨rfl, b1⟩)
    go_ret
    exact ⟨rfl, kst b1, hkb b1⟩
  subst h0
  rw [if_neg (by simp)]
  have q1 : (((0 : Nat) : Int) != 0) = false := rfl
  have wl : IntKind.i64.wrap (J.last + 1) = J.last + 1 := IntWalk.i64_in _ (by omega)
  by_cases h1 : k = 1 ∧ Jl.checkE l c.size ≠ 0
  · rw [if_pos h1]
    obtain ⟨rfl, h1⟩ := h1
    have q2 : (Jl.checkE l c.size != 0) = true := bne_iff_ne.2 h1
    obtain ⟨ce, hce⟩ : ∃ ce, Jl.checkE l c.size = ce := ⟨_, rfl⟩
    rw [hce] at kch q2
    have hcells := fun {x : World} (hx : Below w.heap.size w x) => (kst hx).cell
    simp only [hl] at hcells
    clear hcl hZ hS hSd hSs hT hw hlast hs hu hb h1 hce hbs
    go_enter Tryz.func71, Tryz.ntmps71
    go_upto_region 4 with (go_at_call 72; refine kw.mono ?_; clear kw; rintro e x ⟨rfl, b1⟩; have K1 := hkb b1; have S1 := kst b1; obtain ⟨e0, e1, e2, e3⟩ := hcell K1; obtain ⟨c0, c1, c2, c3, c4, c5, c6⟩ := hcells b1; clear hcell kst hkb hcells y0 y1 y2 y3)
    go_quiet ((go_at_call 73; exact Calls.quiet_of_same (kch _)))
    go_wp2_with fail
    go_ret
    exact ⟨rfl, S1.dn _, K1.trans ⟨Nat.le_refl _, fun _ _ _ => rfl⟩⟩
  rw [if_neg h1]
  have hcells := fun {x : World} (hx : Below w.heap.size w x) => (kst hx).cell
  simp only [hl] at hcells
  by_cases h2 : q = J.last + 1
  rotate_left
  · rw [if_pos h2]
    have q2 : (q != J.last + 1) = true := bne_iff_ne.2 h2
    clear hcl hZ hS hSd hSs hT hw hlast hs hu hb h2
    by_cases hk : k = 1
    · subst hk
      have q3 : Jl.checkE l c.size = 0 := by by_cases e : Jl.checkE l c.size = 0; exact e; exact absurd ⟨rfl, e⟩ h1
      rw [q3] at kch
      clear q3 h1
      go_enter Tryz.func71, Tryz.ntmps71
      go_upto_region 4 with (go_at_call 72; refine kw.mono ?_; clear kw; rintro e x ⟨rfl, b1⟩; have K1 := hkb b1; have S1 := kst b1; obtain ⟨e0, e1, e2, e3⟩ := hcell K1; obtain ⟨c0, c1, c2, c3, c4, c5, c6⟩ := hcells b1; clear kst hkb hcells y0 y1 y2 y3)
      go_quiet ((go_at_call 73; exact Calls.quiet_of_same (kch _)))
      have S4 := S1.dn nq
      have K4 : Jl.KeptB K j w (x.drewN nq) := K1.trans ⟨Nat.le_refl _, fun _ _ _ => rfl⟩
      generalize x.drewN nq = x4 at S4 K4 ⊢
      clear c0 c1 c2 c3 c4 c5 c6 e0 e1 e2 e3
      obtain ⟨c0, c1, c2, c3, c4, c5, c6⟩ := S4.cell
      obtain ⟨e0, e1, e2, e3⟩ := hcell K4
      go_upto_region 6 with fail
      go_quiet (fail)
      have S5 := S4.dn nq
      have K5 : Jl.KeptB K j w (x4.drewN nq) := K4.trans ⟨Nat.le_refl _, fun _ _ _ => rfl⟩
      generalize x4.drewN nq = x5 at S5 K5 ⊢
      clear c0 c1 c2 c3 c4 c5 c6 e0 e1 e2 e3
      obtain ⟨c0, c1, c2, c3, c4, c5, c6⟩ := S5.cell
      obtain ⟨e0, e1, e2, e3⟩ := hcell K5
      go_wp2_with fail
      go_ret
      exact ⟨rfl, S5, K5⟩
    · have q3 : (k == 1) = false := beq_eq_false_iff_ne.2 hk
      clear h1 hk
      go_enter Tryz.func71, Tryz.ntmps71
      go_upto_region 4 with (go_at_call 72; refine kw.mono ?_; clear kw; rintro e x ⟨rfl, b1⟩; have K1 := hkb b1; have S1 := kst b1; obtain ⟨e0, e1, e2, e3⟩ := hcell K1; obtain ⟨c0, c1, c2, c3, c4, c5, c6⟩ := hcells b1; clear kst hkb hcells y0 y1 y2 y3)
      go_quiet (fail)
      have S4 := S1.dn nq
      have K4 : Jl.KeptB K j w (x.drewN nq) := K1.trans ⟨Nat.le_refl _, fun _ _ _ => rfl⟩
      generalize x.drewN nq = x4 at S4 K4 ⊢
      clear c0 c1 c2 c3 c4 c5 c6 e0 e1 e2 e3
      obtain ⟨c0, c1, c2, c3, c4, c5, c6⟩ := S4.cell
      obtain ⟨e0, e1, e2, e3⟩ := hcell K4
      go_upto_region 6 with fail
      go_quiet (fail)
      have S5 := S4.dn nq
      have K5 : Jl.KeptB K j w (x4.drewN nq) := K4.trans ⟨Nat.le_refl _, fun _ _ _ => rfl⟩
      generalize x4.drewN nq = x5 at S5 K5 ⊢
      clear c0 c1 c2 c3 c4 c5 c6 e0 e1 e2 e3
      obtain ⟨c0, c1, c2, c3, c4, c5, c6⟩ := S5.cell
      obtain ⟨e0, e1, e2, e3⟩ := hcell K5
      go_wp2_with fail
      go_ret
      exact ⟨rfl, S5, K5⟩
  rw [if_neg (not_not_intro h2)]
  have q2 : (q != J.last + 1) = false := by rw [bne_eq_false_iff_eq]; exact h2
  have kcall := fun {x : World} (hx : Jl.St B W0 x d m j J K) => hx.call (Dk.append_good hx.sit.good J.nb.data.toList bs) fun F hA hG => (by
    have := Dk.append_any hA hG J.nb S hs (by
      rw [Tx.size, hSd]
      exact hbs)
    rw [hSd] at this
    exact this)
  obtain ⟨Z, hZ2⟩ : ∃ Z, Dk.append m J.nb.data.toList bs = Z := ⟨_, rfl⟩
  obtain ⟨m', ec⟩ := Z
  rw [hZ2] at kcall
  simp only [hZ2]
  simp only at kcall
  have H2 := Lib.hid h2
  clear hcl hZ hZ2 hS hSd hSs hT hw hlast hs hu hb h2 hbs
  by_cases h3 : ec = 0
  · subst h3
    rw [if_pos rfl]
    by_cases hk : k = 1
    · subst hk
      have q3 : Jl.checkE l c.size = 0 := by by_cases e : Jl.checkE l c.size = 0; exact e; exact absurd ⟨rfl, e⟩ h1
      rw [q3] at kch
      clear q3 h1
      go_enter Tryz.func71, Tryz.ntmps71
      go_upto_region 4 with (go_at_call 72; refine kw.mono ?_; clear kw; rintro e x ⟨rfl, b1⟩; have K1 := hkb b1; have S1 := kst b1; obtain ⟨e0, e1, e2, e3⟩ := hcell K1; obtain ⟨c0, c1, c2, c3, c4, c5, c6⟩ := hcells b1; clear kst hkb hcells y0 y1 y2 y3)
      go_quiet ((go_at_call 73; exact Calls.quiet_of_same (kch _)))
      have S4 := S1.dn nq
      have K4 : Jl.KeptB K j w (x.drewN nq) := K1.trans ⟨Nat.le_refl _, fun _ _ _ => rfl⟩
      generalize x.drewN nq = x4 at S4 K4 ⊢
      clear c0 c1 c2 c3 c4 c5 c6 e0 e1 e2 e3
      obtain ⟨c0, c1, c2, c3, c4, c5, c6⟩ := S4.cell
      obtain ⟨e0, e1, e2, e3⟩ := hcell K4
      go_upto_region 6 with fail
      go_quiet (fail)
      have S5 := S4.dn nq
      have K5 : Jl.KeptB K j w (x4.drewN nq) := K4.trans ⟨Nat.le_refl _, fun _ _ _ => rfl⟩
      generalize x4.drewN nq = x5 at S5 K5 ⊢
      clear c0 c1 c2 c3 c4 c5 c6 e0 e1 e2 e3
      obtain ⟨c0, c1, c2, c3, c4, c5, c6⟩ := S5.cell
      obtain ⟨e0, e1, e2, e3⟩ := hcell K5
      go_upto_region 8 with fail
      have kap := kcall (S5.dn 1)
      go_still_tail 9, (by kernel_rfl)
      go_wp2_with (go_at_call 39; refine kap.mono ?_; clear kap kcall; rintro e x2 ⟨rfl, S2, K2⟩; have K12 := K5.trans (Jl.KeptB.trans ⟨Nat.le_refl _, fun _ _ _ => rfl⟩ K2); obtain ⟨g0, g1, g2, g3⟩ := hcell K12; clear c0 c1 c2 c3 c4 c5 c6 e0 e1 e2 e3; obtain ⟨c0, c1, c2, c3, c4, c5, c6⟩ := S2.cell; have ff := S2.blk.frozen 5)
      go_ret
      obtain ⟨za, zb⟩ := S2.set 5 (.int .i64 q) (J' := { J with last := q }) rfl
      exact ⟨rfl, za, K12.trans zb⟩
    · have q3 : (k == 1) = false := beq_eq_false_iff_ne.2 hk
      clear h1 hk
      go_enter Tryz.func71, Tryz.ntmps71
      go_upto_region 4 with (go_at_call 72; refine kw.mono ?_; clear kw; rintro e x ⟨rfl, b1⟩; have K1 := hkb b1; have S1 := kst b1; obtain ⟨e0, e1, e2, e3⟩ := hcell K1; obtain ⟨c0, c1, c2, c3, c4, c5, c6⟩ := hcells b1; clear kst hkb hcells y0 y1 y2 y3)
      go_quiet (fail)
      have S4 := S1.dn nq
      have K4 : Jl.KeptB K j w (x.drewN nq) := K1.trans ⟨Nat.le_refl _, fun _ _ _ => rfl⟩
      generalize x.drewN nq = x4 at S4 K4 ⊢
      clear c0 c1 c2 c3 c4 c5 c6 e0 e1 e2 e3
      obtain ⟨c0, c1, c2, c3, c4, c5, c6⟩ := S4.cell
      obtain ⟨e0, e1, e2, e3⟩ := hcell K4
      go_upto_region 6 with fail
      go_quiet (fail)
      have S5 := S4.dn nq
      have K5 : Jl.KeptB K j w (x4.drewN nq) := K4.trans ⟨Nat.le_refl _, fun _ _ _ => rfl⟩
      generalize x4.drewN nq = x5 at S5 K5 ⊢
      clear c0 c1 c2 c3 c4 c5 c6 e0 e1 e2 e3
      obtain ⟨c0, c1, c2, c3, c4, c5, c6⟩ := S5.cell
      obtain ⟨e0, e1, e2, e3⟩ := hcell K5
      go_upto_region 8 with fail
      have kap := kcall (S5.dn 1)
      go_still_tail 9, (by kernel_rfl)
      go_wp2_with (go_at_call 39; refine kap.mono ?_; clear kap kcall; rintro e x2 ⟨rfl, S2, K2⟩; have K12 := K5.trans (Jl.KeptB.trans ⟨Nat.le_refl _, fun _ _ _ => rfl⟩ K2); obtain ⟨g0, g1, g2, g3⟩ := hcell K12; clear c0 c1 c2 c3 c4 c5 c6 e0 e1 e2 e3; obtain ⟨c0, c1, c2, c3, c4, c5, c6⟩ := S2.cell; have ff := S2.blk.frozen 5)
      go_ret
      obtain ⟨za, zb⟩ := S2.set 5 (.int .i64 q) (J' := { J with last := q }) rfl
      exact ⟨rfl, za, K12.trans zb⟩
  · rw [if_neg h3]
    have q4 : (ec != 0) = true := bne_iff_ne.2 h3
    clear h3
    by_cases hk : k = 1
    · subst hk
      have q3 : Jl.checkE l c.size = 0 := by by_cases e : Jl.checkE l c.size = 0; exact e; exact absurd ⟨rfl, e⟩ h1
      rw [q3] at kch
      clear q3 h1
      go_enter Tryz.func71, Tryz.ntmps71
      go_upto_region 4 with (go_at_call 72; refine kw.mono ?_; clear kw; rintro e x ⟨rfl, b1⟩; have K1 := hkb b1; have S1 := kst b1; obtain ⟨e0, e1, e2, e3⟩ := hcell K1; obtain ⟨c0, c1, c2, c3, c4, c5, c6⟩ := hcells b1; clear kst hkb hcells y0 y1 y2 y3)
      go_quiet ((go_at_call 73; exact Calls.quiet_of_same (kch _)))
      have S4 := S1.dn nq
      have K4 : Jl.KeptB K j w (x.drewN nq) := K1.trans ⟨Nat.le_refl _, fun _ _ _ => rfl⟩
      generalize x.drewN nq = x4 at S4 K4 ⊢
      clear c0 c1 c2 c3 c4 c5 c6 e0 e1 e2 e3
      obtain ⟨c0, c1, c2, c3, c4, c5, c6⟩ := S4.cell
      obtain ⟨e0, e1, e2, e3⟩ := hcell K4
      go_upto_region 6 with fail
      go_quiet (fail)
      have S5 := S4.dn nq
      have K5 : Jl.KeptB K j w (x4.drewN nq) := K4.trans ⟨Nat.le_refl _, fun _ _ _ => rfl⟩
      generalize x4.drewN nq = x5 at S5 K5 ⊢
      clear c0 c1 c2 c3 c4 c5 c6 e0 e1 e2 e3
      obtain ⟨c0, c1, c2, c3, c4, c5, c6⟩ := S5.cell
      obtain ⟨e0, e1, e2, e3⟩ := hcell K5
      go_upto_region 8 with fail
      have kap := kcall (S5.dn 1)
      go_still_tail 9, (by kernel_rfl)
      go_wp2_with (go_at_call 39; refine kap.mono ?_; clear kap kcall; rintro e x2 ⟨rfl, S2, K2⟩; have K12 := K5.trans (Jl.KeptB.trans ⟨Nat.le_refl _, fun _ _ _ => rfl⟩ K2); obtain ⟨g0, g1, g2, g3⟩ := hcell K12; clear c0 c1 c2 c3 c4 c5 c6 e0 e1 e2 e3; obtain ⟨c0, c1, c2, c3, c4, c5, c6⟩ := S2.cell; have ff := S2.blk.frozen 5)
      go_ret
      exact ⟨rfl, S2, K12⟩
    · have q3 : (k == 1) = false := beq_eq_false_iff_ne.2 hk
      clear h1 hk
      go_enter Tryz.func71, Tryz.ntmps71
      go_upto_region 4 with (go_at_call 72; refine kw.mono ?_; clear kw; rintro e x ⟨rfl, b1⟩; have K1 := hkb b1; have S1 := kst b1; obtain ⟨e0, e1, e2, e3⟩ := hcell K1; obtain ⟨c0, c1, c2, c3, c4, c5, c6⟩ := hcells b1; clear kst hkb hcells y0 y1 y2 y3)
      go_quiet (fail)
      have S4 := S1.dn nq
      have K4 : Jl.KeptB K j w (x.drewN nq) := K1.trans ⟨Nat.le_refl _, fun _ _ _ => rfl⟩
      generalize x.drewN nq = x4 at S4 K4 ⊢
      clear c0 c1 c2 c3 c4 c5 c6 e0 e1 e2 e3
      obtain ⟨c0, c1, c2, c3, c4, c5, c6⟩ := S4.cell
      obtain ⟨e0, e1, e2, e3⟩ := hcell K4
      go_upto_region 6 with fail
      go_quiet (fail)
      have S5 := S4.dn nq
      have K5 : Jl.KeptB K j w (x4.drewN nq) := K4.trans ⟨Nat.le_refl _, fun _ _ _ => rfl⟩
      generalize x4.drewN nq = x5 at S5 K5 ⊢
      clear c0 c1 c2 c3 c4 c5 c6 e0 e1 e2 e3
      obtain ⟨c0, c1, c2, c3, c4, c5, c6⟩ := S5.cell
      obtain ⟨e0, e1, e2, e3⟩ := hcell K5
      go_upto_region 8 with fail
      have kap := kcall (S5.dn 1)
      go_still_tail 9, (by kernel_rfl)
      go_wp2_with (go_at_call 39; refine kap.mono ?_; clear kap kcall; rintro e x2 ⟨rfl, S2, K2⟩; have K12 := K5.trans (Jl.KeptB.trans ⟨Nat.le_refl _, fun _ _ _ => rfl⟩ K2); obtain ⟨g0, g1, g2, g3⟩ := hcell K12; clear c0 c1 c2 c3 c4 c5 c6 e0 e1 e2 e3; obtain ⟨c0, c1, c2, c3, c4, c5, c6⟩ := S2.cell; have ff := S2.blk.frozen 5)
      go_ret
      exact ⟨rfl, S2, K12⟩
set_option maxRecDepth 100000 in
set_option maxHeartbeats 2000000 in
/-- Append. -/
theorem Jl.append_any {l : Nat} (h : Jl.St B W0 w d m j J K) (hT : ∀ {w : World}, Below B W0 w → TabS w) (hl : J.l = l) (hw : Jn.wideB (l : Int) = true) (hlast : 0 ≤ J.last ∧ J.last ≤ 4611686018427387904) (hs : J.nb.size ≤ 9223372036854775807) {q k i : Int} {c : ByteArray} (hc : c.size ≤ 9223372036854775807) (hbs : (Jn.write q k i c.data.toList).1.length ≤ 9223372036854775807) :
    Calls Tryz.prog 41 #[.pointer (some ⟨j, 0, none⟩), .agg #[.int .i64 q, .int .i64 k, .int .i64 i, .string c]] w fun e w' => e = .returned (.int .i64 (Jl.app m J l q k i c.data.toList).2.2) ∧ Jl.St B W0 w' d (Jl.app m J l q k i c.data.toList).1 j (Jl.app m J l q k i c.data.toList).2.1 K ∧ Jl.KeptB K j w w' := by
  have hA : Below w.heap.size w ((w.alloc (.cells #[.pointer (some ⟨j, 0, none⟩)] 28)).alloc (.cells #[.int .i64 q, .int .i64 k, .int .i64 i, .string c] 33)) := ((Below.refl _ _).alloc (Nat.le_refl _) _).alloc (by simp) _
  have hb : Blk ((w.alloc (.cells #[.pointer (some ⟨j, 0, none⟩)] 28)).alloc (.cells #[.int .i64 q, .int .i64 k, .int .i64 i, .string c] 33)) w.heap.size 28 #[.pointer (some ⟨j, 0, none⟩)] := (Blk.new w _ _).alloc _
  have hu : Blk ((w.alloc (.cells #[.pointer (some ⟨j, 0, none⟩)] 28)).alloc (.cells #[.int .i64 q, .int .i64 k, .int .i64 i, .string c] 33)) (w.heap.size + 1) 33 #[.int .i64 q, .int .i64 k, .int .i64 i, .string c] := by
    have := Blk.new (w.alloc (.cells #[.pointer (some ⟨j, 0, none⟩)] 28)) 33 #[.int .i64 q, .int .i64 k, .int .i64 i, .string c]
    rwa [World.size_alloc] at this
  obtain ⟨X0, hX0⟩ : ∃ X0, ((w.alloc (.cells #[.pointer (some ⟨j, 0, none⟩)] 28)).alloc (.cells #[.int .i64 q, .int .i64 k, .int .i64 i, .string c] 33)) = X0 := ⟨_, rfl⟩
  have hsz : X0.heap.size = w.heap.size + 2 := by rw [← hX0]; simp
  rw [hX0] at hA hb hu
  have h1 : Jl.St B W0 X0 d m j J (fun k => K k ∨ (w.heap.size ≤ k ∧ k < w.heap.size + 2)) := ⟨(h.sit.grow hA).sub fun k hk => hk.elim .inl fun e => .inr ⟨e.1, by omega⟩, (h.later hA).blk, .inl h.own⟩
  have hk : Jl.KeptB K j w X0 := .of h.sit hA
  have hjw := h.blk.lt
  have fin : ∀ {X : World} {m' : Dk.M} {J' : Jl.Js}, Jl.St B W0 X d m' j J' (fun k => K k ∨ (w.heap.size ≤ k ∧ k < w.heap.size + 2)) → Jl.KeptB (fun k => K k ∨ (w.heap.size ≤ k ∧ k < w.heap.size + 2)) j X0 X → Jl.St B W0 X d m' j J' K ∧ Jl.KeptB K j w X := fun a b =>
    ⟨⟨a.sit.sub fun k hk => .inl hk, a.blk, h.own⟩, hk.trans ⟨b.1, fun k h1 h2 => b.2 k (.inl h1) h2⟩⟩
  have e0 : X0.cell? ⟨w.heap.size, 0, none⟩ = some (.pointer (some ⟨j, 0, none⟩)) := hb.cell 0
  unfold Jl.app
  by_cases hd : J.gone = true ∨ m.off = true ∨ m.age ≠ J.age
  · have kg := fun f => Jl.gate_down h1 hd f
    rw [if_pos hd]
    clear hd hb hu hl hw hlast hs hc hT h h1 hA hk hsz
    go_enter Tryz.func41, Tryz.ntmps41
    go_wp2_with (go_at_call 70; refine (kg _).mono ?_; clear kg; rintro e x ⟨rfl, a, b⟩)
    go_ret
    exact ⟨rfl, fin a b⟩
  · have kg := Jl.gate_do (g := 71) (cs := #[.pointer (some ⟨w.heap.size + 1, 0, none⟩), .pointer (some ⟨w.heap.size, 0, none⟩)]) h1 (by cases hg : J.gone with | false => rfl | true => exact absurd (.inl hg) hd) (by cases hg : m.off with | false => rfl | true => exact absurd (.inr (.inl hg)) hd) (by by_cases hg : m.age = J.age; exact hg; exact absurd (.inr (.inr hg)) hd)
      (fun n => (Jl.app1_any (bj := w.heap.size) (bu := w.heap.size + 1) (h1.dn n) hT hl hw hlast hs hc e0 hu ⟨⟨.inr ⟨Nat.le_refl _, by omega⟩, by omega⟩, .inr ⟨by omega, by omega⟩, by omega⟩ hbs).mono fun e X ⟨a, b, c⟩ => ⟨a, b, c⟩) (fun args w => Dk.run_enter Tryz.func71 (by kernel_rfl) rfl args w)
    rw [if_neg hd]
    obtain ⟨Z, hZ⟩ : ∃ Z, Jl.appD m J l q k i c.data.toList = Z := ⟨_, rfl⟩
    rw [hZ] at kg ⊢
    obtain ⟨m', J', cc⟩ := Z
    simp only at kg ⊢
    clear hd hb hu hZ hl hw hlast hs hc hT h h1 hA hk hsz
    go_enter Tryz.func41, Tryz.ntmps41
    go_wp2_with (go_at_call 70; refine kg.mono ?_; clear kg; rintro e x ⟨rfl, a, b⟩)
    go_ret
    exact ⟨rfl, fin a b⟩
end
#print axioms Jl.append_any
end Go.Proofs.YtifkhjihgnnpfaaGreatDoor
/- journal.Create. Conditions: each theorem's own hypotheses. -/
namespace Go.Proofs.YtifkhjihgnnpfaaGreatDoor
open Go.RowKit
set_option linter.unusedVariables false

/-- What Create does and answers. -/
def Jl.createR (m : Dk.M) (n sq l : Int) : Dk.M × Int := if Jn.goesE n sq l = 0 then Dk.create m (Jn.name n) else (m, Jn.goesE n sq l)
theorem Jl.name_is (n : Int) (nb : ByteArray) (hnb : str (Jn.name n) = .string nb) : nb.data.toList = Jn.name n ∧ nb.size ≤ 9223372036854775807 := by
  have hns : nb.data.toList = Jn.name n := by
    obtain ⟨nb2, e1, e2, _⟩ := str_of (Jn.name n)
    rw [e1] at hnb
    rw [← Value.string.inj hnb]; exact e2
  exact ⟨hns, by rw [Tx.size, hns]; exact Jl.name_len n⟩
theorem Jl.create_good {m : Dk.M} (hG : Dk.Good m) (nm : List UInt8) : Dk.Good (Dk.create m nm).1 := by
  unfold Dk.create
  split
  · exact hG
  split
  · exact hG
  rename_i h1 h2
  obtain ⟨q1, q2, q3⟩ := Dk.code_none (Decidable.not_not.1 h2)
  split
  · exact hG
  · refine Dk.acc_good hG _ _ (Dk.up_ins Dk.F.name _ hG.up fun y hy => Dk.get_none q2 y hy) (fun f hf => ?_) (by rw [Dk.len_ins]; omega) (by rw [Dk.used_ins]; show 0 + _ ≤ _; have := hG.used; omega)
    rcases (Dk.mem_ins Dk.F.name).1 hf with rfl | hf
    · exact ⟨q1, Nat.zero_le _, Nat.le_refl _⟩
    · exact hG.file f hf
theorem Jl.Kept.trans {K : Nat → Prop} {a b c : World} (h : Jl.Kept K a b) (h' : Jl.Kept K b c) : Jl.Kept K a c := ⟨Nat.le_trans h.1 h'.1, fun k hk => (h'.2 k hk).trans (h.2 k hk)⟩
section
variable {B d : Nat} {W0 W : World} {m m' : Dk.M} {K : Nat → Prop}
set_option maxRecDepth 100000 in
set_option maxHeartbeats 2000000 in
theorem Jl.create_no (h : Jl.Sit B W0 W d m K) (hP : ∀ {w : World}, Below B W0 w → PowT w) (n sq l : Int) (nb : ByteArray) (hnb : str (Jn.name n) = .string nb) {c : Int} (hc : c ≠ 0) (hr : Jl.createR m n sq l = (m', c)) :
    Calls Tryz.prog 21 #[.pointer (some ⟨d, 0, none⟩), .int .i64 n, .int .i64 sq, .int .i64 l] W fun e W' => e = .returned (.tuple #[.pointer none, .int .i64 c]) ∧ Jl.Sit B W0 W' d m' K ∧ Jl.Kept K W W' := by
  obtain ⟨hns, hname⟩ := Jl.name_is n nb hnb
  have hz := h.size
  have k1 := Jl.goes_any n sq l W (hP h.below)
  have k2 := fun {w : World} (hB : Below W.heap.size W w) => name_any n w (hP (h.below.trans (hB.mono hz))) nb hnb
  have hl := fun {w : World} (hB : Below W.heap.size W w) => h.later hB
  have hk := fun {w : World} (hB : Below W.heap.size W w) => h.kept hB
  have q1 : (c != 0) = true := bne_iff_ne.2 hc
  unfold Jl.createR at hr
  by_cases hg : Jn.goesE n sq l = 0
  · rw [if_pos hg] at hr
    rw [hg] at k1
    have k3 := fun {w : World} (hS : Jl.Sit B W0 w d m K) => hS.call (m' := (Dk.create m nb.data.toList).1) (Jl.create_good hS.good _) fun F hA hG => Dk.create_any hA hG nb hname
    rw [hns, hr] at k3
    simp only at k3
    clear hr hg hP h hnb hns hname hc
    go_enter Tryz.func21, Tryz.ntmps21
    go_wp2_with (first
      | (go_at_call 46; refine k1.mono ?_; clear k1; rintro e w1 ⟨rfl, b1⟩; have kn := k2 b1; clear k2)
      | (go_at_call 47; refine kn.mono ?_; clear kn; rintro e w2 ⟨rfl, b2⟩; have b3 := b1.trans (b2.mono b1.size); have S2 := hl b3; have kc := k3 S2; clear k3)
      | (go_at_call 37; refine kc.mono ?_; clear kc; rintro e w3 ⟨rfl, S3, K3⟩))
    refine bodyPost_ret (v := .tuple #[.pointer none, .int .i64 c]) (by simp [results, Tryz.results21, go_sem]) rfl ?_
    exact ⟨rfl, S3, (hk b3).trans K3⟩
  · rw [if_neg hg] at hr
    obtain ⟨e1, e2⟩ := Prod.mk.inj hr
    subst e1
    rw [e2] at k1
    clear hr hg hP h hnb hns hname e2 k2 hc
    go_enter Tryz.func21, Tryz.ntmps21
    go_wp2_with (go_at_call 46; refine k1.mono ?_; clear k1; rintro e w1 ⟨rfl, b1⟩)
    refine bodyPost_ret (v := .tuple #[.pointer none, .int .i64 c]) (by simp [results, Tryz.results21, go_sem]) rfl ?_
    exact ⟨rfl, hl b1, hk b1⟩
set_option maxRecDepth 100000 in
set_option maxHeartbeats 2000000 in
theorem Jl.create_ok (h : Jl.Sit B W0 W d m K) (hP : ∀ {w : World}, Below B W0 w → PowT w) (n sq l : Int) (nb : ByteArray) (hnb : str (Jn.name n) = .string nb) (hr : Jl.createR m n sq l = (m', 0)) :
    Calls Tryz.prog 21 #[.pointer (some ⟨d, 0, none⟩), .int .i64 n, .int .i64 sq, .int .i64 l] W fun e W' => ∃ j, e = .returned (.tuple #[.pointer (some ⟨j, 0, none⟩), .int .i64 0]) ∧ W.heap.size ≤ j ∧ Jl.St B W0 W' d m' j ⟨m'.age, false, nb, l, sq, sq⟩ (fun k => K k ∨ k = j) ∧ Jl.Kept K W W' := by
  obtain ⟨hns, hname⟩ := Jl.name_is n nb hnb
  have hz := h.size
  have k1 := Jl.goes_any n sq l W (hP h.below)
  have k2 := fun {w : World} (hB : Below W.heap.size W w) => name_any n w (hP (h.below.trans (hB.mono hz))) nb hnb
  have hl := fun {w : World} (hB : Below W.heap.size W w) => h.later hB
  have hk := fun {w : World} (hB : Below W.heap.size W w) => h.kept hB
  unfold Jl.createR at hr
  by_cases hg : Jn.goesE n sq l = 0
  rotate_left
  · rw [if_neg hg] at hr
    exact absurd (congrArg Prod.snd hr) hg
  rw [if_pos hg] at hr
  rw [hg] at k1
  have k3 := fun {w : World} (hS : Jl.Sit B W0 w d m K) => hS.call (m' := (Dk.create m nb.data.toList).1) (Jl.create_good hS.good _) fun F hA hG => Dk.create_any hA hG nb hname
  rw [hns, hr] at k3
  simp only at k3
  have k4 := fun {w : World} (hS : Jl.Sit B W0 w d m' K) => hS.ask fun F hA hG => Jl.begin_any hA n sq l sq (hP hS.below) nb hnb
  clear hr hg hP h hnb hns hname
  obtain ⟨ag, hag⟩ : ∃ ag, m'.age = ag := ⟨_, rfl⟩
  simp only [hag] at k4 ⊢
  clear hag
  go_enter Tryz.func21, Tryz.ntmps21
  go_wp2_with (first
    | (go_at_call 46; refine k1.mono ?_; clear k1; rintro e w1 ⟨rfl, b1⟩; have kn := k2 b1; clear k2)
    | (go_at_call 47; refine kn.mono ?_; clear kn; rintro e w2 ⟨rfl, b2⟩; have b3 := b1.trans (b2.mono b1.size); have S2 := hl b3; have kc := k3 S2; clear k3)
    | (go_at_call 37; refine kc.mono ?_; clear kc; rintro e w3 ⟨rfl, S3, K3⟩; have kb := k4 S3; clear k4)
    | (go_at_call 48; refine kb.mono ?_; clear kb; rintro e w4 ⟨j, rfl, hj, bj, b4⟩))
  refine bodyPost_ret (v := .tuple #[.pointer (some ⟨j, 0, none⟩), .int .i64 0]) (by simp [results, Tryz.results21, go_sem]) rfl ?_
  have hz3 := b3.size
  have hz4 := K3.1
  refine ⟨j, rfl, by omega, ⟨(S3.grow b4).sub fun k hk => ?_, bj, .inr rfl⟩, (hk b3).trans (K3.trans ⟨b4.size, fun k hk => b4.block k (S3.lt hk).2⟩)⟩
  rcases hk with hk | rfl
  · exact .inl hk
  · exact .inr ⟨hj, bj.lt⟩
end
#print axioms Jl.create_ok
end Go.Proofs.YtifkhjihgnnpfaaGreatDoor
