/- Disks: a write is counted; the power may go at it. Conditions: each theorem's own hypotheses. -/
import Derived.Test.YtifkhjihgnnpfaaGreatDoorZDkH
namespace Go.Proofs.YtifkhjihgnnpfaaGreatDoor
open Go.RowKit Go.Maps Go.Sort
set_option linter.unusedVariables false

/-- A write that would make the files these: the disk behind it, and the answer. -/
def Dk.acc (m : Dk.M) (last : Bool) (fs : List Dk.F) : Dk.M × Int :=
  if m.left = 0 then ({ m with writes := IntKind.i64.wrap (m.writes + 1), files := fs }, 0)
  else if 1 < m.left then ({ m with writes := IntKind.i64.wrap (m.writes + 1), left := m.left - 1, files := fs }, 0)
  else ({ m with writes := IntKind.i64.wrap (m.writes + 1), left := 0, off := true, files := if last = true then fs else m.files }, 45)
theorem Dk.acc_good {m : Dk.M} (hG : Dk.Good m) (last : Bool) (fs : List Dk.F) (hup : Dk.Up Dk.F.name fs) (hf : ∀ f ∈ fs, Dk.named f.name = true ∧ f.data.length ≤ 268435456 ∧ f.sure ≤ f.data.length) (hm : fs.length ≤ 4096) (hu : Dk.used fs ≤ m.cap) : Dk.Good (Dk.acc m last fs).1 := by
  unfold Dk.acc
  split
  · exact ⟨hup, hf, hm, hG.cap, hu, hG.left⟩
  · split
    · exact ⟨hup, hf, hm, hG.cap, hu, by show m.left - 1 ≤ _; have := hG.left; omega⟩
    · cases last with
      | true => exact ⟨hup, hf, hm, hG.cap, hu, by show 0 ≤ _; omega⟩
      | false => exact ⟨hG.up, hG.file, hG.many, hG.cap, hG.used, by show 0 ≤ _; omega⟩
/-- What a closure does to a disk. -/
def Dk.Doing (W : World) (d b : Nat) (m : Dk.M) (L : List Dk.X) (g : FuncId) (cs : Array Value) (fs : List Dk.F) : Prop :=
  ∀ (W1 : World) (m1 : Dk.M), Dk.Stand W1 d b m1 L → m1.files = m.files → m1.cap = m.cap → Dk.Only (fun k => k = d) W W1 →
    Calls Tryz.prog g cs W1 fun e W2 => e = .returned (.tuple #[]) ∧ Dk.Moved W1 W2 d (Dk.foot d b L) { m1 with files := fs }
/-- A change of the disk's own block. -/
theorem Dk.Moved.after {W W1 W2 : World} {d b : Nat} {L : List Dk.X} {m' : Dk.M} (h1 : Dk.Only (fun k => k = d) W W1) (h : Dk.Moved W1 W2 d (Dk.foot d b L) m') : Dk.Moved W W2 d (Dk.foot d b L) m' := by
  obtain ⟨F', hA, ho, hf⟩ := h
  refine ⟨F', hA, (h1.wide fun k _ hk => .inl hk).trans ho, fun k hk => (hf k hk).imp id fun h => Nat.le_trans h1.size h⟩
theorem Dk.run_enter {P : Program} {f : FuncId} {fn : Func} {c : Code} (hf : P.funcs[f]? = some fn) (hname : (fn.name == "runtime.NumGoroutine") = false) (hb : fn.body = some c) (args : Array Value) (w : World) :
    (callFunc f args).run P w = .ok (.enter f args) w := by
  have h1 : ¬ fn.name = "runtime.NumGoroutine" := by simpa using hname
  simp [callFunc, hf, h1, hb]
set_option maxRecDepth 100000 in
set_option maxHeartbeats 2000000 in
theorem Dk.accepted_any {W : World} {d b : Nat} {m : Dk.M} {L : List Dk.X} (h : Dk.Stand W d b m L) (hl : m.left ≤ 9223372036854775807) (last : Bool) (g : FuncId) (cs : Array Value) (fs : List Dk.F) (hdo : Dk.Doing W d b m L g cs fs) (hin : ∀ args w, (callFunc g args).run Tryz.prog w = .ok (.enter g args) w) :
    Calls Tryz.prog 62 #[.pointer (some ⟨d, 0, none⟩), .bool last, .func (.func g) #[] cs] W fun e W' => e = .returned (.int .i64 (Dk.acc m last fs).2) ∧ Dk.Moved W W' d (Dk.foot d b L) (Dk.acc m last fs).1 := by
  obtain ⟨wn, hwn⟩ : ∃ wn, IntKind.i64.wrap (m.writes + 1) = wn := ⟨_, rfl⟩
  have h1 := h.set h.lone 4 (.int .i64 wn) { m with writes := wn } rfl rfl
  have o1 : Dk.Only (fun k => k = d) W (W.setCell ⟨d, 4, none⟩ (.int .i64 wn)) := Dk.Only.setCell (F := fun k => k = d) (Dk.Only.refl _ W) (p := ⟨d, 4, none⟩) (.inl rfl) _
  obtain ⟨W1, hW1⟩ : ∃ W1, W.setCell ⟨d, 4, none⟩ (.int .i64 wn) = W1 := ⟨_, rfl⟩
  rw [hW1] at h1 o1
  obtain ⟨c0, c1, c2, c3, c4, c5, c6, c7⟩ := h.eight
  have f4 := h.disk.frozen 4
  obtain ⟨d0, d1, d2, d3, d4, d5, d6, d7⟩ := h1.eight
  have e6 := h1.disk.frozen 6
  unfold Dk.acc
  rw [hwn]
  by_cases l0 : m.left = 0
  · rw [if_pos l0]
    have hm6 : ((m.left : Int) == 0) = true := by rw [l0]; rfl
    have hc := hdo W1 _ h1 rfl rfl o1
    clear c0 c1 c2 c3 c5 c7 c6 d0 d1 d2 d3 d4 d5 d7 hdo
    go_enter Tryz.func62, Tryz.ntmps62
    go_wp2_with (refine hc.mono ?_; rintro e w2 ⟨rfl, hM⟩)
    go_ret
    exact ⟨rfl, hM.after o1⟩
  · rw [if_neg l0]
    have hm6 : ((m.left : Int) == 0) = false := by rw [beq_eq_false_iff_ne]; omega
    obtain ⟨l, hle⟩ : ∃ l, m.left - 1 = l := ⟨_, rfl⟩
    have hwl : IntKind.i64.wrap ((m.left : Int) - 1) = (l : Int) := (IntWalk.i64_in _ (by omega)).trans (by omega)
    have h2 := h1.set h1.lone 6 (.int .i64 l) { m with writes := wn, left := l } rfl rfl
    have o2 : Dk.Only (fun k => k = d) W (W1.setCell ⟨d, 6, none⟩ (.int .i64 l)) := Dk.Only.setCell (F := fun k => k = d) o1 (p := ⟨d, 6, none⟩) (.inl rfl) _
    obtain ⟨W2, hW2⟩ : ∃ W2, W1.setCell ⟨d, 6, none⟩ (.int .i64 l) = W2 := ⟨_, rfl⟩
    rw [hW2] at h2 o2
    obtain ⟨_, _, _, _, _, g5, g6, _⟩ := h2.eight
    have e5 := h2.disk.frozen 5
    have hfoot : ∀ k, k = d → Dk.foot d b L k := fun k hk => .inl hk
    by_cases l1 : 1 < m.left
    · rw [if_pos l1]
      have hp : decide (0 < l) = true := decide_eq_true (by omega)
      have hc := hdo W2 _ h2 rfl rfl o2
      rw [hle]
      clear c0 c1 c2 c3 c5 c7 c6 d0 d1 d2 d3 d4 d5 d7 hdo hle l0 l1
      go_enter Tryz.func62, Tryz.ntmps62
      go_wp2_with (refine hc.mono ?_; rintro e w2 ⟨rfl, hM⟩)
      go_ret
      exact ⟨rfl, hM.after o2⟩
    · rw [if_neg l1]
      have HL0 := Lib.hid (show l = 0 by omega)
      have hp : decide (0 < l) = false := decide_eq_false (by omega)
      clear c0 c1 c2 c3 c5 c7 c6 d0 d1 d2 d3 d4 d5 d7 hle l0 l1
      cases last with
      | false =>
        have h3 := h2.set h2.lone 5 (.bool true) { m with writes := wn, left := l, off := true } rfl rfl
        have o3 := Dk.Only.setCell (F := fun k => k = d) o2 (p := ⟨d, 5, none⟩) (.inl rfl) (.bool true)
        clear hdo
        go_enter Tryz.func62, Tryz.ntmps62
        go_wp2_with fail
        go_ret
        have hl0 := HL0.out
        subst hl0
        exact ⟨rfl, _, ⟨b, L, h3, rfl⟩, o3.wide fun k _ hk => hfoot k hk, fun k hk => .inl hk⟩
      | true =>
        have hc := hdo W2 _ h2 rfl rfl o2
        clear hdo
        go_enter Tryz.func62, Tryz.ntmps62
        go_wp2_with (refine hc.mono ?_; rintro e w2 ⟨rfl, hM⟩; obtain ⟨F', ⟨b', L', h3, rfl⟩, o3, f3⟩ := hM.after o2; obtain ⟨_, _, _, _, _, t5, _, _⟩ := h3.eight; have t6 := h3.disk.frozen 5)
        go_ret
        have h4 := h3.set h3.lone 5 (.bool true) { m with writes := wn, left := l, off := true, files := fs } rfl rfl
        have hl0 := HL0.out
        subst hl0
        exact ⟨rfl, _, ⟨b', L', h4, rfl⟩, o3.setCell (.inl (.inl rfl)) _, f3⟩
end Go.Proofs.YtifkhjihgnnpfaaGreatDoor
