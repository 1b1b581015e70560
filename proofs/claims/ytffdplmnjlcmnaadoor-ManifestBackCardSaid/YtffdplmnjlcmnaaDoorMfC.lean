/- Manifests: contract of the document's run. Conditions: each theorem's own hypotheses. -/
import Derived.Test.YtffdplmnjlcmnaaDoorMfB
namespace Go.Proofs.YtffdplmnjlcmnaaDoor
open Go.RowKit Go.Maps
set_option linter.unusedVariables false

/-- None of the first j runs has this number. -/
def Mf.NoneTo (M : Man) (j : Nat) (x : Int) : Prop := ∀ i s, i < j → M.runs[i]? = some s → s.num ≠ x
theorem Mf.used_iff (M : Man) (k : Nat) (x : Int) : (Mf.used M k).contains x = false ↔ x ≠ M.jr ∧ Mf.NoneTo M k x := by
  unfold Mf.used
  rw [List.contains_cons, Bool.or_eq_false_iff, beq_eq_false_iff_ne]
  refine and_congr Iff.rfl ?_
  rw [← Bool.not_eq_true, List.contains_iff_mem]
  constructor
  · intro h i s hi hs e
    apply h
    rw [List.mem_map]
    exact ⟨s, List.mem_iff_getElem?.2 ⟨i, by rw [List.getElem?_take, if_pos hi]; exact hs⟩, e⟩
  · intro h hm
    obtain ⟨s, hs, e⟩ := List.mem_map.1 hm
    obtain ⟨i, hi⟩ := List.mem_iff_getElem?.1 hs
    rw [List.getElem?_take] at hi
    by_cases hlt : i < k
    · rw [if_pos hlt] at hi; exact h i s hlt hi e
    · rw [if_neg hlt] at hi; cases hi

theorem Mf.bad' {p : Prop} {R : Bool} (h : p ↔ R = true) (hn : ¬ p) : R = false := by
  cases R with
  | false => rfl
  | true => exact absurd (h.2 rfl) hn

/-- The document's look at what is ahead. -/
def RunRel (M : Man) (A : Option Addr) (cap k : Nat) (r : Run) (w : World) (l i : Value) (wr : World) : Prop :=
  ∃ j : Nat, j ≤ k ∧ i = .int .i64 j ∧ l = .int .i64 (Mf.last M j) ∧ Mf.NoneTo M j r.num ∧
    Blk wr w.heap.size 26 #[.int .i64 M.w, .int .i64 M.c, .int .i64 M.m, .int .i64 M.seq, .int .i64 M.next, .int .i64 M.jr, .slice A M.runs.length cap] ∧
    Blk wr (w.heap.size + 1) 38 #[.int .i64 r.num, .int .i64 r.lo, .int .i64 r.hi, .int .i64 r.cnt] ∧ Below w.heap.size w wr

set_option maxRecDepth 100000 in
set_option maxHeartbeats 2000000 in
theorem refRun_any (M : Man) (A : Option Addr) (cap : Nat) (w : World) (HR : Rs w w.heap.size A M.runs) (hl : M.runs.length ≤ 24) (k : Nat) (r : Run) (hk : k < M.runs.length) (hj : M.runs[k]? = some r) (R : Bool) (hR : Mf.OkAt M k r ↔ R = true) :
    Calls Tryd.prog 53 #[manV M A cap, .int .i64 k] w fun e w' => e = .returned (.bool R) ∧ Below w.heap.size w w' := by
  have HRR := Lib.hid hR
  obtain ⟨b, off, r', rfl, hbb, hj', e0, e1, e2, e3⟩ := HR.at_ hk
  obtain rfl := Option.some.inj (hj'.symm.trans hj)
  have HJ := Lib.hid hj
  clear hR hj hj'
  unfold manV
  go_enter Tryd.func53, Tryd.ntmps53
  go_wp2_with fail
  go_loopw [6, 7] (fun l i wr => RunRel M (some ⟨b, off, none⟩) cap k r' w l i wr) (fun _ i _ => k - (intOf i).toNat)
  case atStart =>
    refine ⟨0, Nat.zero_le _, rfl, rfl, fun i s hi => by omega, (Blk.new w _ _).alloc _, ?_, ((Below.refl _ _).alloc (Nat.le_refl _) _).alloc (by simp) _⟩
    have h := Blk.new (w.alloc (.cells #[.int .i64 M.w, .int .i64 M.c, .int .i64 M.m, .int .i64 M.seq, .int .i64 M.next, .int .i64 M.jr, .slice (some ⟨b, off, none⟩) M.runs.length cap] 26)) 38 #[.int .i64 r'.num, .int .i64 r'.lo, .int .i64 r'.hi, .int .i64 r'.cnt]
    rw [World.size_alloc] at h
    exact h
  case round =>
    obtain ⟨j, hjk, rfl, rfl, hno, hb0, hb1, hB⟩ := hrel
    have HNO := Lib.hid hno
    clear hno
    have m1 : wr.cell? ⟨w.heap.size, 3, none⟩ = some (.int .i64 M.seq) := hb0.cell 3
    have m2 : wr.cell? ⟨w.heap.size, 4, none⟩ = some (.int .i64 M.next) := hb0.cell 4
    have m3 : wr.cell? ⟨w.heap.size, 5, none⟩ = some (.int .i64 M.jr) := hb0.cell 5
    have m4 : wr.cell? ⟨w.heap.size, 6, none⟩ = some (.slice (some ⟨b, off, none⟩) M.runs.length cap) := hb0.cell 6
    have r0 : wr.cell? ⟨w.heap.size + 1, 0, none⟩ = some (.int .i64 r'.num) := hb1.cell 0
    have r1 : wr.cell? ⟨w.heap.size + 1, 1, none⟩ = some (.int .i64 r'.lo) := hb1.cell 1
    have r2 : wr.cell? ⟨w.heap.size + 1, 2, none⟩ = some (.int .i64 r'.hi) := hb1.cell 2
    have r3 : wr.cell? ⟨w.heap.size + 1, 3, none⟩ = some (.int .i64 r'.cnt) := hb1.cell 3
    by_cases hlt : j < k
    · obtain ⟨b', off', s, hA, hbb', hs, f0, f1, f2, f3⟩ := (HR.below hB).at_ (k := j) (by omega)
      injection hA with hA
      injection hA with q1 q2
      subst q1 q2
      have HS := Lib.hid hs
      clear hs
      obtain ⟨L, hL⟩ : ∃ L, Mf.last M j = L := ⟨_, rfl⟩
      rw [hL]
      clear hL
      have hj0 : (0 : Int) ≤ (j : Int) := by omega
      have hj1 : (j : Int) < (M.runs.length : Int) := by omega
      go_wp2_with fail
      go_quiet (fail)
      all_goals go_wp2_with fail
      · have hq : (s.num == r'.num) = true := by assumption
        have hr : R = false := Mf.bad' HRR.out fun h => ((Mf.used_iff M k r'.num).1 h.1).2 j s hlt HS.out (beq_iff_eq.1 hq)
        go_ret
        exact ⟨congrArg (fun z : Bool => Ending.returned (Value.bool z)) hr.symm, below_dn hB _⟩
      · have hq : (s.num == r'.num) = false := by assumption
        go_roundw
        case rel =>
          refine ⟨j + 1, by omega, by go_num, ?_, ?_, hb0, hb1, below_dn hB _⟩
          · simp [Mf.last, HS.out]
          · intro i x hi hx
            by_cases e : i = j
            · subst e
              obtain rfl := Option.some.inj (HS.out.symm.trans hx)
              exact beq_eq_false_iff_ne.1 hq
            · exact HNO.out i x (by omega) hx
        case measure => simp [intOf]; omega
    · obtain rfl : j = k := by omega
      obtain ⟨L, hL⟩ : ∃ L, Mf.last M j = L := ⟨_, rfl⟩
      rw [hL]
      have HL := Lib.hid hL
      clear hL
      have ho : Mf.OkAt M j r' ↔ (r'.num ≠ M.jr ∧ 1 ≤ r'.num ∧ r'.num < M.next ∧ 1 ≤ r'.cnt ∧ r'.cnt ≤ 2097152 ∧ L ≤ r'.lo ∧ r'.lo < r'.hi ∧ r'.hi ≤ M.seq) := by
        unfold Mf.OkAt Mf.inB
        rw [Mf.used_iff, HL.out, decide_eq_true_eq, decide_eq_true_eq]
        constructor
        · rintro ⟨⟨a, _⟩, b, c, d, e, f⟩; exact ⟨a, by omega, by omega, by omega, by omega, d, e, f⟩
        · rintro ⟨a, b, c, d, e, f, g, i⟩; exact ⟨⟨a, HNO.out⟩, by omega, by omega, f, g, i⟩
      have HO := Lib.hid (ho.symm.trans HRR.out)
      clear ho
      go_wp2_with fail
      all_goals
        go_ret
        refine ⟨congrArg (fun z : Bool => Ending.returned (Value.bool z)) ?_, hB⟩
        go_light
        have ho := HO.out
        try simp only [beq_iff_eq, beq_eq_false_iff_ne, ne_eq] at *
        rw [Bool.eq_iff_iff, ← ho]
        simp
        try omega
end Go.Proofs.YtffdplmnjlcmnaaDoor
