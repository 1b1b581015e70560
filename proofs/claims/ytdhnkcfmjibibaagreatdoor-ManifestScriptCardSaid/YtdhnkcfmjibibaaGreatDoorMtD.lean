/- The law's helper others: a step of the disk, on both. Conditions: each theorem's own hypotheses. -/
import Derived.Test.YtdhnkcfmjibibaaGreatDoorMtC
namespace Go.Proofs.YtdhnkcfmjibibaaGreatDoor
open Go.RowKit Go.Maps
set_option linter.unusedVariables false

def Mt.Op.arr (t : Mt.Op) : Array Value := #[.int .i64 t.kind, .int .i64 t.M.w, .int .i64 t.M.c, .int .i64 t.M.m, .int .i64 t.M.seq, .int .i64 t.M.next, .int .i64 t.M.jr, .slice t.A t.M.runs.length t.cp, .int .i64 t.n, .bool t.dn, t.cv, .string t.name, .string t.b]
set_option maxRecDepth 100000 in
set_option maxHeartbeats 4000000 in
theorem Mt.others_any {d r : Nat} {W0 w : World} {m m' : Dk.M} {K : List (Nat × Obj)} (h : Dp.Duo W0.heap.size W0 w d m r m' K) (hl : Dp.Like m m') (t : Mt.Op) (hf : Mt.OpFit W0 t) :
    ∃ M1 M2, Dp.Like M1 M2 ∧ Calls Tryz.prog 14 #[.pointer (some ⟨d, 0, none⟩), .pointer (some ⟨r, 0, none⟩), .agg (Mt.Op.arr t)] w fun e W' => e = .returned (.tuple #[]) ∧ Dp.Duo W0.heap.size W0 W' d M1 r M2 K := by
  have D0 := h.push (.cells (Mt.Op.arr t) 34)
  obtain ⟨f1, f2, f3, f4, f5, f6, f7, f8, f9, _⟩ := hf
  have hcts := fun {w1 m1 m2 L} (D : Dp.Duo W0.heap.size W0 w1 d m1 r m2 L) => f5.keep D.below.size D.below.block
  have hcv := f5.form
  obtain ⟨k, M, A, cp, n, dn, cv, cuts, name, b⟩ := t
  simp only at f1 f2 f3 f4 f5 f6 f7 f8 f9 hcts hcv
  obtain ⟨ca, cc, rfl⟩ := hcv
  unfold Mt.Op.arr at D0 ⊢
  simp only at D0 ⊢
  obtain ⟨cl, hcl⟩ : ∃ cl, cuts.length = cl := ⟨_, rfl⟩
  obtain ⟨rl, hrl⟩ : ∃ rl, M.runs.length = rl := ⟨_, rfl⟩
  rw [hcl] at hcts
  rw [hcl, hrl] at D0 ⊢
  obtain ⟨ob, hob⟩ : ∃ ob : Obj, (.cells #[.int .i64 k, .int .i64 M.w, .int .i64 M.c, .int .i64 M.m, .int .i64 M.seq, .int .i64 M.next, .int .i64 M.jr, .slice A rl cp, .int .i64 n, .bool dn, .slice ca cl cc, .string name, .string b] 34 : Obj) = ob := ⟨_, rfl⟩
  have hbx : ∀ {w1 m1 m2}, Dp.Duo W0.heap.size W0 w1 d m1 r m2 (K ++ [(w.heap.size, ob)]) → w1.cell? ⟨w.heap.size, 0, none⟩ = some (.int .i64 k) ∧ w1.cell? ⟨w.heap.size, 8, none⟩ = some (.int .i64 n) ∧ w1.cell? ⟨w.heap.size, 9, none⟩ = some (.bool dn) ∧ w1.cell? ⟨w.heap.size, 10, none⟩ = some (.slice ca cl cc) ∧ w1.cell? ⟨w.heap.size, 11, none⟩ = some (.string name) ∧ w1.cell? ⟨w.heap.size, 12, none⟩ = some (.string b) := fun D => by
    have hb : Blk _ w.heap.size 34 #[.int .i64 k, .int .i64 M.w, .int .i64 M.c, .int .i64 M.m, .int .i64 M.seq, .int .i64 M.next, .int .i64 M.jr, .slice A rl cp, .int .i64 n, .bool dn, .slice ca cl cc, .string name, .string b] := (D.blk (List.mem_append_right _ (List.mem_singleton.2 rfl))).trans (by rw [← hob])
    exact ⟨hb.cell 0, hb.cell 8, hb.cell 9, hb.cell 10, hb.cell 11, hb.cell 12⟩
  rw [hob] at D0
  have hsub : ∀ {w1 m1 m2}, Dp.Duo W0.heap.size W0 w1 d m1 r m2 (K ++ [(w.heap.size, ob)]) → Dp.Duo W0.heap.size W0 w1 d m1 r m2 K := fun D => D.sub fun p hp => List.mem_append_left _ hp
  have n1 : name.size ≤ 9223372036854775807 := by omega
  have n2 : b.size ≤ 9223372036854775807 := by omega
  obtain ⟨q1, q2, q3, q4, q5, q6, q7, _⟩ := Dp.like_ops hl
  by_cases e3 : k = 3
  · subst e3
    have k1 := D0.call1 (Dk.arm_good D0.good1 n f4.2 dn) fun F hA hG => (Dk.arm_any hA n f4 dn).mono fun e W' ⟨a, b, c⟩ => ⟨a, F, b, c, fun k hk => .inl hk⟩
    have k2 := fun {w1 m1} (D : Dp.Duo W0.heap.size W0 w1 d m1 r m' (K ++ [(w.heap.size, ob)])) => D.call2 (Dk.arm_good D.good2 n f4.2 dn) fun F hA hG => (Dr.arm_any hA n f4 dn).mono fun e W' ⟨a, b, c⟩ => ⟨a, F, b, c, fun k hk => .inl hk⟩
    refine ⟨_, _, q7 n dn, ?_⟩
    generalize Dk.arm m n dn = M1 at k1 ⊢
    generalize Dk.arm m' n dn = M2 at k2 ⊢
    obtain ⟨y0, y8, y9, _⟩ := hbx D0
    clear q1 q2 q3 q4 q5 q6 q7 f1 f2 f3 f4 f5 f6 f7 hcts hl h D0
    go_enter Tryz.func14, Tryz.ntmps14
    go_wp2_with (first
      | (go_at_call 42; refine k1.mono ?_; clear k1; rintro e w1 ⟨rfl, D1⟩; obtain ⟨x0, x8, x9, _⟩ := hbx D1; have k3 := k2 D1; clear k2)
      | (go_at_call 43; refine k3.mono ?_; clear k3; rintro e w2 ⟨rfl, D2⟩))
    go_end0
    exact ⟨rfl, hsub D2⟩
  by_cases e4 : k = 4
  · subst e4
    have k1 := D0.call1 (Dk.crash_good D0.good1 cuts) fun F hA hG => Dk.crash_any hA hG (hcts D0) (by omega) fun c hc => Nat.le_trans (f7 c hc) (by decide)
    have k2 := fun {w1 m1} (D : Dp.Duo W0.heap.size W0 w1 d m1 r m' (K ++ [(w.heap.size, ob)])) => D.call2 (Dr.crash_good D.good2 cuts) fun F hA hG => Dr.crash_any hA hG (hcts D) (by omega)
    refine ⟨_, _, Dp.like_crash hl cuts, ?_⟩
    generalize Dk.crash m cuts = M1 at k1 ⊢
    generalize Dr.crash m' cuts = M2 at k2 ⊢
    obtain ⟨y0, _, _, y10, _⟩ := hbx D0
    clear q1 q2 q3 q4 q5 q6 q7 f1 f2 f3 f4 f5 f6 f7 hcts hl h D0 hcl
    go_enter Tryz.func14, Tryz.ntmps14
    go_wp2_with (first
      | (go_at_call 44; refine k1.mono ?_; clear k1; rintro e w1 ⟨rfl, D1⟩; obtain ⟨x0, _, _, x10, _⟩ := hbx D1; have k3 := k2 D1; clear k2)
      | (go_at_call 45; refine k3.mono ?_; clear k3; rintro e w2 ⟨rfl, D2⟩))
    go_end0
    exact ⟨rfl, hsub D2⟩
  by_cases e56 : k = 5 ∨ k = 6
  · obtain ⟨l1, z1⟩ := q6 name.data.toList
    have k1 := D0.call1 (Dk.delete_good D0.good1 name.data.toList) fun F hA hG => Dk.delete_any hA hG name n1
    have k2 := fun {w1 m1} (D : Dp.Duo W0.heap.size W0 w1 d m1 r m' (K ++ [(w.heap.size, ob)])) => D.call2 (Dk.delete_good D.good2 name.data.toList) fun F hA hG => Dr.delete_any hA hG name n1
    generalize (Dk.delete m name.data.toList).2 = c1 at k1
    generalize (Dk.delete m' name.data.toList).2 = c2 at k2
    generalize (Dk.delete m name.data.toList).1 = M1 at k1 l1
    generalize (Dk.delete m' name.data.toList).1 = M2 at k2 l1
    obtain ⟨y0, _, _, _, y11, y12⟩ := hbx D0
    rcases e56 with rfl | rfl
    · clear q1 q2 q3 q4 q5 q6 q7
      obtain ⟨q1, _⟩ := Dp.like_ops l1
      obtain ⟨l2, z2⟩ := q1 name.data.toList
      have k3 := fun {w1} (D : Dp.Duo W0.heap.size W0 w1 d M1 r M2 (K ++ [(w.heap.size, ob)])) => D.call1 (Dk.create_good D.good1 name.data.toList) fun F hA hG => Dk.create_any hA hG name n1
      have k4 := fun {w1 m1} (D : Dp.Duo W0.heap.size W0 w1 d m1 r M2 (K ++ [(w.heap.size, ob)])) => D.call2 (Dk.create_good D.good2 name.data.toList) fun F hA hG => Dr.create_any hA hG name n1
      generalize (Dk.create M1 name.data.toList).2 = c3 at k3
      generalize (Dk.create M2 name.data.toList).2 = c4 at k4
      generalize (Dk.create M1 name.data.toList).1 = M3 at k3 l2
      generalize (Dk.create M2 name.data.toList).1 = M4 at k4 l2
      obtain ⟨_, q2, _⟩ := Dp.like_ops l2
      obtain ⟨l3, z3⟩ := q2 name.data.toList b.data.toList
      have k5 := fun {w1} (D : Dp.Duo W0.heap.size W0 w1 d M3 r M4 (K ++ [(w.heap.size, ob)])) => D.call1 (Dk.append_good D.good1 name.data.toList b.data.toList) fun F hA hG => Dk.append_any hA hG name b n1 n2
      have k6 := fun {w1 m1} (D : Dp.Duo W0.heap.size W0 w1 d m1 r M4 (K ++ [(w.heap.size, ob)])) => D.call2 (Dk.append_good D.good2 name.data.toList b.data.toList) fun F hA hG => Dr.append_any hA hG name b n1 f9
      refine ⟨_, _, l3, ?_⟩
      generalize (Dk.append M3 name.data.toList b.data.toList).2 = c5 at k5
      generalize (Dk.append M4 name.data.toList b.data.toList).2 = c6 at k6
      generalize (Dk.append M3 name.data.toList b.data.toList).1 = M5 at k5 ⊢
      generalize (Dk.append M4 name.data.toList b.data.toList).1 = M6 at k6 ⊢
      clear l1 l2 l3 z1 z2 z3 q1 q2 f1 f2 f3 f4 f5 f6 f7 f8 f9 hcts hl h D0 hcl e3 e4 n1 n2
      go_enter Tryz.func14, Tryz.ntmps14
      go_wp2_with (first
        | (go_at_call 26; refine k1.mono ?_; clear k1; rintro e w1 ⟨rfl, D1⟩; obtain ⟨x0, _, _, _, x11, x12⟩ := hbx D1; have j2 := k2 D1; clear k2)
        | (go_at_call 33; refine j2.mono ?_; clear j2; rintro e w2 ⟨rfl, D2⟩; obtain ⟨v0, _, _, _, v11, v12⟩ := hbx D2; have j3 := k3 D2; clear k3)
        | (go_at_call 27; refine j3.mono ?_; clear j3; rintro e w3 ⟨rfl, D3⟩; obtain ⟨_, _, _, _, t11, t12⟩ := hbx D3; have j4 := k4 D3; clear k4)
        | (go_at_call 34; refine j4.mono ?_; clear j4; rintro e w4 ⟨rfl, D4⟩; obtain ⟨_, _, _, _, s11, s12⟩ := hbx D4; have j5 := k5 D4; clear k5)
        | (go_at_call 28; refine j5.mono ?_; clear j5; rintro e w5 ⟨rfl, D5⟩; obtain ⟨_, _, _, _, r11, r12⟩ := hbx D5; have j6 := k6 D5; clear k6)
        | (go_at_call 35; refine j6.mono ?_; clear j6; rintro e w6 ⟨rfl, D6⟩))
      go_end0
      exact ⟨rfl, hsub D6⟩
    · refine ⟨_, _, l1, ?_⟩
      clear l1 z1 q1 q2 q3 q4 q5 q6 q7 f1 f2 f3 f4 f5 f6 f7 f8 f9 hcts hl h D0 hcl e3 e4 n1 n2
      go_enter Tryz.func14, Tryz.ntmps14
      go_wp2_with (first
        | (go_at_call 26; refine k1.mono ?_; clear k1; rintro e w1 ⟨rfl, D1⟩; obtain ⟨x0, _, _, _, x11, x12⟩ := hbx D1; have j2 := k2 D1; clear k2)
        | (go_at_call 33; refine j2.mono ?_; clear j2; rintro e w2 ⟨rfl, D2⟩; obtain ⟨v0, _, _, _, v11, v12⟩ := hbx D2))
      go_end0
      exact ⟨rfl, hsub D2⟩
  · refine ⟨m, m', hl, ?_⟩
    have t3 : (k == 3) = false := beq_eq_false_iff_ne.2 e3
    have t4 : (k == 4) = false := beq_eq_false_iff_ne.2 e4
    have t5 : (k == 5) = false := beq_eq_false_iff_ne.2 fun e => e56 (.inl e)
    have t6 : (k == 6) = false := beq_eq_false_iff_ne.2 fun e => e56 (.inr e)
    obtain ⟨y0, _⟩ := hbx D0
    have D1 := hsub D0
    rw [← hob] at D1 y0
    clear q1 q2 q3 q4 q5 q6 q7 f1 f2 f3 f4 f5 f6 f7 f8 f9 hcts hl h D0 hcl e3 e4 e56 n1 n2 hbx hsub hob
    go_enter Tryz.func14, Tryz.ntmps14
    go_wp2_with fail
    go_end0
    exact ⟨rfl, D1⟩
end Go.Proofs.YtdhnkcfmjibibaaGreatDoor
