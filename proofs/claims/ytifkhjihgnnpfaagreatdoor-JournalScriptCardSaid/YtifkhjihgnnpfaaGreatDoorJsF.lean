/- The law's helper asks: a step of the journals, on both. Conditions: each theorem's own hypotheses. -/
import Derived.Test.YtifkhjihgnnpfaaGreatDoorJsE
namespace Go.Proofs.YtifkhjihgnnpfaaGreatDoor
open Go.RowKit
set_option linter.unusedVariables false

theorem Js.write_len (q k i : Int) (c : List UInt8) : (Jn.write q k i c).1.length ≤ 140737488355328 := by
  unfold Jn.write
  split
  · decide
  split
  · decide
  rename_i h2
  split
  · decide
  split
  · decide
  · rename_i h4
    unfold Jn.codeBad at h4
    have e1 := Jl.putVar_len q.toNat
    have e2 := Jl.putVar_len i.toNat
    show (Sl.frame _ _).length ≤ _
    rw [Sl.frame_len, List.length_append, List.length_append]
    omega
def Js.Op.arr (t : Js.Op) : Array Value := #[.int .i64 t.kind, .int .i64 t.n, .int .i64 t.m, .int .i64 t.w, .int .i64 t.q, .int .i64 t.k, .int .i64 t.i, .string t.c, .string t.b, .bool t.dn, t.cv]
theorem Js.num_r (e : Int) (w : World) : Calls Tryz.prog 23 #[.int .i64 e] w fun r w' => r = .returned (.int .i64 e) ∧ w = w' := Jl.num_any e w
section
variable {d r bb j rj : Nat} {W0 w w' : World} {m m' : Dk.M} {J : Jl.Js} {n N : Int}
/-- The bench behind a call that wrote the program's journal and disk, the document's then. -/
theorem Js.Be.turn {K : Nat → Prop} {y : World} {M1 M2 : Dk.M} {J1 : Jl.Js} (h : Js.Be W0 w d r bb m m' (some (j, rj, J, n)) N) (hK : ∀ k, Js.KO bb (some (j, rj, J, n)) k → K k) (T : Mt.Two W0.heap.size W0 y d M1 r M2 K)
    (hb : y.heap[bb]? = w.heap[bb]?) (p1 : Blk y j 79 (J1.cells d)) (p2 : Blk y rj 81 (Js.rc r J1 n)) (hF : Js.Fine J1 n) : Js.Be W0 y d r bb M1 M2 (some (j, rj, J1, n)) N := by
  obtain ⟨h1, h2, h3, h4, h5, h6⟩ := h.js j rj J n rfl
  refine ⟨T.sub fun k hk => hK k ?_, hb.trans h.blk, fun j' rj' J' n' e => ?_⟩
  · rcases hk with rfl | ⟨j', rj', J', n', e, hk⟩
    · exact .inl rfl
    · obtain ⟨rfl, rfl, rfl, rfl⟩ : j = j' ∧ rj = rj' ∧ J1 = J' ∧ n = n' := by simpa using e
      exact .inr ⟨j, rj, J, n, rfl, hk⟩
  · obtain ⟨rfl, rfl, rfl, rfl⟩ : j = j' ∧ rj = rj' ∧ J1 = J' ∧ n = n' := by simpa using e
    exact ⟨p1, p2, h3, h4, h5, hF⟩
set_option maxRecDepth 100000 in
set_option maxHeartbeats 8000000 in
theorem Js.asks_any (h : Js.Be W0 w d r bb m m' (some (j, rj, J, n)) N) (hl : Dp.Like m m') (t : Js.Op) (hf : Js.OpFit W0 t) (hT : ∀ {w : World}, Below W0.heap.size W0 w → TabS w) (hP : ∀ {w : World}, Below W0.heap.size W0 w → PowT w) :
    Calls Tryz.prog 8 #[.pointer (some ⟨bb, 0, none⟩), .agg (Js.Op.arr t)] w fun e w' => e = .returned (.bool true) ∧ ∃ M1 M2 J', Hid (Dp.Like M1 M2) ∧ Js.Be W0 w' d r bb M1 M2 (some (j, rj, J', n)) N := by
  obtain ⟨hJ, hR, n1, n2, n3, hFi⟩ := h.js j rj J n rfl
  obtain ⟨K, hK, T, kx, hA⟩ := h.two.block_step (.cells (Js.Op.arr t) 36)
  obtain ⟨x, hx⟩ : ∃ x, w.alloc (.cells (Js.Op.arr t) 36) = x := ⟨_, rfl⟩
  have PX : Blk x w.heap.size 36 (Js.Op.arr t) := by rw [← hx]; exact Blk.new _ _ _
  rw [hx] at T hA
  have PB : Blk x bb 31 #[.pointer (some ⟨d, 0, none⟩), .pointer (some ⟨r, 0, none⟩), .pointer (some ⟨j, 0, none⟩), .pointer (some ⟨rj, 0, none⟩), .int .i64 N] := (hA.block _ h.blk.lt).trans h.blk
  have PJ : Blk x j 79 (J.cells d) := (hA.block _ hJ.lt).trans hJ
  have PR : Blk x rj 81 (Js.rc r J n) := (hA.block _ hR.lt).trans hR
  have nx1 : w.heap.size ≠ j := fun e => by have := hJ.lt; omega
  have nx2 : w.heap.size ≠ rj := fun e => by have := hR.lt; omega
  have nx3 : bb ≠ w.heap.size := fun e => by have := h.blk.lt; omega
  have kb : K bb := hK _ (.inl rfl)
  have kj : K j := hK _ (.inr ⟨_, _, _, _, rfl, .inl rfl⟩)
  have kr : K rj := hK _ (.inr ⟨_, _, _, _, rfl, .inr rfl⟩)
  have hbw : x.heap[bb]? = w.heap[bb]? := hA.block _ h.blk.lt
  have fin := fun {y : World} {M1 M2 : Dk.M} {J1 : Jl.Js} (T : Mt.Two W0.heap.size W0 y d M1 r M2 K) (hb : y.heap[bb]? = x.heap[bb]?) (p1 : Blk y j 79 (J1.cells d)) (p2 : Blk y rj 81 (Js.rc r J1 n)) (hF : Js.Fine J1 n) => h.turn hK T (hb.trans hbw) p1 p2 hF
  obtain ⟨l, hJl, hwb⟩ := hFi.l
  have hnb := hFi.nb
  have hns := (Jl.name_is n J.nb hnb).2
  obtain ⟨kd, on, om, ow, q, k, i, c, b, dn, cv, cuts⟩ := t
  have hc : c.size ≤ 9223372036854775807 := by have := hf.c; simp only at this; omega
  have hcf := hf.cuts.form
  simp only at hcf
  obtain ⟨ca, cc, rfl⟩ := hcf
  unfold Js.Op.arr at hx PX ⊢
  simp only at hx PX ⊢
  generalize cuts.length = cl at hx PX ⊢
  obtain ⟨x0, x4, x5, x6, x7⟩ : x.cell? ⟨w.heap.size, 0, none⟩ = some (.int .i64 kd) ∧ x.cell? ⟨w.heap.size, 4, none⟩ = some (.int .i64 q) ∧ x.cell? ⟨w.heap.size, 5, none⟩ = some (.int .i64 k) ∧ x.cell? ⟨w.heap.size, 6, none⟩ = some (.int .i64 i) ∧ x.cell? ⟨w.heap.size, 7, none⟩ = some (.string c) := ⟨PX.cell 0, PX.cell 4, PX.cell 5, PX.cell 6, PX.cell 7⟩
  by_cases k3 : kd = 3
  · subst k3
    obtain ⟨⟨m1, J1, c1⟩, e1⟩ : ∃ z, Jl.app m J l q k i c.data.toList = z := ⟨_, rfl⟩
    obtain ⟨⟨m2, J2, c2⟩, e2⟩ : ∃ z, Jl.app m' J l q k i c.data.toList = z := ⟨_, rfl⟩
    have hlk := Js.like_app hl J l q k i c.data.toList
    rw [e1, e2] at hlk
    obtain ⟨hlk, hlk2⟩ := hlk
    obtain ⟨rfl, rfl⟩ : J1 = J2 ∧ c1 = c2 := by simpa using hlk2
    have hF1 : Js.Fine J1 n := by have := hFi.app m l q k i c.data.toList; rwa [e1] at this
    have ka := fun {y : World} (T : Mt.Two W0.heap.size W0 y d m r m' K) (p : Blk y j 79 (J.cells d)) => Js.append1 (n := n) T p kj hT hJl hwb hFi.last hns hc (Js.write_len _ _ _ _) e1
    have kc := fun {y : World} (T : Mt.Two W0.heap.size W0 y d m1 r m' K) (p : Blk y rj 81 (Js.rc r J n)) => Js.append2 T p kr hP hnb hJl hwb hFi.last hc (Js.write_len _ _ _ _) e2
    have HL := Lib.hid hlk
    have ucc : (c1 == c1) = true := by simp
    clear hf h hJ hR hA hK e1 e2 hlk hlk2 hT hP hbw hFi hwb hnb hns hc hl
    go_enter Tryz.func8, Tryz.ntmps8
    go_upto_region 3 with fail
    have T1 := T.later (below_dn (Below.refl _ _) 1)
    rw [show x.drewN 1 = x.drew from rfl] at T1
    have PX1 : Blk x.drew w.heap.size 36 _ := PX
    have PB1 : Blk x.drew bb 31 _ := PB
    have PJ1 : Blk x.drew j 79 (J.cells d) := PJ
    have PR1 : Blk x.drew rj 81 (Js.rc r J n) := PR
    have S1 : x.drew.cell? ⟨bb, 2, none⟩ = some (.pointer (some ⟨j, 0, none⟩)) ∧ x.drew.cell? ⟨w.heap.size, 4, none⟩ = some (.int .i64 q) ∧ x.drew.cell? ⟨w.heap.size, 5, none⟩ = some (.int .i64 k) ∧ x.drew.cell? ⟨w.heap.size, 6, none⟩ = some (.int .i64 i) ∧ x.drew.cell? ⟨w.heap.size, 7, none⟩ = some (.string c) := ⟨PB1.cell 2, PX1.cell 4, PX1.cell 5, PX1.cell 6, PX1.cell 7⟩
    have ka1 := ka T1 PJ1
    clear ka x0 x4 x5 x6 x7 T PJ
    go_region_held3 (fun W' => W'.cell? ⟨bb, 2, none⟩ = some (.pointer (some ⟨j, 0, none⟩)) ∧ W'.cell? ⟨w.heap.size, 4, none⟩ = some (.int .i64 q) ∧ W'.cell? ⟨w.heap.size, 5, none⟩ = some (.int .i64 k) ∧ W'.cell? ⟨w.heap.size, 6, none⟩ = some (.int .i64 i) ∧ W'.cell? ⟨w.heap.size, 7, none⟩ = some (.string c))
      (first
        | with_reducible assumption)
      (first
        | (go_at_call 41; refine ka1.mono ?_; clear ka1; rintro e y ⟨rfl, ⟨T2, PJ2⟩, q2⟩; have PX2 : Blk y w.heap.size 36 _ := (q2.2 _ kx nx1).trans PX1; have PB2 : Blk y bb 31 _ := (q2.2 _ kb n1).trans PB1; have PR2 : Blk y rj 81 (Js.rc r J n) := (q2.2 _ kr n3.symm).trans PR1; have S2 : y.cell? ⟨bb, 2, none⟩ = some (.pointer (some ⟨j, 0, none⟩)) ∧ y.cell? ⟨w.heap.size, 4, none⟩ = some (.int .i64 q) ∧ y.cell? ⟨w.heap.size, 5, none⟩ = some (.int .i64 k) ∧ y.cell? ⟨w.heap.size, 6, none⟩ = some (.int .i64 i) ∧ y.cell? ⟨w.heap.size, 7, none⟩ = some (.string c) := ⟨PB2.cell 2, PX2.cell 4, PX2.cell 5, PX2.cell 6, PX2.cell 7⟩))
    all_goals
      go_upto_region 4 with fail
      have T3 := T2.later (below_dn (Below.refl _ _) 1)
      rw [show y.drewN 1 = y.drew from rfl] at T3
      have PX3 : Blk y.drew w.heap.size 36 _ := PX2
      have PB3 : Blk y.drew bb 31 _ := PB2
      have PJ3 : Blk y.drew j 79 (J1.cells d) := PJ2
      have PR3 : Blk y.drew rj 81 (Js.rc r J n) := PR2
      have S3 : y.drew.cell? ⟨bb, 3, none⟩ = some (.pointer (some ⟨rj, 0, none⟩)) ∧ y.drew.cell? ⟨w.heap.size, 4, none⟩ = some (.int .i64 q) ∧ y.drew.cell? ⟨w.heap.size, 5, none⟩ = some (.int .i64 k) ∧ y.drew.cell? ⟨w.heap.size, 6, none⟩ = some (.int .i64 i) ∧ y.drew.cell? ⟨w.heap.size, 7, none⟩ = some (.string c) := ⟨PB3.cell 3, PX3.cell 4, PX3.cell 5, PX3.cell 6, PX3.cell 7⟩
      have kc1 := kc T3 PR3
      have hb3 : y.drew.heap[bb]? = x.heap[bb]? := q2.2 _ kb n1
      clear kc S1 S2 T2 PJ2
      go_region_held3 (fun W' => W'.cell? ⟨bb, 3, none⟩ = some (.pointer (some ⟨rj, 0, none⟩)) ∧ W'.cell? ⟨w.heap.size, 4, none⟩ = some (.int .i64 q) ∧ W'.cell? ⟨w.heap.size, 5, none⟩ = some (.int .i64 k) ∧ W'.cell? ⟨w.heap.size, 6, none⟩ = some (.int .i64 i) ∧ W'.cell? ⟨w.heap.size, 7, none⟩ = some (.string c))
        (first
          | with_reducible assumption)
        (first
          | (go_at_call 23; refine (Js.num_r _ _).mono ?_; rintro e w ⟨rfl, rfl⟩)
          | (go_at_call 42; refine kc1.mono ?_; clear kc1; rintro e z ⟨rfl, ⟨T4, PR4⟩, q4⟩; have PX4 : Blk z w.heap.size 36 _ := (q4.2 _ kx nx2).trans PX3; have PB4 : Blk z bb 31 _ := (q4.2 _ kb n2).trans PB3; have PJ4 : Blk z j 79 (J1.cells d) := (q4.2 _ kj n3).trans PJ3; have S4 : z.cell? ⟨bb, 3, none⟩ = some (.pointer (some ⟨rj, 0, none⟩)) ∧ z.cell? ⟨w.heap.size, 4, none⟩ = some (.int .i64 q) ∧ z.cell? ⟨w.heap.size, 5, none⟩ = some (.int .i64 k) ∧ z.cell? ⟨w.heap.size, 6, none⟩ = some (.int .i64 i) ∧ z.cell? ⟨w.heap.size, 7, none⟩ = some (.string c) := ⟨PB4.cell 3, PX4.cell 4, PX4.cell 5, PX4.cell 6, PX4.cell 7⟩))
      all_goals
        go_wp2_with fail
        go_ret
        exact ⟨rfl, m1, m2, J1, HL, fin T4 ((q4.2 _ kb n2).trans hb3) PJ4 PR4 hF1⟩
  by_cases k4 : kd = 4
  · subst k4
    obtain ⟨⟨m1, J1, c1⟩, e1⟩ : ∃ z, Jl.sync m J = z := ⟨_, rfl⟩
    obtain ⟨⟨m2, J2, c2⟩, e2⟩ : ∃ z, Jl.sync m' J = z := ⟨_, rfl⟩
    have hlk := Js.like_sync hl J
    rw [e1, e2] at hlk
    obtain ⟨hlk, hlk2⟩ := hlk
    obtain ⟨rfl, rfl⟩ : J1 = J2 ∧ c1 = c2 := by simpa using hlk2
    have hF1 : Js.Fine J1 n := by have := hFi.sync m; rwa [e1] at this
    have ka := Js.sync1 T PJ kj hns e1
    have kc := fun {y : World} (T : Mt.Two W0.heap.size W0 y d m1 r m' K) (p : Blk y rj 81 (Js.rc r J n)) => Js.sync2 T p kr hP hnb e2
    have HL := Lib.hid hlk
    have ucc : (c1 == c1) = true := by simp
    have cb2 := PB.cell 2
    have cb2' : x.cell? ⟨bb, 2, none⟩ = some (.pointer (some ⟨j, 0, none⟩)) := cb2
    clear hf h hJ hR hA hK e1 e2 hlk hlk2 hT hP hbw hFi hwb hnb hns hc hl cb2 x4 x5 x6 x7
    go_enter Tryz.func8, Tryz.ntmps8
    go_upto_region 7 with (go_at_call 43; refine ka.mono ?_; clear ka; rintro e y ⟨rfl, ⟨T2, PJ2⟩, q2⟩)
    have T3 := T2.later (below_dn (Below.refl _ _) 1)
    rw [show y.drewN 1 = y.drew from rfl] at T3
    have PB3 : Blk y.drew bb 31 _ := (q2.2 _ kb n1).trans PB
    have PJ3 : Blk y.drew j 79 (J1.cells d) := PJ2
    have PR3 : Blk y.drew rj 81 (Js.rc r J n) := (q2.2 _ kr n3.symm).trans PR
    have S3 : y.drew.cell? ⟨bb, 3, none⟩ = some (.pointer (some ⟨rj, 0, none⟩)) ∧ y.drew.cell? ⟨bb, 4, none⟩ = some (.int .i64 N) := ⟨PB3.cell 3, PB3.cell 4⟩
    have kc1 := kc T3 PR3
    have hb3 : y.drew.heap[bb]? = x.heap[bb]? := q2.2 _ kb n1
    clear kc T2 PJ2
    go_region_held3 (fun W' => W'.cell? ⟨bb, 3, none⟩ = some (.pointer (some ⟨rj, 0, none⟩)) ∧ W'.cell? ⟨bb, 4, none⟩ = some (.int .i64 N))
      (first
        | with_reducible assumption)
      (first
        | (go_at_call 23; refine (Js.num_r _ _).mono ?_; rintro e w ⟨rfl, rfl⟩)
        | (go_at_call 44; refine kc1.mono ?_; clear kc1; rintro e z ⟨rfl, ⟨T4, PR4⟩, q4⟩; have PB4 : Blk z bb 31 _ := (q4.2 _ kb n2).trans PB3; have PJ4 : Blk z j 79 (J1.cells d) := (q4.2 _ kj n3).trans PJ3; have S4 : z.cell? ⟨bb, 3, none⟩ = some (.pointer (some ⟨rj, 0, none⟩)) ∧ z.cell? ⟨bb, 4, none⟩ = some (.int .i64 N) := ⟨PB4.cell 3, PB4.cell 4⟩))
    all_goals
      go_wp2_with fail
      go_ret
      exact ⟨rfl, m1, m2, J1, HL, fin T4 ((q4.2 _ kb n2).trans hb3) PJ4 PR4 hF1⟩
  · have u3 : (kd == 3) = false := beq_eq_false_iff_ne.2 k3
    have u4 : (kd == 4) = false := beq_eq_false_iff_ne.2 k4
    have t1 := fun i => Js.tell1 T PJ kj i
    have t2 := fun i => Js.tell2 T PR kr i
    have v1 : (J.last == J.last) = true := by simp
    have v2 : (J.synced == J.synced) = true := by simp
    have cb2 : x.cell? ⟨bb, 2, none⟩ = some (.pointer (some ⟨j, 0, none⟩)) := PB.cell 2
    have cb3 : x.cell? ⟨bb, 3, none⟩ = some (.pointer (some ⟨rj, 0, none⟩)) := PB.cell 3
    have HL := Lib.hid hl
    have fin2 := fun i => fin (T.later (below_dn (Below.refl _ _) i)) rfl PJ PR hFi
    clear hf h hJ hR hA hK hT hP hbw hFi hwb hnb hns hc hl x4 x5 x6 x7 k3 k4 fin
    go_enter Tryz.func8, Tryz.ntmps8
    go_upto_region 8 with fail
    go_quiet (first
      | (go_at_call 9; exact Calls.quiet_of_same (t1 _).1)
      | (go_at_call 10; exact Calls.quiet_of_same (t2 _).1)
      | (go_at_call 11; exact Calls.quiet_of_same (t1 _).2)
      | (go_at_call 12; exact Calls.quiet_of_same (t2 _).2))
    go_wp2_with fail
    go_ret
    exact ⟨rfl, _, _, _, HL, fin2 _⟩
end
end Go.Proofs.YtifkhjihgnnpfaaGreatDoor
