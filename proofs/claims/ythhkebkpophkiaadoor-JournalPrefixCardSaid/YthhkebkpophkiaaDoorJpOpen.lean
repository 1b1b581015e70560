/- An argument that is a list of lives, opened. Conditions: each theorem's own hypotheses. -/
import Derived.Test.YthhkebkpophkiaaDoorJpH
import Derived.Test.YthhkebkpophkiaaDoorJlOpen
namespace Go.Proofs.YthhkebkpophkiaaDoor
open Go.ChangeShapes Go.WideShapes Go.RowKit Go.Deep
set_option linter.unusedVariables false

theorem Jl.cellsRun : Tryd.prog.cellsOf 61 = 5 := by kernel_rfl
theorem Jl.cellsU8 : Tryd.prog.cellsOf 5 = 1 := by kernel_rfl
theorem Jl.cellsUpds : Tryd.prog.cellsOf 32 = 1 := by kernel_rfl
theorem Jl.bytesUpd : Tryd.prog.bytesOf 39 = 40 := by kernel_rfl
theorem Jl.bytesRun : Tryd.prog.bytesOf 61 = 56 := by kernel_rfl
theorem Jl.list5 {α : Type} {l : List α} (h : l.length = 5) : ∃ a b c d e, l = [a, b, c, d, e] := by
  match l, h with
  | [a, b, c, d, e], _ => exact ⟨a, b, c, d, e, rfl⟩
theorem Jl.weights_in {H : Type} {P : Program} {e : TypeId} {d : DataW H} : ∀ {l : List (DataW H)}, d ∈ l → ∀ n ∈ d.weights P e, n ∈ DataW.weightsAll P e l
  | x :: l, h, n, hn => by
    simp only [DataW.weightsAll, List.mem_append]
    rcases List.mem_cons.1 h with rfl | h
    · exact .inl hn
    · exact .inr (Jl.weights_in h n hn)
section
variable {H : Type} {enc : TypeId × Value → H} {P : Program} {w : World} {base : Nat} {spare : Nat → Bool} {held : Bool}
set_option maxRecDepth 100000 in
theorem Jl.trod_struct5 {t : TypeId} {f0 f1 f2 f3 f4 : Field} {fuel : Nat} {cs : List Value} {x : DataW H × List MemPlace} (ht : P.underlying t = some (.struct #[f0, f1, f2, f3, f4])) (h : DataW.trod enc P w base spare held fuel t cs = some x) :
    ∃ y0 y1 y2 y3 y4 n, x.1 = .agg [y0.1, y1.1, y2.1, y3.1, y4.1] ∧ cs.length = P.cellsOf t ∧
      DataW.trod enc P w base spare held n f0.type ((cs.drop f0.offset).take (P.cellsOf f0.type)) = some y0 ∧
      DataW.trod enc P w base spare held n f1.type ((cs.drop f1.offset).take (P.cellsOf f1.type)) = some y1 ∧
      DataW.trod enc P w base spare held n f2.type ((cs.drop f2.offset).take (P.cellsOf f2.type)) = some y2 ∧
      DataW.trod enc P w base spare held n f3.type ((cs.drop f3.offset).take (P.cellsOf f3.type)) = some y3 ∧
      DataW.trod enc P w base spare held n f4.type ((cs.drop f4.offset).take (P.cellsOf f4.type)) = some y4 := by
  obtain ⟨xs, n, _, rfl, hl, hlen, hf⟩ := DataW.trod_struct ht h
  obtain ⟨y0, y1, y2, y3, y4, rfl⟩ := Jl.list5 (show xs.length = 5 from hlen)
  refine ⟨y0, y1, y2, y3, y4, n, rfl, hl, ?_⟩
  have q0 := hf 0 f0 (by simp)
  have q1 := hf 1 f1 (by simp)
  have q2 := hf 2 f2 (by simp)
  have q3 := hf 3 f3 (by simp)
  have q4 := hf 4 f4 (by simp)
  simp only [List.getElem?_cons_zero, List.getElem?_cons_succ] at q0 q1 q2 q3 q4
  exact ⟨q0, q1, q2, q3, q4⟩
end
section
variable {H : Type} {enc : TypeId × Value → H} {W : World}
set_option maxRecDepth 100000 in
theorem Jl.open_ups_in {base fuel : Nat} {sp : Nat → Bool} {held : Bool} {v : Value} {x : DataW H × List MemPlace} (h : DataW.trod enc Tryd.prog W base sp held fuel 32 [v] = some x)
    (hw : ∀ k ∈ x.1.weights Tryd.prog 32, k ≤ reachBytes) :
    ∃ (A : Option Addr) (l : List Jl.In) (c : Nat), v = .slice A l.length c ∧ Jl.Ins W W.heap.size A l ∧ l.length ≤ 4611686018427387904 ∧ ∀ y ∈ l, y.c.size ≤ 4611686018427387904 := by
  have hr : reachBytes ≤ 140737488355328 := by decide
  rcases open_slice Tryd.underlying32 h with ⟨hcs, hx⟩ | ⟨a, len, cap, m, n, D, Pl, hcs, hb, hl, hm, hmm, hx, hi⟩
  · obtain rfl : v = .slice none 0 0 := by simpa using hcs
    exact ⟨none, [], 0, rfl, fun h => absurd h (by simp), by simp, fun c hc => by simp at hc⟩
  · obtain rfl : v = .slice (some a) len cap := by simpa using hcs
    subst hx
    simp only [DataW.weights, Tryd.underlying32] at hw
    have hlen : ((List.range len).map D).length * 40 ≤ reachBytes := by
      have := hw _ (List.mem_cons_self ..)
      rw [Jl.bytesUpd] at this
      refine Nat.le_trans (Nat.mul_le_mul_right _ (Nat.le_add_right _ _)) this
    rw [List.length_map, List.length_range] at hlen
    rw [Jl.cellsUpd] at hi
    have hml : len ≤ m := by rw [hmm]; split <;> omega
    have each : ∀ i, i < len → ∃ h : Jl.In, W.cell? ((a.add (i * 4)).add 0) = some (.int .i64 h.q) ∧ W.cell? ((a.add (i * 4)).add 1) = some (.int .i64 h.k) ∧ W.cell? ((a.add (i * 4)).add 2) = some (.int .i64 h.i) ∧ W.cell? ((a.add (i * 4)).add 3) = some (.string h.c) ∧ h.c.size ≤ 4611686018427387904 := by
      intro i hil
      obtain ⟨cs', hc, ht⟩ := hi i (by omega)
      obtain ⟨h, r0, r1, r2, r3, e0, e1, e2, he⟩ := Jl.read_upd hc ht
      refine ⟨h, r0, r1, r2, r3, ?_⟩
      have := hw h.c.data.toList.length (List.mem_cons_of_mem _ (List.mem_append_left _ (Jl.weights_in (List.mem_map.2 ⟨i, List.mem_range.2 hil, rfl⟩) _ (by rw [he]; simp [DataW.weights, DataW.weightsEach, Tryd.underlying39]))))
      rw [Array.length_toList] at this
      exact Nat.le_trans this (Nat.le_trans hr (by decide))
    obtain ⟨F, hF, hP⟩ := Jl.list_of len each
    refine ⟨some a, F, cap, by rw [hF], ?_, by omega, fun y hy => ?_⟩
    · intro h0
      have hz : F[0]? = some F[0] := List.getElem?_eq_getElem h0
      have q0 := (hP 0 _ hz).1
      have hs : a.spot = none := World.cell?_spot q0
      have hlt : a.block < W.heap.size := World.block_lt_of_cell? W _ q0
      obtain ⟨b, off, spot⟩ := a
      simp only at hs
      subst hs
      refine ⟨b, off, rfl, hlt, fun j x hj => ?_⟩
      obtain ⟨r0, r1, r2, r3, _⟩ := hP j x hj
      rw [Jl.addLit, Jl.addLit] at r0 r1 r2 r3
      exact ⟨r0, r1, r2, r3⟩
    · obtain ⟨i, hi⟩ := List.mem_iff_getElem?.1 hy
      exact (hP i y hi).2.2.2.2
set_option maxRecDepth 100000 in
set_option maxHeartbeats 1000000 in
theorem Jl.read_run {base n : Nat} {sp : Nat → Bool} {held : Bool} {a : Addr} {cs : List Value} {x : DataW H × List MemPlace} (hc : W.cells? base a 5 = some cs) (ht : DataW.trod enc Tryd.prog W base sp held n 61 cs = some x)
    (hw : ∀ k ∈ x.1.weights Tryd.prog 61, k ≤ reachBytes) :
    ∃ r : Jl.Rn, (∀ i v, r.cells[i]? = some v → W.cell? (a.add i) = some v) ∧ Jl.RnFit W r := by
  obtain ⟨_, hl, hat⟩ := World.cells?_some hc
  obtain ⟨y0, y1, y2, y3, y4, m, hx, _, t0, t1, t2, t3, t4⟩ := Jl.trod_struct5 Tryd.underlying61 ht
  rw [hx] at hw
  simp only [DataW.weights, Tryd.underlying61, DataW.weightsEach, List.map_cons, List.map_nil] at hw
  obtain ⟨c0, c1, c2, c3, c4, rfl⟩ := Jl.list5 hl
  · skip
    rw [Jl.cellsInt] at t1 t2 t3
    rw [Jl.cellsU8] at t4
    rw [Jl.cellsUpds] at t0
    obtain ⟨n1, e1, _, w1⟩ := DataW.trod_int Tryd.underlying3 t1
    obtain ⟨n2, e2, _, w2⟩ := DataW.trod_int Tryd.underlying3 t2
    obtain ⟨n3, e3, _, w3⟩ := DataW.trod_int Tryd.underlying3 t3
    obtain ⟨n4, e4, _, w4⟩ := DataW.trod_int Tryd.underlying5 t4
    have e1' : c1 = .int .i64 n1 := by simpa using e1
    have e2' : c2 = .int .i64 n2 := by simpa using e2
    have e3' : c3 = .int .i64 n3 := by simpa using e3
    have e4' : c4 = .int .u8 n4 := by simpa using e4
    have t0' : DataW.trod enc Tryd.prog W base sp held m 32 [c0] = some y0 := by simpa using t0
    obtain ⟨A, l, c, rfl, hI, hl1, hl2⟩ := Jl.open_ups_in t0' fun k hk => hw k (by simp only [List.mem_append]; exact .inl hk)
    obtain ⟨p2, q2⟩ := bounds_i64 w2
    obtain ⟨b1, b2⟩ := bounds_u8 w4
    have hn : ((UInt8.ofNat n4.toNat).toNat : Int) = n4 := by
      rw [UInt8.toNat_ofNat']
      omega
    refine ⟨⟨A, l, c, n1, n2, n3, UInt8.ofNat n4.toNat⟩, fun i v hi => ?_, hI, hl1, hl2, p2, Int.lt_of_le_of_lt q2 (by decide)⟩
    have hlt : i < 5 := (List.getElem?_eq_some_iff.1 hi).1
    rw [hat i hlt, ← hi, e1', e2', e3', e4']
    unfold Jl.Rn.cells
    simp only
    rw [hn]
set_option maxRecDepth 100000 in
theorem Jl.open_runs {base : Nat} {b0 : Nat} {v : Value} {d : DataW H} {p : List MemPlace} (hv : Value.okWide Tryd.prog W .any b0 57 v) (h : DataW.Trod enc Tryd.prog W base (fun _ => true) true 57 v d p)
    (hw : ∀ k ∈ d.weights Tryd.prog 57, k ≤ reachBytes) :
    ∃ (A : Option Addr) (c : Nat) (L : List Jl.Rn), v = .slice A L.length c ∧ ((A = none ∧ c = 0 ∧ L = []) ∨ ∃ p, A = some p ∧ ∀ j u, (Jl.rcells L)[j]? = some u → W.cell? (p.add j) = some u) ∧ (∀ r ∈ L, Jl.RnFit W r) ∧ (1 + L.length) * 56 ≤ 140737488355328 := by
  obtain ⟨fuel, hf⟩ := h
  obtain ⟨a0, l0, c0, rfl⟩ := okWide_slice Tryd.underlying57 hv
  rcases open_slice Tryd.underlying57 hf with ⟨hcs, hx⟩ | ⟨a, len, cap, m, n, D, Pl, hcs, hb, hl, hm, hmm, hx, hi⟩
  · simp [Value.cells] at hcs
    obtain ⟨rfl, rfl, rfl⟩ := hcs
    exact ⟨none, 0, [], rfl, .inl ⟨rfl, rfl, rfl⟩, fun r hr => by simp at hr, by decide⟩
  · simp [Value.cells] at hcs
    obtain ⟨rfl, rfl, rfl⟩ := hcs
    obtain rfl := (Prod.mk.inj hx).1
    clear hx
    simp only [DataW.weights, Tryd.underlying57] at hw
    have hlen : ((List.range l0).map D).length * 56 ≤ reachBytes := by
      have := hw _ (List.mem_cons_self ..)
      rw [Jl.bytesRun] at this
      refine Nat.le_trans (Nat.mul_le_mul_right _ (Nat.le_add_right _ _)) this
    rw [List.length_map, List.length_range] at hlen
    have hr : reachBytes + 56 ≤ 140737488355328 := by decide
    rw [Jl.cellsRun] at hi
    have hml : l0 ≤ m := by rw [hmm]; simp; omega
    have each : ∀ i, i < l0 → ∃ s : Jl.Rn, (∀ j v, s.cells[j]? = some v → W.cell? ((a.add (i * 5)).add j) = some v) ∧ Jl.RnFit W s := by
      intro i hil
      obtain ⟨cs', hc, ht⟩ := hi i (by omega)
      refine Jl.read_run hc ht fun k hk => hw k (List.mem_cons_of_mem _ (List.mem_append_left _ ?_))
      exact Jl.weights_in (List.mem_map.2 ⟨i, List.mem_range.2 hil, rfl⟩) k hk
    obtain ⟨F, hF, hP⟩ := Jl.list_of l0 each
    refine ⟨some a, c0, F, by rw [hF], .inr ⟨a, rfl, fun j u hj => ?_⟩, fun r hr => ?_, by omega⟩
    · have hlt := (List.getElem?_eq_some_iff.1 hj).1
      rw [Jl.rcells_len] at hlt
      have h0 : 0 < F.length := by omega
      have q0 := (hP 0 _ (List.getElem?_eq_getElem h0)).1 0 _ rfl
      have hs : a.spot = none := World.cell?_spot q0
      obtain ⟨b, off, spot⟩ := a
      simp only at hs
      subst hs
      refine Jl.Rns.cells (fun k r hk i v hv => ?_) j u hj
      have := (hP k r hk).1 i v hv
      rw [Jl.addLit, Jl.addLit, Nat.add_assoc] at this
      exact this
    · obtain ⟨i, hi⟩ := List.mem_iff_getElem?.1 hr
      exact (hP i r hi).2
end
#print axioms Jl.open_runs
end Go.Proofs.YthhkebkpophkiaaDoor
