/- A parameter of type []kindredlaw8.Op. Conditions: each theorem's own hypotheses. -/
import Derived.Test.YtdhnkcfmjibibaaGreatDoorZMsOpen
import Derived.Test.YtdhnkcfmjibibaaGreatDoorDwF
namespace Go.Proofs.YtdhnkcfmjibibaaGreatDoor
open Go.ChangeShapes Go.WideShapes Go.RowKit Go.Deep
set_option linter.unusedVariables false

theorem Mt.cellsOp : Tryz.prog.cellsOf 34 = 13 := by kernel_rfl
theorem Mt.bytesOp : Tryz.prog.bytesOf 34 = 152 := by kernel_rfl
/-- A step. -/
structure Mt.Op where
  kind : Int
  M : Man
  A : Option Addr
  cp : Nat
  n : Int
  dn : Bool
  cv : Value
  cuts : List Dk.Cut
  name : ByteArray
  b : ByteArray
def Mt.Op.cells (t : Mt.Op) : List Value := [.int .i64 t.kind, .int .i64 t.M.w, .int .i64 t.M.c, .int .i64 t.M.m, .int .i64 t.M.seq, .int .i64 t.M.next, .int .i64 t.M.jr, .slice t.A t.M.runs.length t.cp, .int .i64 t.n, .bool t.dn, t.cv, .string t.name, .string t.b]
structure Mt.OpFit (W : World) (t : Mt.Op) : Prop where
  rs : Rs W W.heap.size t.A t.M.runs
  nil : t.A = none → t.cp = 0 ∧ t.M.runs = []
  fit : Mf.Fit t.M
  n : -9223372036854775808 ≤ t.n ∧ t.n < 9223372036854775808
  cuts : Dk.Cts W t.cv t.cuts
  many : t.cuts.length ≤ 4398046511104
  names : ∀ c ∈ t.cuts, c.name.length ≤ 140737488355328
  name : t.name.size ≤ 140737488355328
  b : t.b.size ≤ 140737488355328
  short : (t.M.runs.length + 1) * 32 ≤ 140737488355328
section
variable {H : Type} {enc : TypeId × Value → H} {W : World}
set_option maxRecDepth 100000 in
theorem Mt.open_rs_in {base fuel : Nat} {sp : Nat → Bool} {held : Bool} {v : Value} {x : DataW H × List MemPlace} (h : DataW.trod enc Tryz.prog W base sp held fuel 29 [v] = some x)
    (hw : ∀ k ∈ x.1.weights Tryz.prog 29, k ≤ reachBytes) :
    ∃ (A : Option Addr) (c : Nat) (F : List Run), v = .slice A F.length c ∧ Rs W W.heap.size A F ∧ F.length ≤ 4398046511104 ∧ (∀ r ∈ F, (Lit.int .i64 r.num).wf = true) ∧ (A = none → c = 0 ∧ F = []) ∧ (F.length + 1) * 32 ≤ 140737488355328 := by
  have hr : reachBytes ≤ 140737488351232 := by decide
  rcases open_slice Tryz.underlying29 h with ⟨hcs, hx⟩ | ⟨a, len, cap, m, n, D, Pl, hcs, hb, hl, hm, hmm, hx, hi⟩
  · obtain rfl : v = .slice none 0 0 := by simpa using hcs
    exact ⟨none, 0, [], rfl, fun h => absurd h (by simp), by simp, fun r hr => by simp at hr, fun _ => ⟨rfl, rfl⟩, by simp⟩
  · obtain rfl : v = .slice (some a) len cap := by simpa using hcs
    subst hx
    simp only [DataW.weights, Tryz.underlying29] at hw
    have hlen : ((List.range len).map D).length * 32 ≤ reachBytes := by
      have := hw _ (List.mem_cons_self ..)
      rw [Ms.bytesInfo] at this
      refine Nat.le_trans (Nat.mul_le_mul_right _ (Nat.le_add_right _ _)) this
    rw [List.length_map, List.length_range] at hlen
    rw [cellsInfo] at hi
    have hml : len ≤ m := by rw [hmm]; split <;> omega
    have each : ∀ i, i < len → ∃ h : Run, W.cell? ((a.add (i * 4)).add 0) = some (.int .i64 h.num) ∧ W.cell? ((a.add (i * 4)).add 1) = some (.int .i64 h.lo) ∧ W.cell? ((a.add (i * 4)).add 2) = some (.int .i64 h.hi) ∧ W.cell? ((a.add (i * 4)).add 3) = some (.int .i64 h.cnt) ∧ (Lit.int .i64 h.num).wf = true := by
      intro i hil
      obtain ⟨cs', hc, ht⟩ := hi i (by omega)
      exact read_run hc ht
    obtain ⟨F, hF, hP⟩ := list_of len each
    refine ⟨some a, cap, F, by rw [hF], fun h0 => ?_, by omega, fun r hr => ?_, (fun e => by cases e), by omega⟩
    rotate_left
    · obtain ⟨i, hi⟩ := List.mem_iff_getElem?.1 hr
      exact (hP i r hi).2.2.2.2
    have hz : F[0]? = some F[0] := List.getElem?_eq_getElem h0
    have q0 := (hP 0 _ hz).1
    have hs : a.spot = none := World.cell?_spot q0
    have hlt : a.block < W.heap.size := World.block_lt_of_cell? W _ q0
    obtain ⟨b, off, spot⟩ := a
    simp only at hs
    subst hs
    refine ⟨b, off, rfl, hlt, fun j x hj => ?_⟩
    obtain ⟨r0, r1, r2, r3, _⟩ := hP j x hj
    rw [addLit, addLit] at r0 r1 r2 r3
    exact ⟨r0, r1, r2, r3⟩
set_option maxRecDepth 100000 in
set_option maxHeartbeats 2000000 in
theorem Mt.read_op {base n : Nat} {sp : Nat → Bool} {held : Bool} {a : Addr} {cs : List Value} {x : DataW H × List MemPlace} (hc : W.cells? base a 13 = some cs) (ht : DataW.trod enc Tryz.prog W base sp held n 34 cs = some x)
    (hw : ∀ k ∈ x.1.weights Tryz.prog 34, k ≤ reachBytes) :
    ∃ t : Mt.Op, (∀ i v, t.cells[i]? = some v → W.cell? (a.add i) = some v) ∧ Mt.OpFit W t := by
  obtain ⟨_, hl, hat⟩ := World.cells?_some hc
  obtain ⟨xs, n1, _, rfl, hl1, hlen1, hf1⟩ := DataW.trod_struct Tryz.underlying34 ht
  match cs, hl, xs, hlen1 with
  | [c0, c1, c2, c3, c4, c5, c6, c7, c8, c9, c10, c11, c12], _, [y0, y1, y2, y3, y4, y5, y6], _ =>
    have t0 := hf1 0 _ rfl
    have t1 := hf1 1 _ rfl
    have t2 := hf1 2 _ rfl
    have t3 := hf1 3 _ rfl
    have t4 := hf1 4 _ rfl
    have t5 := hf1 5 _ rfl
    have t6 := hf1 6 _ rfl
    simp only [DataW.weights, Tryz.underlying34, DataW.weightsEach, List.map_cons, List.map_nil] at hw
    obtain ⟨n0, rfl, w0⟩ := read_int (c := c0) t0
    have t1' : DataW.trod enc Tryz.prog W base sp held n1 31 [c1, c2, c3, c4, c5, c6, c7] = some y1 := t1
    obtain ⟨ys, n2, _, hx2, hl2, hlen2, hf2⟩ := DataW.trod_struct Tryz.underlying31 t1'
    obtain ⟨n8, rfl, w8⟩ := read_int (c := c8) t2
    obtain ⟨b9, rfl⟩ := Ms.read_bool (c := c9) t3
    have t4' : DataW.trod enc Tryz.prog W base sp held n1 32 [c10] = some y4 := t4
    have t5' : DataW.trod enc Tryz.prog W base sp held n1 9 [c11] = some y5 := t5
    have t6' : DataW.trod enc Tryz.prog W base sp held n1 9 [c12] = some y6 := t6
    obtain ⟨s11, e11, d11, _⟩ := DataW.trod_string Tryz.underlying9 t5'
    obtain ⟨s12, e12, d12, _⟩ := DataW.trod_string Tryz.underlying9 t6'
    have e11' : c11 = .string s11 := by simpa using e11
    have e12' : c12 = .string s12 := by simpa using e12
    subst e11' e12'
    have hr : reachBytes ≤ 140737488355328 := by decide
    obtain ⟨FC, hFC, hFCl, hFCn⟩ := Dw.open_cuts t4' fun k hk => hw k (by simp only [List.mem_append]; exact .inr (.inr (.inr (.inr (.inl hk)))))
    have l11 := hw s11.data.toList.length (by simp [d11, DataW.weights])
    have l12 := hw s12.data.toList.length (by simp [d12, DataW.weights])
    rw [Array.length_toList] at l11 l12
    match ys, hlen2 with
    | [z0, z1, z2, z3, z4], _ =>
      have s0 := hf2 0 _ rfl
      have s1 := hf2 1 _ rfl
      have s2 := hf2 2 _ rfl
      have s3 := hf2 3 _ rfl
      have s4 := hf2 4 _ rfl
      obtain ⟨u0, u1, u2, m, _, _, q0, q1, q2⟩ := trod_struct3 Tryz.underlying28 s0
      rw [cellsInts] at q0 q1 q2
      obtain ⟨a0, rfl, v0⟩ := read_int (c := c1) q0
      obtain ⟨a1, rfl, _⟩ := read_int (c := c2) q1
      obtain ⟨a2, rfl, _⟩ := read_int (c := c3) q2
      obtain ⟨a3, rfl, _⟩ := read_int (c := c4) s1
      obtain ⟨a4, rfl, _⟩ := read_int (c := c5) s2
      obtain ⟨a5, rfl, v5⟩ := read_int (c := c6) s3
      obtain ⟨A, cp, F, rfl, hF, hFl, hFw, hFn, hFs⟩ := Mt.open_rs_in (v := c7) s4 fun k hk => hw k (by
        rw [hx2]
        simp only [DataW.weights, Tryz.underlying31, DataW.weightsEach, List.map_cons, List.map_nil, List.mem_append]
        exact .inr (.inl (.inr (.inr (.inr (.inr (.inl hk)))))))
      obtain ⟨p8, q8⟩ := bounds_i64 w8
      refine ⟨⟨n0, ⟨a0, a1, a2, a3, a4, a5, F⟩, A, cp, n8, b9, c10, FC, s11, s12⟩, fun i v hi => ?_, ⟨hF, hFn, ⟨wf_bounds v0, v5, hFw, hFl⟩, ⟨p8, Int.lt_of_le_of_lt q8 (by decide)⟩, hFC, hFCl, hFCn, Nat.le_trans l11 hr, Nat.le_trans l12 hr, hFs⟩⟩
      have hlt : i < 13 := (List.getElem?_eq_some_iff.1 hi).1
      rw [hat i hlt, ← hi]
      rfl
/-- Steps that lie one behind the other. -/
def Mt.Ops (W : World) (B : Nat) (A : Option Addr) (L : List Mt.Op) : Prop := 0 < L.length → ∃ b off, A = some ⟨b, off, none⟩ ∧ b < B ∧ ∀ j t, L[j]? = some t → ∀ i v, t.cells[i]? = some v → W.cell? ⟨b, off + (j * 13 + i), none⟩ = some v
set_option maxRecDepth 100000 in
theorem Mt.open_ops {base : Nat} {b0 : Nat} {v : Value} {d : DataW H} {p : List MemPlace} (hv : Value.okWide Tryz.prog W .any b0 22 v) (h : DataW.Trod enc Tryz.prog W base (fun _ => true) true 22 v d p)
    (hw : ∀ k ∈ d.weights Tryz.prog 22, k ≤ reachBytes) :
    ∃ (A : Option Addr) (c : Nat) (L : List Mt.Op), v = .slice A L.length c ∧ Mt.Ops W W.heap.size A L ∧ (∀ t ∈ L, Mt.OpFit W t) ∧ (L.length + 1) * 152 ≤ 140737488355328 ∧ (A = none → c = 0 ∧ L = []) := by
  obtain ⟨fuel, hf⟩ := h
  obtain ⟨a0, l0, c0, rfl⟩ := okWide_slice Tryz.underlying22 hv
  rcases open_slice Tryz.underlying22 hf with ⟨hcs, hx⟩ | ⟨a, len, cap, m, n, D, Pl, hcs, hb, hl, hm, hmm, hx, hi⟩
  · simp [Value.cells] at hcs
    obtain ⟨rfl, rfl, rfl⟩ := hcs
    exact ⟨none, 0, [], rfl, fun h => absurd h (by simp), (fun r hr => by simp at hr), by simp, fun _ => ⟨rfl, rfl⟩⟩
  · simp [Value.cells] at hcs
    obtain ⟨rfl, rfl, rfl⟩ := hcs
    obtain rfl := (Prod.mk.inj hx).1
    clear hx
    simp only [DataW.weights, Tryz.underlying22] at hw
    rw [Mt.cellsOp] at hi
    have hlen : ((List.range l0).map D).length * 152 ≤ reachBytes := by
      have := hw _ (List.mem_cons_self ..)
      rw [Mt.bytesOp] at this
      refine Nat.le_trans (Nat.mul_le_mul_right _ (Nat.le_add_right _ _)) this
    rw [List.length_map, List.length_range] at hlen
    have hrb : reachBytes ≤ 140737488351232 := by decide
    have hml : l0 ≤ m := by rw [hmm]; simp; omega
    have each : ∀ i, i < l0 → ∃ s : Mt.Op, (∀ j v, s.cells[j]? = some v → W.cell? ((a.add (i * 13)).add j) = some v) ∧ Mt.OpFit W s := by
      intro i hil
      obtain ⟨cs', hc, ht⟩ := hi i (by omega)
      refine Mt.read_op hc ht fun k hk => hw k (List.mem_cons_of_mem _ (List.mem_append_left _ ?_))
      exact Ms.weights_in (List.mem_map.2 ⟨i, List.mem_range.2 hil, rfl⟩) k hk
    obtain ⟨F, hF, hP⟩ := list_of l0 each
    refine ⟨some a, c0, F, by rw [hF], fun h0 => ?_, fun r hr => ?_, by omega, fun e => by cases e⟩
    · have q0 := (hP 0 _ (List.getElem?_eq_getElem h0)).1 0 _ rfl
      have hs : a.spot = none := World.cell?_spot q0
      have hlt : a.block < W.heap.size := World.block_lt_of_cell? W _ q0
      obtain ⟨b, off, spot⟩ := a
      simp only at hs
      subst hs
      refine ⟨b, off, rfl, hlt, fun k r hk i v hv => ?_⟩
      have := (hP k r hk).1 i v hv
      rw [addLit, addLit, Nat.add_assoc] at this
      exact this
    · obtain ⟨i, hi⟩ := List.mem_iff_getElem?.1 hr
      exact (hP i r hi).2
end
end Go.Proofs.YtdhnkcfmjibibaaGreatDoor
