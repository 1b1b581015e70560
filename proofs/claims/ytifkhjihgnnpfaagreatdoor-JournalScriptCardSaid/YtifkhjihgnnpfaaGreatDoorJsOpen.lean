/- A parameter of type []kindredlaw5.Op. Conditions: each theorem's own hypotheses. -/
import Derived.Test.YtifkhjihgnnpfaaGreatDoorJlOpen
import Derived.Test.YtifkhjihgnnpfaaGreatDoorDwF
namespace Go.Proofs.YtifkhjihgnnpfaaGreatDoor
open Go.ChangeShapes Go.WideShapes Go.RowKit Go.Deep
set_option linter.unusedVariables false

theorem Js.cellsOp : Tryz.prog.cellsOf 36 = 11 := by kernel_rfl
/-- A step. -/
structure Js.Op where
  kind : Int
  n : Int
  m : Int
  w : Int
  q : Int
  k : Int
  i : Int
  c : ByteArray
  b : ByteArray
  dn : Bool
  cv : Value
  cuts : List Dk.Cut
def Js.Op.cells (t : Js.Op) : List Value := [.int .i64 t.kind, .int .i64 t.n, .int .i64 t.m, .int .i64 t.w, .int .i64 t.q, .int .i64 t.k, .int .i64 t.i, .string t.c, .string t.b, .bool t.dn, t.cv]
structure Js.OpFit (W : World) (t : Js.Op) : Prop where
  n : -9223372036854775808 ≤ t.n ∧ t.n < 9223372036854775808
  m : -9223372036854775808 ≤ t.m ∧ t.m < 9223372036854775808
  c : t.c.size ≤ 140737488355328
  b : t.b.size ≤ 140737488355328
  cuts : Dk.Cts W t.cv t.cuts
  many : t.cuts.length ≤ 4398046511104
  names : ∀ c ∈ t.cuts, c.name.length ≤ 140737488355328
section
variable {H : Type} {enc : TypeId × Value → H} {W : World}
theorem Js.read_int {base n : Nat} {sp : Nat → Bool} {held : Bool} {c : Value} {x : DataW H × List MemPlace} (ht : DataW.trod enc Tryz.prog W base sp held n 3 [c] = some x) : ∃ z : Int, c = .int .i64 z ∧ -9223372036854775808 ≤ z ∧ z < 9223372036854775808 := by
  obtain ⟨z, e, _, w⟩ := DataW.trod_int Tryz.underlying3 ht
  have e' : c = .int .i64 z := by simpa using e
  have hb := bounds_i64 w
  exact ⟨z, e', hb.1, Int.lt_of_le_of_lt hb.2 (by decide)⟩
set_option maxRecDepth 100000 in
set_option maxHeartbeats 2000000 in
theorem Js.read_op {base n : Nat} {sp : Nat → Bool} {held : Bool} {a : Addr} {cs : List Value} {x : DataW H × List MemPlace} (hc : W.cells? base a 11 = some cs) (ht : DataW.trod enc Tryz.prog W base sp held n 36 cs = some x)
    (hw : ∀ k ∈ x.1.weights Tryz.prog 36, k ≤ reachBytes) :
    ∃ t : Js.Op, (∀ i v, t.cells[i]? = some v → W.cell? (a.add i) = some v) ∧ Js.OpFit W t := by
  obtain ⟨_, hl, hat⟩ := World.cells?_some hc
  obtain ⟨xs, n1, _, rfl, hl1, hlen1, hf1⟩ := DataW.trod_struct Tryz.underlying36 ht
  match cs, hl, xs, hlen1 with
  | [c0, c1, c2, c3, c4, c5, c6, c7, c8, c9, c10], _, [y0, y1, y2, y3, y4, y5, y6, y7], _ =>
    have t0 := hf1 0 _ rfl
    have t1 := hf1 1 _ rfl
    have t2 := hf1 2 _ rfl
    have t3 := hf1 3 _ rfl
    have t4 := hf1 4 _ rfl
    have t5 := hf1 5 _ rfl
    have t6 := hf1 6 _ rfl
    have t7 := hf1 7 _ rfl
    simp only [DataW.weights, Tryz.underlying36, DataW.weightsEach, List.map_cons, List.map_nil] at hw
    obtain ⟨n0, rfl, _⟩ := Js.read_int (c := c0) t0
    obtain ⟨n1', rfl, p1⟩ := Js.read_int (c := c1) t1
    obtain ⟨n2', rfl, p2⟩ := Js.read_int (c := c2) t2
    obtain ⟨n3', rfl, _⟩ := Js.read_int (c := c3) t3
    have t4' : DataW.trod enc Tryz.prog W base sp held n1 33 [c4, c5, c6, c7] = some y4 := t4
    obtain ⟨ys, n2, _, hx2, hl2, hlen2, hf2⟩ := DataW.trod_struct Tryz.underlying33 t4'
    have t5' : DataW.trod enc Tryz.prog W base sp held n1 9 [c8] = some y5 := t5
    have t6' : DataW.trod enc Tryz.prog W base sp held n1 4 [c9] = some y6 := t6
    have t7' : DataW.trod enc Tryz.prog W base sp held n1 34 [c10] = some y7 := t7
    obtain ⟨s8, e8, d8, _⟩ := DataW.trod_string Tryz.underlying9 t5'
    have e8' : c8 = .string s8 := by simpa using e8
    obtain ⟨b9, e9, _⟩ := DataW.trod_bool Tryz.underlying4 t6'
    have e9' : c9 = .bool b9 := by simpa using e9
    subst e8' e9'
    have hr : reachBytes ≤ 140737488355328 := by decide
    obtain ⟨FC, hFC, hFCl, hFCn⟩ := Dw.open_cuts t7' fun k hk => hw k (by simp only [List.mem_append]; exact .inr (.inr (.inr (.inr (.inr (.inr (.inr (.inl hk))))))))
    have l8 := hw s8.data.toList.length (by simp [d8, DataW.weights])
    rw [Array.length_toList] at l8
    match ys, hlen2 with
    | [z0, z1, z2, z3], _ =>
      have s0 := hf2 0 _ rfl
      have s1 := hf2 1 _ rfl
      have s2 := hf2 2 _ rfl
      have s3 := hf2 3 _ rfl
      obtain ⟨a0, rfl, _⟩ := Js.read_int (c := c4) s0
      obtain ⟨a1, rfl, _⟩ := Js.read_int (c := c5) s1
      obtain ⟨a2, rfl, _⟩ := Js.read_int (c := c6) s2
      have s3' : DataW.trod enc Tryz.prog W base sp held n2 9 [c7] = some z3 := s3
      obtain ⟨s7, e7, d7, _⟩ := DataW.trod_string Tryz.underlying9 s3'
      have e7' : c7 = .string s7 := by simpa using e7
      subst e7'
      have l7 := hw s7.data.toList.length (by
        rw [hx2]
        simp only [DataW.weights, Tryz.underlying33, DataW.weightsEach, List.map_cons, List.map_nil, List.mem_append]
        exact .inr (.inr (.inr (.inr (.inl (.inr (.inr (.inr (.inl (by simp [d7, DataW.weights])))))))))
        )
      rw [Array.length_toList] at l7
      refine ⟨⟨n0, n1', n2', n3', a0, a1, a2, s7, s8, b9, c10, FC⟩, fun i v hi => ?_, ⟨p1, p2, Nat.le_trans l7 hr, Nat.le_trans l8 hr, hFC, hFCl, hFCn⟩⟩
      have hlt : i < 11 := (List.getElem?_eq_some_iff.1 hi).1
      rw [hat i hlt, ← hi]
      rfl
/-- Steps that lie one behind the other. -/
def Js.Ops (W : World) (B : Nat) (A : Option Addr) (L : List Js.Op) : Prop := 0 < L.length → ∃ b off, A = some ⟨b, off, none⟩ ∧ b < B ∧ ∀ j t, L[j]? = some t → ∀ i v, t.cells[i]? = some v → W.cell? ⟨b, off + (j * 11 + i), none⟩ = some v
theorem Js.bytesOp : Tryz.prog.bytesOf 36 = 120 := by kernel_rfl
set_option maxRecDepth 100000 in
theorem Js.open_ops {base : Nat} {b0 : Nat} {v : Value} {d : DataW H} {p : List MemPlace} (hv : Value.okWide Tryz.prog W .any b0 22 v) (h : DataW.Trod enc Tryz.prog W base (fun _ => true) true 22 v d p)
    (hw : ∀ k ∈ d.weights Tryz.prog 22, k ≤ reachBytes) :
    ∃ (A : Option Addr) (c : Nat) (L : List Js.Op), v = .slice A L.length c ∧ Js.Ops W W.heap.size A L ∧ (∀ t ∈ L, Js.OpFit W t) ∧ L.length ≤ 1172812402944 := by
  obtain ⟨fuel, hf⟩ := h
  obtain ⟨a0, l0, c0, rfl⟩ := okWide_slice Tryz.underlying22 hv
  rcases open_slice Tryz.underlying22 hf with ⟨hcs, hx⟩ | ⟨a, len, cap, m, n, D, Pl, hcs, hb, hl, hm, hmm, hx, hi⟩
  · simp [Value.cells] at hcs
    obtain ⟨rfl, rfl, rfl⟩ := hcs
    exact ⟨none, 0, [], rfl, fun h => absurd h (by simp), (fun r hr => by simp at hr), by simp⟩
  · simp [Value.cells] at hcs
    obtain ⟨rfl, rfl, rfl⟩ := hcs
    obtain rfl := (Prod.mk.inj hx).1
    clear hx
    simp only [DataW.weights, Tryz.underlying22] at hw
    rw [Js.cellsOp] at hi
    have hlen : ((List.range l0).map D).length * 120 ≤ reachBytes := by
      have := hw _ (List.mem_cons_self ..)
      rw [Js.bytesOp] at this
      refine Nat.le_trans (Nat.mul_le_mul_right _ (Nat.le_add_right _ _)) this
    rw [List.length_map, List.length_range] at hlen
    have hrb : reachBytes ≤ 140737488351232 := by decide
    have hml : l0 ≤ m := by rw [hmm]; simp; omega
    have each : ∀ i, i < l0 → ∃ s : Js.Op, (∀ j v, s.cells[j]? = some v → W.cell? ((a.add (i * 11)).add j) = some v) ∧ Js.OpFit W s := by
      intro i hil
      obtain ⟨cs', hc, ht⟩ := hi i (by omega)
      refine Js.read_op hc ht fun k hk => hw k (List.mem_cons_of_mem _ (List.mem_append_left _ ?_))
      exact Dw.weights_all (List.mem_map.2 ⟨i, List.mem_range.2 hil, rfl⟩) k hk
    obtain ⟨F, hF, hP⟩ := Dw.list_of l0 each
    refine ⟨some a, c0, F, by rw [hF], fun h0 => ?_, fun r hr => ?_, by omega⟩
    · have q0 := (hP 0 _ (List.getElem?_eq_getElem h0)).1 0 _ rfl
      have hs : a.spot = none := World.cell?_spot q0
      have hlt : a.block < W.heap.size := World.block_lt_of_cell? W _ q0
      obtain ⟨b, off, spot⟩ := a
      simp only at hs
      subst hs
      refine ⟨b, off, rfl, hlt, fun k r hk i v hv => ?_⟩
      have := (hP k r hk).1 i v hv
      rw [Dw.add_lit, Dw.add_lit, Nat.add_assoc] at this
      exact this
    · obtain ⟨i, hi⟩ := List.mem_iff_getElem?.1 hr
      exact (hP i r hi).2
end
end Go.Proofs.YtifkhjihgnnpfaaGreatDoor
