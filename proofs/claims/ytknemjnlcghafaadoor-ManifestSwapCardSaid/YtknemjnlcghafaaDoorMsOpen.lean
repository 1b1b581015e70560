/- An argument that is a list of tries, opened. Conditions: each theorem's own hypotheses. -/
import Derived.Test.YtknemjnlcghafaaDoorMfOpen
namespace Go.Proofs.YtknemjnlcghafaaDoor
open Go.ChangeShapes Go.WideShapes Go.RowKit Go.Deep
set_option linter.unusedVariables false

theorem Ms.cellsTry : Tryd.prog.cellsOf 45 = 11 := by kernel_rfl
theorem Ms.cellsU8 : Tryd.prog.cellsOf 5 = 1 := by kernel_rfl
theorem Ms.cellsBool : Tryd.prog.cellsOf 4 = 1 := by kernel_rfl
theorem Ms.bytesInfo : Tryd.prog.bytesOf 54 = 32 := by kernel_rfl
theorem Ms.weights_in {H : Type} {P : Program} {e : TypeId} {d : DataW H} : ∀ {l : List (DataW H)}, d ∈ l → ∀ n ∈ d.weights P e, n ∈ DataW.weightsAll P e l
  | x :: l, h, n, hn => by
    simp only [DataW.weightsAll, List.mem_append]
    rcases List.mem_cons.1 h with rfl | h
    · exact .inl hn
    · exact .inr (Ms.weights_in h n hn)
/-- A try. -/
structure Ms.Ty where
  M : Man
  A : Option Addr
  cp : Nat
  ct : Int
  dn : Bool
  ke : Int
  sp : UInt8
def Ms.Ty.cells (t : Ms.Ty) : List Value := [.int .i64 t.M.w, .int .i64 t.M.c, .int .i64 t.M.m, .int .i64 t.M.seq, .int .i64 t.M.next, .int .i64 t.M.jr, .slice t.A t.M.runs.length t.cp, .int .i64 t.ct, .bool t.dn, .int .i64 t.ke, .int .u8 t.sp.toNat]
def Ms.TyFit (W : World) (t : Ms.Ty) : Prop := Rs W W.heap.size t.A t.M.runs ∧ t.M.runs.length ≤ 4398046511104 ∧ -9223372036854775808 ≤ t.ct ∧ t.ct < 9223372036854775808
section
variable {H : Type} {enc : TypeId × Value → H} {W : World}
set_option maxRecDepth 100000 in
theorem Ms.open_rs_in {base fuel : Nat} {sp : Nat → Bool} {held : Bool} {v : Value} {x : DataW H × List MemPlace} (h : DataW.trod enc Tryd.prog W base sp held fuel 24 [v] = some x)
    (hw : ∀ k ∈ x.1.weights Tryd.prog 24, k ≤ reachBytes) :
    ∃ (A : Option Addr) (c : Nat) (F : List Run), v = .slice A F.length c ∧ Rs W W.heap.size A F ∧ F.length ≤ 4398046511104 := by
  have hr : reachBytes ≤ 140737488355328 := by decide
  rcases open_slice Tryd.underlying24 h with ⟨hcs, hx⟩ | ⟨a, len, cap, m, n, D, Pl, hcs, hb, hl, hm, hmm, hx, hi⟩
  · obtain rfl : v = .slice none 0 0 := by simpa using hcs
    exact ⟨none, 0, [], rfl, fun h => absurd h (by simp), by simp⟩
  · obtain rfl : v = .slice (some a) len cap := by simpa using hcs
    subst hx
    simp only [DataW.weights, Tryd.underlying24] at hw
    have hlen : ((List.range len).map D).length * 32 ≤ reachBytes := by
      have := hw _ (List.mem_cons_self ..)
      rw [Ms.bytesInfo] at this
      refine Nat.le_trans (Nat.mul_le_mul_right _ (Nat.le_add_right _ _)) this
    rw [List.length_map, List.length_range] at hlen
    rw [cellsInfo] at hi
    have hml : len ≤ m := by rw [hmm]; split <;> omega
    have each : ∀ i, i < len → ∃ h : Run, W.cell? ((a.add (i * 4)).add 0) = some (.int .i64 h.num) ∧ W.cell? ((a.add (i * 4)).add 1) = some (.int .i64 h.lo) ∧ W.cell? ((a.add (i * 4)).add 2) = some (.int .i64 h.hi) ∧ W.cell? ((a.add (i * 4)).add 3) = some (.int .i64 h.cnt) ∧ (Lit.int .i64 h.num).wf = true := by
      intro i hil
      obtain ⟨cs', hc, ht⟩ := hi i (by omega)
      exact read_run hc ht
    obtain ⟨F, hF, hP⟩ := list_of len each
    refine ⟨some a, cap, F, by rw [hF], fun h0 => ?_, by omega⟩
    have hz : F[0]? = some F[0] := List.getElem?_eq_getElem h0
    have q0 := (hP 0 _ hz).1
    have hs : a.spot = none := World.cell?_spot q0
    have hlt : a.block < W.heap.size := World.block_lt_of_cell? W _ q0
    obtain ⟨b, off, spot⟩ := a
    simp only at hs
    subst hs
    refine ⟨b, off, rfl, hlt, fun j x hj => ?_⟩
    obtain ⟨r0, r1, r2, r3, _⟩ := hP j x hj
    rw [addLit, addLit] at r0 r1 r2 r3
    exact ⟨r0, r1, r2, r3⟩
theorem Ms.read_bool {base n : Nat} {sp : Nat → Bool} {held : Bool} {c : Value} {x : DataW H × List MemPlace} (h : DataW.trod enc Tryd.prog W base sp held n 4 [c] = some x) : ∃ z : Bool, c = .bool z := by
  obtain ⟨b, e, _⟩ := DataW.trod_bool Tryd.underlying4 h
  exact ⟨b, by simpa using e⟩
theorem Ms.read_u8 {base n : Nat} {sp : Nat → Bool} {held : Bool} {c : Value} {x : DataW H × List MemPlace} (h : DataW.trod enc Tryd.prog W base sp held n 5 [c] = some x) : ∃ z : UInt8, c = .int .u8 z.toNat := by
  obtain ⟨n0, e0, _, w0⟩ := DataW.trod_int Tryd.underlying5 h
  obtain ⟨b1, b2⟩ := bounds_u8 w0
  refine ⟨UInt8.ofNat n0.toNat, ?_⟩
  have hn : ((UInt8.ofNat n0.toNat).toNat : Int) = n0 := by
    rw [UInt8.toNat_ofNat']
    omega
  rw [hn]
  simpa using e0
set_option maxRecDepth 100000 in
set_option maxHeartbeats 2000000 in
theorem Ms.read_try {base n : Nat} {sp : Nat → Bool} {held : Bool} {a : Addr} {cs : List Value} {x : DataW H × List MemPlace} (hc : W.cells? base a 11 = some cs) (ht : DataW.trod enc Tryd.prog W base sp held n 45 cs = some x)
    (hw : ∀ k ∈ x.1.weights Tryd.prog 45, k ≤ reachBytes) :
    ∃ t : Ms.Ty, (∀ i v, t.cells[i]? = some v → W.cell? (a.add i) = some v) ∧ Ms.TyFit W t := by
  obtain ⟨_, hl, hat⟩ := World.cells?_some hc
  obtain ⟨xs, n1, _, rfl, hl1, hlen1, hf1⟩ := DataW.trod_struct Tryd.underlying45 ht
  match cs, hl, xs, hlen1 with
  | [c0, c1, c2, c3, c4, c5, c6, c7, c8, c9, c10], _, [y0, y1, y2, y3, y4], _ =>
    have t0 := hf1 0 _ rfl
    have t1 := hf1 1 _ rfl
    have t2 := hf1 2 _ rfl
    have t3 := hf1 3 _ rfl
    have t4 := hf1 4 _ rfl
    simp only [DataW.weights, Tryd.underlying45, DataW.weightsEach, List.map_cons, List.map_nil] at hw
    have t0' : DataW.trod enc Tryd.prog W base sp held n1 26 [c0, c1, c2, c3, c4, c5, c6] = some y0 := t0
    obtain ⟨ys, n2, _, hx2, hl2, hlen2, hf2⟩ := DataW.trod_struct Tryd.underlying26 t0'
    obtain ⟨n7, rfl, w7⟩ := read_int (c := c7) t1
    obtain ⟨b8, rfl⟩ := Ms.read_bool (c := c8) t2
    obtain ⟨n9, rfl, w9⟩ := read_int (c := c9) t3
    obtain ⟨n10, rfl⟩ := Ms.read_u8 (c := c10) t4
    match ys, hlen2 with
    | [z0, z1, z2, z3, z4], _ =>
      have s0 := hf2 0 _ rfl
      have s1 := hf2 1 _ rfl
      have s2 := hf2 2 _ rfl
      have s3 := hf2 3 _ rfl
      have s4 := hf2 4 _ rfl
      obtain ⟨u0, u1, u2, m, _, _, q0, q1, q2⟩ := trod_struct3 Tryd.underlying23 s0
      rw [cellsInts] at q0 q1 q2
      obtain ⟨a0, rfl, _⟩ := read_int (c := c0) q0
      obtain ⟨a1, rfl, _⟩ := read_int (c := c1) q1
      obtain ⟨a2, rfl, _⟩ := read_int (c := c2) q2
      obtain ⟨a3, rfl, _⟩ := read_int (c := c3) s1
      obtain ⟨a4, rfl, _⟩ := read_int (c := c4) s2
      obtain ⟨a5, rfl, _⟩ := read_int (c := c5) s3
      obtain ⟨A, cp, F, rfl, hF, hFl⟩ := Ms.open_rs_in (v := c6) s4 fun k hk => hw k (by
        rw [hx2]
        simp only [DataW.weights, Tryd.underlying26, DataW.weightsEach, List.map_cons, List.map_nil, List.mem_append]
        exact .inl (.inr (.inr (.inr (.inr (.inl hk))))))
      obtain ⟨p7, q7⟩ := bounds_i64 w7
      refine ⟨⟨⟨a0, a1, a2, a3, a4, a5, F⟩, A, cp, n7, b8, n9, n10⟩, fun i v hi => ?_, hF, hFl, p7, Int.lt_of_le_of_lt q7 (by decide)⟩
      have hlt : i < 11 := (List.getElem?_eq_some_iff.1 hi).1
      rw [hat i hlt, ← hi]
      rfl
/-- Tries that lie one behind the other. -/
def Ms.Tys (W : World) (B : Nat) (A : Option Addr) (L : List Ms.Ty) : Prop := 0 < L.length → ∃ b off, A = some ⟨b, off, none⟩ ∧ b < B ∧ ∀ j t, L[j]? = some t → ∀ i v, t.cells[i]? = some v → W.cell? ⟨b, off + (j * 11 + i), none⟩ = some v
set_option maxRecDepth 100000 in
theorem Ms.open_tries {base : Nat} {b0 : Nat} {v : Value} {d : DataW H} {p : List MemPlace} (hv : Value.okWide Tryd.prog W .any b0 43 v) (h : DataW.Trod enc Tryd.prog W base (fun _ => true) true 43 v d p)
    (hw : ∀ k ∈ d.weights Tryd.prog 43, k ≤ reachBytes) :
    ∃ (A : Option Addr) (c : Nat) (L : List Ms.Ty), v = .slice A L.length c ∧ Ms.Tys W W.heap.size A L ∧ ∀ t ∈ L, Ms.TyFit W t := by
  obtain ⟨fuel, hf⟩ := h
  obtain ⟨a0, l0, c0, rfl⟩ := okWide_slice Tryd.underlying43 hv
  rcases open_slice Tryd.underlying43 hf with ⟨hcs, hx⟩ | ⟨a, len, cap, m, n, D, Pl, hcs, hb, hl, hm, hmm, hx, hi⟩
  · simp [Value.cells] at hcs
    obtain ⟨rfl, rfl, rfl⟩ := hcs
    exact ⟨none, 0, [], rfl, fun h => absurd h (by simp), fun r hr => by simp at hr⟩
  · simp [Value.cells] at hcs
    obtain ⟨rfl, rfl, rfl⟩ := hcs
    obtain rfl := (Prod.mk.inj hx).1
    clear hx
    simp only [DataW.weights, Tryd.underlying43] at hw
    rw [Ms.cellsTry] at hi
    have hml : l0 ≤ m := by rw [hmm]; simp; omega
    have each : ∀ i, i < l0 → ∃ s : Ms.Ty, (∀ j v, s.cells[j]? = some v → W.cell? ((a.add (i * 11)).add j) = some v) ∧ Ms.TyFit W s := by
      intro i hil
      obtain ⟨cs', hc, ht⟩ := hi i (by omega)
      refine Ms.read_try hc ht fun k hk => hw k (List.mem_cons_of_mem _ (List.mem_append_left _ ?_))
      exact Ms.weights_in (List.mem_map.2 ⟨i, List.mem_range.2 hil, rfl⟩) k hk
    obtain ⟨F, hF, hP⟩ := list_of l0 each
    refine ⟨some a, c0, F, by rw [hF], fun h0 => ?_, fun r hr => ?_⟩
    · have q0 := (hP 0 _ (List.getElem?_eq_getElem h0)).1 0 _ rfl
      have hs : a.spot = none := World.cell?_spot q0
      have hlt : a.block < W.heap.size := World.block_lt_of_cell? W _ q0
      obtain ⟨b, off, spot⟩ := a
      simp only at hs
      subst hs
      refine ⟨b, off, rfl, hlt, fun k r hk i v hv => ?_⟩
      have := (hP k r hk).1 i v hv
      rw [addLit, addLit, Nat.add_assoc] at this
      exact this
    · obtain ⟨i, hi⟩ := List.mem_iff_getElem?.1 hr
      exact (hP i r hi).2
end
#print axioms Ms.open_tries
end Go.Proofs.YtknemjnlcghafaaDoor
