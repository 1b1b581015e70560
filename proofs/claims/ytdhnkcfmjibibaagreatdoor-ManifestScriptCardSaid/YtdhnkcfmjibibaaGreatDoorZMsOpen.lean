/- An argument that is a manifest, opened. Conditions: each theorem's own hypotheses. -/
import Derived.Test.YtdhnkcfmjibibaaGreatDoorMfI
import Derived.Deep.Slices
import Derived.Deep.Strs
import Derived.Lib.SmallJoins
import Derived.ChangeArms
import Derived.ProofKit
import Derived.OpenShut
import Derived.SizedLaws
namespace Go.Proofs.YtdhnkcfmjibibaaGreatDoor
open Go.ChangeShapes Go.WideShapes Go.RowKit Go.Deep
set_option linter.unusedVariables false

theorem cellsInfo : Tryz.prog.cellsOf 42 = 4 := by kernel_rfl
theorem cellsMan : Tryz.prog.cellsOf 31 = 7 := by kernel_rfl
theorem cellsOpts : Tryz.prog.cellsOf 28 = 3 := by kernel_rfl
theorem cellsInts : Tryz.prog.cellsOf 3 = 1 := by kernel_rfl
theorem cellsRuns : Tryz.prog.cellsOf 29 = 1 := by kernel_rfl

/-- A list out of its elements. -/
theorem list_of {α : Type} {P : Nat → α → Prop} : ∀ n, (∀ i, i < n → ∃ x, P i x) → ∃ l : List α, l.length = n ∧ ∀ i x, l[i]? = some x → P i x
  | 0, _ => ⟨[], rfl, fun i x h => by simp at h⟩
  | n + 1, h => by
    obtain ⟨l, hl, hp⟩ := list_of n fun i hi => h i (by omega)
    obtain ⟨x, hx⟩ := h n (by omega)
    refine ⟨l ++ [x], by simp [hl], fun i y hy => ?_⟩
    by_cases e : i < n
    · rw [List.getElem?_append_left (by omega)] at hy
      exact hp i y hy
    · have hi : i = n := by
        have := (List.getElem?_eq_some_iff.1 hy).1
        rw [List.length_append, hl] at this
        simp at this; omega
      subst hi
      rw [List.getElem?_append_right (by omega), hl, Nat.sub_self] at hy
      obtain rfl := Option.some.inj hy
      exact hx

section
variable {H : Type} {enc : TypeId × Value → H} {W : World}
theorem read_int {base n : Nat} {sp : Nat → Bool} {held : Bool} {c : Value} {x : DataW H × List MemPlace} (h : DataW.trod enc Tryz.prog W base sp held n 3 [c] = some x) :
    ∃ z : Int, c = .int .i64 z ∧ (Lit.int .i64 z).wf = true := by
  obtain ⟨n0, e0, _, w0⟩ := DataW.trod_int Tryz.underlying3 h
  exact ⟨n0, by simpa using e0, w0⟩
set_option maxRecDepth 100000 in
theorem read_run {base n : Nat} {sp : Nat → Bool} {held : Bool} {a : Addr} {cs : List Value} {x : DataW H × List MemPlace} (hc : W.cells? base a 4 = some cs) (ht : DataW.trod enc Tryz.prog W base sp held n 42 cs = some x) :
    ∃ h : Run, W.cell? (a.add 0) = some (.int .i64 h.num) ∧ W.cell? (a.add 1) = some (.int .i64 h.lo) ∧ W.cell? (a.add 2) = some (.int .i64 h.hi) ∧ W.cell? (a.add 3) = some (.int .i64 h.cnt) ∧ (Lit.int .i64 h.num).wf = true := by
  obtain ⟨_, hl, hat⟩ := World.cells?_some hc
  obtain ⟨y0, y1, y2, y3, m, _, _, t0, t1, t2, t3⟩ := Joins.trod_struct4 Tryz.underlying42 ht
  have h0 := hat 0 (by omega)
  have h1 := hat 1 (by omega)
  have h2 := hat 2 (by omega)
  have h3 := hat 3 (by omega)
  match cs, hl with
  | [c0, c1, c2, c3], _ =>
    rw [cellsInts] at t0 t1 t2 t3
    obtain ⟨n0, e0, w0⟩ := read_int t0
    obtain ⟨n1, e1, _⟩ := read_int t1
    obtain ⟨n2, e2, _⟩ := read_int t2
    obtain ⟨n3, e3, _⟩ := read_int t3
    subst e0 e1 e2 e3
    exact ⟨⟨n0, n1, n2, n3⟩, h0, h1, h2, h3, w0⟩

theorem open_runs {base n : Nat} {v : Value} {x : DataW H × List MemPlace} (hf : DataW.trod enc Tryz.prog W base (fun _ => true) true n 29 [v] = some x) :
    ∃ (A : Option Addr) (c : Nat) (F : List Run), v = .slice A F.length c ∧ Rs W W.heap.size A F ∧ (A = none → c = 0 ∧ F = []) ∧ (∀ x ∈ F, (Lit.int .i64 x.num).wf = true) ∧ (F = [] ∨ ∃ el sp, x.1 = .slice el sp ∧ el.length = F.length) := by
  rcases open_slice Tryz.underlying29 hf with ⟨hcs, hx⟩ | ⟨a, len, cap, m, n, D, Pl, hcs, hb, hl, hm, hmm, hx, hi⟩
  · simp at hcs
    subst hcs
    exact ⟨none, 0, [], rfl, fun h => absurd h (by simp), fun _ => ⟨rfl, rfl⟩, fun x hx => by simp at hx, Or.inl rfl⟩
  · simp at hcs
    subst hcs
    rw [cellsInfo] at hi
    have each : ∀ i, i < len → ∃ h : Run, W.cell? ((a.add (i * 4)).add 0) = some (.int .i64 h.num) ∧ W.cell? ((a.add (i * 4)).add 1) = some (.int .i64 h.lo) ∧ W.cell? ((a.add (i * 4)).add 2) = some (.int .i64 h.hi) ∧ W.cell? ((a.add (i * 4)).add 3) = some (.int .i64 h.cnt) ∧ (Lit.int .i64 h.num).wf = true := by
      intro i hil
      obtain ⟨cs', hc, ht⟩ := hi i (by rw [hmm]; simp; omega)
      exact read_run hc ht
    obtain ⟨F, hF, hP⟩ := list_of len each
    refine ⟨some a, cap, F, by rw [hF], ?_, (fun h => by cases h), ?_, Or.inr ⟨_, _, by rw [hx], by simp [hF]⟩⟩
    · intro h0
      have hz : F[0]? = some F[0] := List.getElem?_eq_getElem h0
      have q0 := (hP 0 _ hz).1
      have hs : a.spot = none := World.cell?_spot q0
      have hlt : a.block < W.heap.size := World.block_lt_of_cell? W _ q0
      obtain ⟨b, off, spot⟩ := a
      simp only at hs
      subst hs
      refine ⟨b, off, rfl, hlt, fun j x hj => ?_⟩
      obtain ⟨r0, r1, r2, r3, _⟩ := hP j x hj
      rw [addLit, addLit] at r0 r1 r2 r3
      exact ⟨r0, r1, r2, r3⟩
    · intro x hx
      obtain ⟨i, hi⟩ := List.mem_iff_getElem?.1 hx
      exact (hP i x hi).2.2.2.2

set_option maxRecDepth 100000 in
theorem open_man {base : Nat} {b0 : Nat} {v : Value} {d : DataW H} {p : List MemPlace} (hv : Value.okWide Tryz.prog W .any b0 31 v) (h : DataW.Trod enc Tryz.prog W base (fun _ => true) true 31 v d p) :
    ∃ (M : Man) (A : Option Addr) (c : Nat), v = manV M A c ∧ Rs W W.heap.size A M.runs ∧ (A = none → c = 0 ∧ M.runs = []) ∧ (Lit.int .i64 M.w).wf = true ∧ (Lit.int .i64 M.c).wf = true ∧ (Lit.int .i64 M.m).wf = true ∧ (Lit.int .i64 M.jr).wf = true ∧ (∀ r ∈ M.runs, (Lit.int .i64 r.num).wf = true) ∧
      (M.runs = [] ∨ ∃ e0 e1 e2 e3 el sp, d = .agg [e0, e1, e2, e3, .slice el sp] ∧ el.length = M.runs.length) := by
  obtain ⟨fuel, hf⟩ := h
  obtain ⟨cs, rfl, hsz⟩ := okWide_struct Tryz.underlying31 hv
  obtain ⟨xs, n, _, hx, hl, hlen, hat⟩ := DataW.trod_struct Tryz.underlying31 hf
  rw [cellsMan] at hsz
  obtain ⟨cs⟩ := cs
  match cs, hsz, xs, hlen with
  | [c0, c1, c2, c3, c4, c5, c6], _, [y0, y1, y2, y3, y4], _ =>
    have t0 := hat 0 _ rfl
    have t1 := hat 1 _ rfl
    have t2 := hat 2 _ rfl
    have t3 := hat 3 _ rfl
    have t4 := hat 4 _ rfl
    obtain ⟨z0, z1, z2, m, _, _, s0, s1, s2⟩ := trod_struct3 Tryz.underlying28 t0
    rw [cellsInts] at s0 s1 s2
    obtain ⟨a0, rfl, w0⟩ := read_int (c := c0) s0
    obtain ⟨a1, rfl, w1⟩ := read_int (c := c1) s1
    obtain ⟨a2, rfl, w2⟩ := read_int (c := c2) s2
    obtain ⟨a3, rfl, _⟩ := read_int (c := c3) t1
    obtain ⟨a4, rfl, _⟩ := read_int (c := c4) t2
    obtain ⟨a5, rfl, w5⟩ := read_int (c := c5) t3
    obtain ⟨A, c, F, rfl, HF, hA, hw, hd⟩ := open_runs (v := c6) t4
    refine ⟨⟨a0, a1, a2, a3, a4, a5, F⟩, A, c, rfl, HF, hA, w0, w1, w2, w5, hw, ?_⟩
    rcases hd with h | ⟨el, sp, he, hl⟩
    · exact Or.inl h
    · exact Or.inr ⟨_, _, _, _, el, sp, by rw [(Prod.mk.inj hx).1, ← he]; rfl, hl⟩

theorem runs_reach {F : List Run} {d : DataW H} {ts : List TypeId} {ds : List (DataW H)} {j : Nat} (hz : (DataW.weightsEach Tryz.prog ts ds).all (· ≤ reachBytes) = true) (ht : ts[j]? = some 31) (hd : ds[j]? = some d)
    (h : F = [] ∨ ∃ e0 e1 e2 e3 el sp, d = .agg [e0, e1, e2, e3, .slice el sp] ∧ el.length = F.length) : (F.length + 1) * 32 ≤ 140737488355328 := by
  rcases h with rfl | ⟨e0, e1, e2, e3, el, sp, rfl, he⟩
  · simp
  · have hq := of_decide_eq_true (List.all_eq_true.1 hz _ (DataW.weights_mem_each ht hd ((el.length + sp.length) * Tryz.prog.bytesOf 42) (by simp [DataW.weights, DataW.weightsEach, Tryz.underlying31, Tryz.underlying29])))
    rw [show Tryz.prog.bytesOf 42 = 32 by kernel_rfl, he] at hq
    have hr : reachBytes ≤ 140737488351232 := by decide
    have : F.length * 32 ≤ (F.length + sp.length) * 32 := Nat.mul_le_mul_right _ (Nat.le_add_right _ _)
    omega
theorem wf_bounds {z : Int} (h : (Lit.int .i64 z).wf = true) : -9223372036854775808 ≤ z ∧ z ≤ 9223372036854775807 := by
  simpa [Lit.wf, IntKind.min, IntKind.max, IntKind.bits, IntKind.signed] using h
theorem fit_of {M : Man} (hw : (Lit.int .i64 M.w).wf = true) (hj : (Lit.int .i64 M.jr).wf = true) (hr : ∀ r ∈ M.runs, (Lit.int .i64 r.num).wf = true) (hl : (M.runs.length + 1) * 32 ≤ 140737488355328) : Mf.Fit M :=
  ⟨wf_bounds hw, hj, hr, by omega⟩
end
end Go.Proofs.YtdhnkcfmjibibaaGreatDoor
/- An argument that is a list of tries, opened. Conditions: each theorem's own hypotheses. -/
namespace Go.Proofs.YtdhnkcfmjibibaaGreatDoor
open Go.ChangeShapes Go.WideShapes Go.RowKit Go.Deep
set_option linter.unusedVariables false

theorem Ms.cellsU8 : Tryz.prog.cellsOf 5 = 1 := by kernel_rfl
theorem Ms.cellsBool : Tryz.prog.cellsOf 4 = 1 := by kernel_rfl
theorem Ms.bytesInfo : Tryz.prog.bytesOf 42 = 32 := by kernel_rfl
theorem Ms.weights_in {H : Type} {P : Program} {e : TypeId} {d : DataW H} : ∀ {l : List (DataW H)}, d ∈ l → ∀ n ∈ d.weights P e, n ∈ DataW.weightsAll P e l
  | x :: l, h, n, hn => by
    simp only [DataW.weightsAll, List.mem_append]
    rcases List.mem_cons.1 h with rfl | h
    · exact .inl hn
    · exact .inr (Ms.weights_in h n hn)
/-- A try. -/
structure Ms.Ty where
  M : Man
  A : Option Addr
  cp : Nat
  ct : Int
  dn : Bool
  ke : Int
  sp : UInt8
def Ms.Ty.cells (t : Ms.Ty) : List Value := [.int .i64 t.M.w, .int .i64 t.M.c, .int .i64 t.M.m, .int .i64 t.M.seq, .int .i64 t.M.next, .int .i64 t.M.jr, .slice t.A t.M.runs.length t.cp, .int .i64 t.ct, .bool t.dn, .int .i64 t.ke, .int .u8 t.sp.toNat]
def Ms.TyFit (W : World) (t : Ms.Ty) : Prop := Rs W W.heap.size t.A t.M.runs ∧ t.M.runs.length ≤ 4398046511104 ∧ -9223372036854775808 ≤ t.ct ∧ t.ct < 9223372036854775808
section
variable {H : Type} {enc : TypeId × Value → H} {W : World}
set_option maxRecDepth 100000 in
theorem Ms.open_rs_in {base fuel : Nat} {sp : Nat → Bool} {held : Bool} {v : Value} {x : DataW H × List MemPlace} (h : DataW.trod enc Tryz.prog W base sp held fuel 29 [v] = some x)
    (hw : ∀ k ∈ x.1.weights Tryz.prog 29, k ≤ reachBytes) :
    ∃ (A : Option Addr) (c : Nat) (F : List Run), v = .slice A F.length c ∧ Rs W W.heap.size A F ∧ F.length ≤ 4398046511104 := by
  have hr : reachBytes ≤ 140737488355328 := by decide
  rcases open_slice Tryz.underlying29 h with ⟨hcs, hx⟩ | ⟨a, len, cap, m, n, D, Pl, hcs, hb, hl, hm, hmm, hx, hi⟩
  · obtain rfl : v = .slice none 0 0 := by simpa using hcs
    exact ⟨none, 0, [], rfl, fun h => absurd h (by simp), by simp⟩
  · obtain rfl : v = .slice (some a) len cap := by simpa using hcs
    subst hx
    simp only [DataW.weights, Tryz.underlying29] at hw
    have hlen : ((List.range len).map D).length * 32 ≤ reachBytes := by
      have := hw _ (List.mem_cons_self ..)
      rw [Ms.bytesInfo] at this
      refine Nat.le_trans (Nat.mul_le_mul_right _ (Nat.le_add_right _ _)) this
    rw [List.length_map, List.length_range] at hlen
    rw [cellsInfo] at hi
    have hml : len ≤ m := by rw [hmm]; split <;> omega
    have each : ∀ i, i < len → ∃ h : Run, W.cell? ((a.add (i * 4)).add 0) = some (.int .i64 h.num) ∧ W.cell? ((a.add (i * 4)).add 1) = some (.int .i64 h.lo) ∧ W.cell? ((a.add (i * 4)).add 2) = some (.int .i64 h.hi) ∧ W.cell? ((a.add (i * 4)).add 3) = some (.int .i64 h.cnt) ∧ (Lit.int .i64 h.num).wf = true := by
      intro i hil
      obtain ⟨cs', hc, ht⟩ := hi i (by omega)
      exact read_run hc ht
    obtain ⟨F, hF, hP⟩ := list_of len each
    refine ⟨some a, cap, F, by rw [hF], fun h0 => ?_, by omega⟩
    have hz : F[0]? = some F[0] := List.getElem?_eq_getElem h0
    have q0 := (hP 0 _ hz).1
    have hs : a.spot = none := World.cell?_spot q0
    have hlt : a.block < W.heap.size := World.block_lt_of_cell? W _ q0
    obtain ⟨b, off, spot⟩ := a
    simp only at hs
    subst hs
    refine ⟨b, off, rfl, hlt, fun j x hj => ?_⟩
    obtain ⟨r0, r1, r2, r3, _⟩ := hP j x hj
    rw [addLit, addLit] at r0 r1 r2 r3
    exact ⟨r0, r1, r2, r3⟩
theorem Ms.read_bool {base n : Nat} {sp : Nat → Bool} {held : Bool} {c : Value} {x : DataW H × List MemPlace} (h : DataW.trod enc Tryz.prog W base sp held n 4 [c] = some x) : ∃ z : Bool, c = .bool z := by
  obtain ⟨b, e, _⟩ := DataW.trod_bool Tryz.underlying4 h
  exact ⟨b, by simpa using e⟩
theorem Ms.read_u8 {base n : Nat} {sp : Nat → Bool} {held : Bool} {c : Value} {x : DataW H × List MemPlace} (h : DataW.trod enc Tryz.prog W base sp held n 5 [c] = some x) : ∃ z : UInt8, c = .int .u8 z.toNat := by
  obtain ⟨n0, e0, _, w0⟩ := DataW.trod_int Tryz.underlying5 h
  obtain ⟨b1, b2⟩ := bounds_u8 w0
  refine ⟨UInt8.ofNat n0.toNat, ?_⟩
  have hn : ((UInt8.ofNat n0.toNat).toNat : Int) = n0 := by
    rw [UInt8.toNat_ofNat']
    omega
  rw [hn]
  simpa using e0
/-- Tries that lie one behind the other. -/
def Ms.Tys (W : World) (B : Nat) (A : Option Addr) (L : List Ms.Ty) : Prop := 0 < L.length → ∃ b off, A = some ⟨b, off, none⟩ ∧ b < B ∧ ∀ j t, L[j]? = some t → ∀ i v, t.cells[i]? = some v → W.cell? ⟨b, off + (j * 11 + i), none⟩ = some v
end
end Go.Proofs.YtdhnkcfmjibibaaGreatDoor
