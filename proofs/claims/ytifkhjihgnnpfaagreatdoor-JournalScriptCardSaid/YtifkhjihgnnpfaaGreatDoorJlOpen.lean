/- An argument that is a list of updates, opened. Conditions: each theorem's own hypotheses. -/
import Derived.Test.YtifkhjihgnnpfaaGreatDoorJlH
import Derived.Deep.Slices
import Derived.Deep.Strs
import Derived.Lib.SmallJoins
import Derived.ChangeArms
import Derived.ProofKit
import Derived.OpenShut
import Derived.SizedLaws
namespace Go.Proofs.YtifkhjihgnnpfaaGreatDoor
open Go.ChangeShapes Go.WideShapes Go.RowKit Go.Deep
set_option linter.unusedVariables false

theorem Jl.cellsUpd : Tryz.prog.cellsOf 33 = 4 := by kernel_rfl
theorem Jl.cellsInt : Tryz.prog.cellsOf 3 = 1 := by kernel_rfl
theorem Jl.cellsStr : Tryz.prog.cellsOf 9 = 1 := by kernel_rfl
/-- A list out of its elements. -/
theorem Jl.list_of {α : Type} {P : Nat → α → Prop} : ∀ n, (∀ i, i < n → ∃ x, P i x) → ∃ l : List α, l.length = n ∧ ∀ i x, l[i]? = some x → P i x
  | 0, _ => ⟨[], rfl, fun i x h => by simp at h⟩
  | n + 1, h => by
    obtain ⟨l, hl, hp⟩ := Jl.list_of n fun i hi => h i (by omega)
    obtain ⟨x, hx⟩ := h n (by omega)
    refine ⟨l ++ [x], by simp [hl], fun i y hy => ?_⟩
    by_cases e : i < n
    · rw [List.getElem?_append_left (by omega)] at hy
      exact hp i y hy
    · have hi : i = n := by
        have := (List.getElem?_eq_some_iff.1 hy).1
        rw [List.length_append, hl] at this
        simp at this; omega
      subst hi
      rw [List.getElem?_append_right (by omega), hl, Nat.sub_self] at hy
      obtain rfl := Option.some.inj hy
      exact hx
theorem Jl.weights_all {H : Type} {P : Program} {e : TypeId} {d : DataW H} {n : Nat} (hn : n ∈ d.weights P e) : ∀ {el : List (DataW H)} {j : Nat}, el[j]? = some d → n ∈ DataW.weightsAll P e el
  | [], j, h => by simp at h
  | x :: el, 0, h => by
    obtain rfl := Option.some.inj h
    simp only [DataW.weightsAll, List.mem_append]
    exact .inl hn
  | x :: el, j + 1, h => by
    simp only [DataW.weightsAll, List.mem_append]
    exact .inr (Jl.weights_all hn (by simpa using h))
/-- What the reading of such a list is like. -/
abbrev Jl.UpdD {H : Type} (F : List Jl.In) (d : DataW H) : Prop := F = [] ∨ ∃ (el sp : List (DataW H)), d = DataW.slice el sp ∧ el.length = F.length ∧ ∀ (j : Nat) (x : Jl.In), F[j]? = some x → ∃ e0 e1 e2 : DataW H, el[j]? = some (DataW.agg [e0, e1, e2, DataW.lit (.string x.c.data.toList)])
section
variable {H : Type} {enc : TypeId × Value → H} {W : World}
set_option maxRecDepth 100000 in
theorem Jl.read_upd {base n : Nat} {sp : Nat → Bool} {held : Bool} {a : Addr} {cs : List Value} {D : DataW H} {Pl : List MemPlace} (hc : W.cells? base a 4 = some cs) (ht : DataW.trod enc Tryz.prog W base sp held n 33 cs = some (D, Pl)) :
    ∃ h : Jl.In, W.cell? (a.add 0) = some (.int .i64 h.q) ∧ W.cell? (a.add 1) = some (.int .i64 h.k) ∧ W.cell? (a.add 2) = some (.int .i64 h.i) ∧ W.cell? (a.add 3) = some (.string h.c) ∧ ∃ e0 e1 e2 : DataW H, D = DataW.agg [e0, e1, e2, .lit (.string h.c.data.toList)] := by
  obtain ⟨_, hl, hat⟩ := World.cells?_some hc
  obtain ⟨y0, y1, y2, y3, m, hx, _, t0, t1, t2, t3⟩ := Joins.trod_struct4 Tryz.underlying33 ht
  have h0 := hat 0 (by omega)
  have h1 := hat 1 (by omega)
  have h2 := hat 2 (by omega)
  have h3 := hat 3 (by omega)
  match cs, hl with
  | [c0, c1, c2, c3], _ =>
    rw [Jl.cellsInt] at t0 t1 t2
    rw [Jl.cellsStr] at t3
    obtain ⟨n0, e0, _, _⟩ := DataW.trod_int Tryz.underlying3 t0
    obtain ⟨n1, e1, _, _⟩ := DataW.trod_int Tryz.underlying3 t1
    obtain ⟨n2, e2, _, _⟩ := DataW.trod_int Tryz.underlying3 t2
    obtain ⟨s3, e3, z3, _⟩ := DataW.trod_string Tryz.underlying9 t3
    have e0' : c0 = .int .i64 n0 := by simpa using e0
    have e1' : c1 = .int .i64 n1 := by simpa using e1
    have e2' : c2 = .int .i64 n2 := by simpa using e2
    have e3' : c3 = .string s3 := by simpa using e3
    subst e0' e1' e2' e3'
    refine ⟨⟨n0, n1, n2, s3⟩, h0, h1, h2, h3, y0.1, y1.1, y2.1, ?_⟩
    rw [(Prod.mk.inj hx).1, z3]

set_option maxRecDepth 100000 in
theorem Jl.open_upds {base : Nat} {b0 : Nat} {v : Value} {d : DataW H} {p : List MemPlace} (hv : Value.okWide Tryz.prog W .any b0 54 v) (h : DataW.Trod enc Tryz.prog W base (fun _ => true) true 54 v d p) :
    ∃ (A : Option Addr) (c : Nat) (F : List Jl.In), v = .slice A F.length c ∧ Jl.Ins W W.heap.size A F ∧ Jl.UpdD F d := by
  obtain ⟨fuel, hf⟩ := h
  obtain ⟨a0, l0, c0, rfl⟩ := okWide_slice Tryz.underlying54 hv
  rcases open_slice Tryz.underlying54 hf with ⟨hcs, hx⟩ | ⟨a, len, cap, m, n, D, Pl, hcs, hb, hl, hm, hmm, hx, hi⟩
  · simp [Value.cells] at hcs
    obtain ⟨rfl, rfl, rfl⟩ := hcs
    exact ⟨none, 0, [], rfl, fun h => absurd h (by simp), Or.inl rfl⟩
  · simp [Value.cells] at hcs
    obtain ⟨rfl, rfl, rfl⟩ := hcs
    rw [Jl.cellsUpd] at hi
    have each : ∀ i, i < l0 → ∃ h : Jl.In, W.cell? ((a.add (i * 4)).add 0) = some (.int .i64 h.q) ∧ W.cell? ((a.add (i * 4)).add 1) = some (.int .i64 h.k) ∧ W.cell? ((a.add (i * 4)).add 2) = some (.int .i64 h.i) ∧ W.cell? ((a.add (i * 4)).add 3) = some (.string h.c) ∧ ∃ e0 e1 e2 : DataW H, D i = DataW.agg [e0, e1, e2, .lit (.string h.c.data.toList)] := by
      intro i hil
      obtain ⟨cs', hc, ht⟩ := hi i (by rw [hmm]; simp; omega)
      exact Jl.read_upd hc ht
    obtain ⟨F, hF, hP⟩ := Jl.list_of l0 each
    refine ⟨some a, c0, F, by rw [hF], ?_, Or.inr ⟨_, _, (Prod.mk.inj hx).1, by simp [hF], fun j x hj => ?_⟩⟩
    · intro h0
      have hz : F[0]? = some F[0] := List.getElem?_eq_getElem h0
      have q0 := (hP 0 _ hz).1
      have hs : a.spot = none := World.cell?_spot q0
      have hlt : a.block < W.heap.size := World.block_lt_of_cell? W _ q0
      obtain ⟨b, off, spot⟩ := a
      simp only at hs
      subst hs
      refine ⟨b, off, rfl, hlt, fun j x hj => ?_⟩
      obtain ⟨r0, r1, r2, r3, _⟩ := hP j x hj
      rw [Jl.addLit, Jl.addLit] at r0 r1 r2 r3
      exact ⟨r0, r1, r2, r3⟩
    · obtain ⟨_, _, _, _, e0, e1, e2, he⟩ := hP j x hj
      have hjl : j < l0 := by rw [← hF]; exact (List.getElem?_eq_some_iff.1 hj).1
      exact ⟨e0, e1, e2, by rw [List.getElem?_map, List.getElem?_range hjl]; exact congrArg some he⟩
set_option maxRecDepth 100000 in
theorem Jl.upds_reach {F : List Jl.In} {d : DataW H} {ts : List TypeId} {ds : List (DataW H)} {i : Nat} (hz : (DataW.weightsEach Tryz.prog ts ds).all (· ≤ reachBytes) = true) (ht : ts[i]? = some 54) (hd : ds[i]? = some d)
    (h : Jl.UpdD F d) :
    F.length ≤ 140737488355328 ∧ ∀ x ∈ F, x.c.size ≤ 140737488355328 := by
  have hr : reachBytes ≤ 140737488355328 := by decide
  rcases h with rfl | ⟨el, sp, rfl, he, hs⟩
  · exact ⟨by simp, fun x hx => by simp at hx⟩
  · refine ⟨?_, fun x hx => ?_⟩
    · have hq := of_decide_eq_true (List.all_eq_true.1 hz _ (DataW.weights_mem_each ht hd ((el.length + sp.length) * Tryz.prog.bytesOf 33) (by simp [DataW.weights, Tryz.underlying54])))
      rw [show Tryz.prog.bytesOf 33 = 40 by kernel_rfl, he] at hq
      omega
    · obtain ⟨j, hj⟩ := List.getElem?_of_mem hx
      obtain ⟨e0, e1, e2, hel⟩ := hs j x hj
      have hw : x.c.data.toList.length ∈ DataW.weights Tryz.prog 33 (DataW.agg [e0, e1, e2, DataW.lit (.string x.c.data.toList)]) := by simp [DataW.weights, DataW.weightsEach, Tryz.underlying33]
      have hq := of_decide_eq_true (List.all_eq_true.1 hz _ (DataW.weights_mem_each ht hd x.c.data.toList.length (by
        simp only [DataW.weights, Tryz.underlying54, List.mem_cons, List.mem_append]
        exact .inr (.inl (Jl.weights_all hw hel)))))
      rw [Array.length_toList] at hq
      exact Nat.le_trans hq hr
end
#print axioms Jl.upds_reach
end Go.Proofs.YtifkhjihgnnpfaaGreatDoor
