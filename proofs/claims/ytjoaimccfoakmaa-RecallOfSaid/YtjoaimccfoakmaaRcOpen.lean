/- An argument that is a list of hits, opened. Conditions: each theorem's own hypotheses. -/
import Derived.Test.YtjoaimccfoakmaaRcE
import Derived.Deep.Slices
import Derived.Deep.Strs
import Derived.ChangeArms
import Derived.ProofKit
import Derived.OpenShut
namespace Go.Proofs.Ytjoaimccfoakmaa
open Go.ChangeShapes Go.WideShapes Go.RowKit Go.Deep
set_option linter.unusedVariables false

theorem Try.cellsHit : Try.prog.cellsOf 29 = 3 := by kernel_rfl
theorem Try.cellsInt : Try.prog.cellsOf 3 = 1 := by kernel_rfl
theorem Try.cellsStr : Try.prog.cellsOf 9 = 1 := by kernel_rfl

/-- A list out of its elements. -/
theorem list_of {α : Type} {P : Nat → α → Prop} : ∀ n, (∀ i, i < n → ∃ x, P i x) → ∃ l : List α, l.length = n ∧ ∀ i x, l[i]? = some x → P i x
  | 0, _ => ⟨[], rfl, fun i x h => by simp at h⟩
  | n + 1, h => by
    obtain ⟨l, hl, hp⟩ := list_of n fun i hi => h i (by omega)
    obtain ⟨x, hx⟩ := h n (by omega)
    refine ⟨l ++ [x], by simp [hl], fun i y hy => ?_⟩
    by_cases e : i < n
    · rw [List.getElem?_append_left (by omega)] at hy
      exact hp i y hy
    · have hi : i = n := by
        have := (List.getElem?_eq_some_iff.1 hy).1
        rw [List.length_append, hl] at this
        simp at this; omega
      subst hi
      rw [List.getElem?_append_right (by omega), hl, Nat.sub_self] at hy
      obtain rfl := Option.some.inj hy
      exact hx

section
variable {H : Type} {enc : TypeId × Value → H} {W : World}
theorem read_hit {base n : Nat} {sp : Nat → Bool} {held : Bool} {a : Addr} {cs : List Value} {x : DataW H × List MemPlace} (hc : W.cells? base a 3 = some cs) (ht : DataW.trod enc Try.prog W base sp held n 29 cs = some x) :
    ∃ h : Hit, W.cell? (a.add 0) = some (.int .i64 h.dist) ∧ W.cell? (a.add 1) = some (.int .i64 h.id) ∧ W.cell? (a.add 2) = some (.string h.code) ∧ (Lit.int .i64 h.id).wf = true := by
  obtain ⟨_, hl, hat⟩ := World.cells?_some hc
  obtain ⟨y0, y1, y2, m, _, _, t0, t1, t2⟩ := trod_struct3 Try.underlying29 ht
  have h0 := hat 0 (by omega)
  have h1 := hat 1 (by omega)
  have h2 := hat 2 (by omega)
  match cs, hl with
  | [c0, c1, c2], _ =>
    rw [Try.cellsInt] at t0 t1
    rw [Try.cellsStr] at t2
    obtain ⟨n0, e0, _, _⟩ := DataW.trod_int Try.underlying3 t0
    obtain ⟨n1, e1, _, w1⟩ := DataW.trod_int Try.underlying3 t1
    obtain ⟨s2, e2, _, _⟩ := DataW.trod_string Try.underlying9 t2
    have e0' : c0 = .int .i64 n0 := by simpa using e0
    have e1' : c1 = .int .i64 n1 := by simpa using e1
    have e2' : c2 = .string s2 := by simpa using e2
    subst e0' e1' e2'
    exact ⟨⟨n0, n1, s2⟩, h0, h1, h2, w1⟩

theorem open_hits {base : Nat} {b0 : Nat} {v : Value} {d : DataW H} {p : List MemPlace} (hv : Value.okWide Try.prog W .any b0 22 v) (h : DataW.Trod enc Try.prog W base (fun _ => true) true 22 v d p) :
    ∃ (A : Option Addr) (c : Nat) (F : List Hit), v = .slice A F.length c ∧ Hs W W.heap.size A F ∧ (A = none → c = 0 ∧ F = []) ∧ (∀ x ∈ F, (Lit.int .i64 x.id).wf = true) ∧ (F = [] ∨ ∃ el sp, d = .slice el sp ∧ el.length = F.length) := by
  obtain ⟨fuel, hf⟩ := h
  obtain ⟨a0, l0, c0, rfl⟩ := okWide_slice Try.underlying22 hv
  rcases open_slice Try.underlying22 hf with ⟨hcs, hx⟩ | ⟨a, len, cap, m, n, D, Pl, hcs, hb, hl, hm, hmm, hx, hi⟩
  · simp [Value.cells] at hcs
    obtain ⟨rfl, rfl, rfl⟩ := hcs
    exact ⟨none, 0, [], rfl, fun h => absurd h (by simp), fun _ => ⟨rfl, rfl⟩, fun x hx => by simp at hx, Or.inl rfl⟩
  · simp [Value.cells] at hcs
    obtain ⟨rfl, rfl, rfl⟩ := hcs
    rw [Try.cellsHit] at hi
    have each : ∀ i, i < l0 → ∃ h : Hit, W.cell? ((a.add (i * 3)).add 0) = some (.int .i64 h.dist) ∧ W.cell? ((a.add (i * 3)).add 1) = some (.int .i64 h.id) ∧ W.cell? ((a.add (i * 3)).add 2) = some (.string h.code) ∧ (Lit.int .i64 h.id).wf = true := by
      intro i hil
      obtain ⟨cs', hc, ht⟩ := hi i (by rw [hmm]; simp; omega)
      exact read_hit hc ht
    obtain ⟨F, hF, hP⟩ := list_of l0 each
    refine ⟨some a, c0, F, by rw [hF], ?_, (fun h => by cases h), ?_, Or.inr ⟨_, _, (Prod.mk.inj hx).1, by simp [hF]⟩⟩
    · intro h0
      have hz : F[0]? = some F[0] := List.getElem?_eq_getElem h0
      have q0 := (hP 0 _ hz).1
      have hs : a.spot = none := World.cell?_spot q0
      have hlt : a.block < W.heap.size := World.block_lt_of_cell? W _ q0
      obtain ⟨b, off, spot⟩ := a
      simp only at hs
      subst hs
      refine ⟨b, off, rfl, hlt, fun j x hj => ?_⟩
      obtain ⟨r0, r1, r2, _⟩ := hP j x hj
      rw [add_lit, add_lit] at r0 r1 r2
      exact ⟨r0, r1, r2⟩
    · intro x hx
      obtain ⟨i, hi⟩ := List.mem_iff_getElem?.1 hx
      exact (hP i x hi).2.2.2
end
end Go.Proofs.Ytjoaimccfoakmaa
