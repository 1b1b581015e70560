/- An argument that is a list of integers, opened. Conditions: each theorem's own hypotheses. -/
import Derived.Test.YtikhahkmebkccaaDoorBkOpen
namespace Go.Proofs.YtikhahkmebkccaaDoor
open Go.ChangeShapes Go.WideShapes Go.RowKit Go.Deep
set_option linter.unusedVariables false

/-- Integers that lie one behind the other. -/
def Bk.Ints (W : World) (B : Nat) (A : Option Addr) (F : List Int) : Prop := 0 < F.length → ∃ b off, A = some ⟨b, off, none⟩ ∧ b < B ∧ ∀ j z, F[j]? = some z → W.cell? ⟨b, off + j, none⟩ = some (.int .i64 z)
/-- What the reading of such a list is like. -/
abbrev Bk.IntD {H : Type} (F : List Int) (d : DataW H) : Prop := F = [] ∨ ∃ (el sp : List (DataW H)), d = DataW.slice el sp ∧ el.length = F.length
section
variable {H : Type} {enc : TypeId × Value → H} {W : World}
set_option maxRecDepth 100000 in
theorem Bk.open_ints {base : Nat} {b0 : Nat} {v : Value} {d : DataW H} {p : List MemPlace} (hv : Value.okWide Tryd.prog W .any b0 22 v) (h : DataW.Trod enc Tryd.prog W base (fun _ => true) true 22 v d p) :
    ∃ (A : Option Addr) (c : Nat) (F : List Int), v = .slice A F.length c ∧ Bk.Ints W W.heap.size A F ∧ Bk.IntD F d := by
  obtain ⟨fuel, hf⟩ := h
  obtain ⟨a0, l0, c0, rfl⟩ := okWide_slice Tryd.underlying22 hv
  rcases open_slice Tryd.underlying22 hf with ⟨hcs, hx⟩ | ⟨a, len, cap, m, n, D, Pl, hcs, hb, hl, hm, hmm, hx, hi⟩
  · simp [Value.cells] at hcs
    obtain ⟨rfl, rfl, rfl⟩ := hcs
    exact ⟨none, 0, [], rfl, fun h => absurd h (by simp), Or.inl rfl⟩
  · simp [Value.cells] at hcs
    obtain ⟨rfl, rfl, rfl⟩ := hcs
    rw [Bk.cellsInt] at hi
    have each : ∀ i, i < l0 → ∃ z : Int, W.cell? ((a.add (i * 1)).add 0) = some (.int .i64 z) := by
      intro i hil
      obtain ⟨cs', hc, ht⟩ := hi i (by rw [hmm]; simp; omega)
      obtain ⟨_, hl1, hat⟩ := World.cells?_some hc
      have h0 := hat 0 (by omega)
      obtain ⟨n0, e0, _, _⟩ := DataW.trod_int Tryd.underlying3 ht
      subst e0
      exact ⟨n0, h0⟩
    obtain ⟨F, hF, hP⟩ := Bk.list_of l0 each
    refine ⟨some a, c0, F, by rw [hF], ?_, Or.inr ⟨_, _, (Prod.mk.inj hx).1, by simp [hF]⟩⟩
    intro h0
    have hz : F[0]? = some F[0] := List.getElem?_eq_getElem h0
    have q0 := hP 0 _ hz
    have hs : a.spot = none := World.cell?_spot q0
    have hlt : a.block < W.heap.size := World.block_lt_of_cell? W _ q0
    obtain ⟨b, off, spot⟩ := a
    simp only at hs
    subst hs
    refine ⟨b, off, rfl, hlt, fun j x hj => ?_⟩
    have r0 := hP j x hj
    rw [Bk.addLit, Bk.addLit, Nat.mul_one] at r0
    exact r0
set_option maxRecDepth 100000 in
theorem Bk.ints_reach {F : List Int} {d : DataW H} {ts : List TypeId} {ds : List (DataW H)} {i : Nat} (hz : (DataW.weightsEach Tryd.prog ts ds).all (· ≤ reachBytes) = true) (ht : ts[i]? = some 22) (hd : ds[i]? = some d)
    (h : Bk.IntD F d) : F.length ≤ 17592186044416 := by
  rcases h with rfl | ⟨el, sp, rfl, he⟩
  · simp
  · have hr : reachBytes ≤ 140737488355328 := by decide
    have hq := of_decide_eq_true (List.all_eq_true.1 hz _ (DataW.weights_mem_each ht hd ((el.length + sp.length) * Tryd.prog.bytesOf 3) (by simp [DataW.weights, Tryd.underlying22])))
    rw [show Tryd.prog.bytesOf 3 = 8 by kernel_rfl, he] at hq
    omega
end
end Go.Proofs.YtikhahkmebkccaaDoor
