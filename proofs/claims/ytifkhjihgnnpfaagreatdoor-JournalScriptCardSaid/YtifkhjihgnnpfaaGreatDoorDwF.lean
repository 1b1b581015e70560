/- An argument that is a list of steps, opened. Conditions: each theorem's own hypotheses. -/
import Derived.Test.YtifkhjihgnnpfaaGreatDoorZDwE
import Derived.Deep.Slices
import Derived.Deep.Strs
import Derived.ChangeArms
import Derived.ProofKit
import Derived.OpenShut
import Derived.SizedLaws
namespace Go.Proofs.YtifkhjihgnnpfaaGreatDoor
open Go.ChangeShapes Go.WideShapes Go.RowKit Go.Deep
set_option linter.unusedVariables false

theorem Tryz.cellsCut : Tryz.prog.cellsOf 113 = 3 := by kernel_rfl
theorem Tryz.cells_int : Tryz.prog.cellsOf 3 = 1 := by kernel_rfl
theorem Tryz.cells_str : Tryz.prog.cellsOf 9 = 1 := by kernel_rfl
theorem Tryz.cells_bool : Tryz.prog.cellsOf 4 = 1 := by kernel_rfl
theorem Tryz.cells_u8 : Tryz.prog.cellsOf 5 = 1 := by kernel_rfl
theorem Tryz.cells_cuts : Tryz.prog.cellsOf 34 = 1 := by kernel_rfl
theorem Tryz.bytes_cut : Tryz.prog.bytesOf 113 = 32 := by kernel_rfl
theorem Dw.add_lit (b off j : Nat) : (⟨b, off, none⟩ : Addr).add j = ⟨b, off + j, none⟩ := by
  unfold Addr.add; split
  · subst_vars; rfl
  · rfl

/-- A list out of its elements. -/
theorem Dw.list_of {α : Type} {P : Nat → α → Prop} : ∀ n, (∀ i, i < n → ∃ x, P i x) → ∃ l : List α, l.length = n ∧ ∀ i x, l[i]? = some x → P i x
  | 0, _ => ⟨[], rfl, fun i x h => by simp at h⟩
  | n + 1, h => by
    obtain ⟨l, hl, hp⟩ := Dw.list_of n fun i hi => h i (by omega)
    obtain ⟨x, hx⟩ := h n (by omega)
    refine ⟨l ++ [x], by simp [hl], fun i y hy => ?_⟩
    by_cases e : i < n
    · rw [List.getElem?_append_left (by omega)] at hy
      exact hp i y hy
    · have hi : i = n := by
        have := (List.getElem?_eq_some_iff.1 hy).1
        rw [List.length_append, hl] at this
        simp at this; omega
      subst hi
      rw [List.getElem?_append_right (by omega), hl, Nat.sub_self] at hy
      obtain rfl := Option.some.inj hy
      exact hx

theorem Dw.weights_all {H : Type} {P : Program} {e : TypeId} {d : DataW H} : ∀ {l : List (DataW H)}, d ∈ l → ∀ n ∈ d.weights P e, n ∈ DataW.weightsAll P e l
  | x :: l, h, n, hn => by
    simp only [DataW.weightsAll, List.mem_append]
    rcases List.mem_cons.1 h with rfl | h
    · exact .inl hn
    · exact .inr (Dw.weights_all h n hn)

theorem Dw.list3 {α : Type} {l : List α} (h : l.length = 3) : ∃ a b c, l = [a, b, c] := by
  match l, h with
  | [a, b, c], _ => exact ⟨a, b, c, rfl⟩
theorem Dw.list8 {α : Type} {l : List α} (h : l.length = 8) : ∃ a b c d e f g i, l = [a, b, c, d, e, f, g, i] := by
  match l, h with
  | [a, b, c, d, e, f, g, i], _ => exact ⟨a, b, c, d, e, f, g, i, rfl⟩
section
variable {H : Type} {enc : TypeId × Value → H} {P : Program} {w : World} {base : Nat} {spare : Nat → Bool} {held : Bool}
set_option maxRecDepth 100000 in
theorem Dw.trod_struct8 {t : TypeId} {f0 f1 f2 f3 f4 f5 f6 f7 : Field} {fuel : Nat} {cs : List Value} {x : DataW H × List MemPlace} (ht : P.underlying t = some (.struct #[f0, f1, f2, f3, f4, f5, f6, f7])) (h : DataW.trod enc P w base spare held fuel t cs = some x) :
    ∃ y0 y1 y2 y3 y4 y5 y6 y7 n, x.1 = .agg [y0.1, y1.1, y2.1, y3.1, y4.1, y5.1, y6.1, y7.1] ∧ cs.length = P.cellsOf t ∧
      DataW.trod enc P w base spare held n f0.type ((cs.drop f0.offset).take (P.cellsOf f0.type)) = some y0 ∧
      DataW.trod enc P w base spare held n f1.type ((cs.drop f1.offset).take (P.cellsOf f1.type)) = some y1 ∧
      DataW.trod enc P w base spare held n f2.type ((cs.drop f2.offset).take (P.cellsOf f2.type)) = some y2 ∧
      DataW.trod enc P w base spare held n f3.type ((cs.drop f3.offset).take (P.cellsOf f3.type)) = some y3 ∧
      DataW.trod enc P w base spare held n f4.type ((cs.drop f4.offset).take (P.cellsOf f4.type)) = some y4 ∧
      DataW.trod enc P w base spare held n f5.type ((cs.drop f5.offset).take (P.cellsOf f5.type)) = some y5 ∧
      DataW.trod enc P w base spare held n f6.type ((cs.drop f6.offset).take (P.cellsOf f6.type)) = some y6 ∧
      DataW.trod enc P w base spare held n f7.type ((cs.drop f7.offset).take (P.cellsOf f7.type)) = some y7 := by
  obtain ⟨xs, n, _, rfl, hl, hlen, hf⟩ := DataW.trod_struct ht h
  obtain ⟨y0, y1, y2, y3, y4, y5, y6, y7, rfl⟩ := Dw.list8 (show xs.length = 8 from hlen)
  refine ⟨y0, y1, y2, y3, y4, y5, y6, y7, n, rfl, hl, ?_⟩
  have q0 := hf 0 f0 (by simp)
  have q1 := hf 1 f1 (by simp)
  have q2 := hf 2 f2 (by simp)
  have q3 := hf 3 f3 (by simp)
  have q4 := hf 4 f4 (by simp)
  have q5 := hf 5 f5 (by simp)
  have q6 := hf 6 f6 (by simp)
  have q7 := hf 7 f7 (by simp)
  simp only [List.getElem?_cons_zero, List.getElem?_cons_succ] at q0 q1 q2 q3 q4 q5 q6 q7
  exact ⟨q0, q1, q2, q3, q4, q5, q6, q7⟩
end

section
variable {H : Type} {enc : TypeId × Value → H} {W : World}
theorem Dw.read_cut {base n : Nat} {sp : Nat → Bool} {held : Bool} {a : Addr} {cs : List Value} {x : DataW H × List MemPlace} (hc : W.cells? base a 3 = some cs) (ht : DataW.trod enc Tryz.prog W base sp held n 113 cs = some x)
    (hw : ∀ k ∈ x.1.weights Tryz.prog 113, k ≤ reachBytes) :
    ∃ c : Dk.Cut, W.cell? (a.add 0) = some (Tx.v c.name) ∧ W.cell? (a.add 1) = some (.int .i64 c.keep) ∧ W.cell? (a.add 2) = some (.int .u8 c.spoil.toNat) ∧ c.name.length ≤ 140737488355328 := by
  obtain ⟨_, hl, hat⟩ := World.cells?_some hc
  obtain ⟨y0, y1, y2, m, hx, _, t0, t1, t2⟩ := trod_struct3 Tryz.underlying113 ht
  have h0 := hat 0 (by omega)
  have h1 := hat 1 (by omega)
  have h2 := hat 2 (by omega)
  subst hx
  obtain ⟨c0, c1, c2, rfl⟩ := Dw.list3 hl
  · skip
    rw [Tryz.cells_str] at t0
    rw [Tryz.cells_int] at t1
    rw [Tryz.cells_u8] at t2
    obtain ⟨s, e0, d0, _⟩ := DataW.trod_string Tryz.underlying9 t0
    obtain ⟨n1, e1, _, _⟩ := DataW.trod_int Tryz.underlying3 t1
    obtain ⟨n2, e2, _, w2⟩ := DataW.trod_int Tryz.underlying5 t2
    have e0' : c0 = .string s := by simpa using e0
    have e1' : c1 = .int .i64 n1 := by simpa using e1
    have e2' : c2 = .int .u8 n2 := by simpa using e2
    subst e0' e1' e2' d0
    have hs : s.data.toList.length ≤ reachBytes := hw _ (by simp [DataW.weights, Tryz.underlying113, DataW.weightsEach])
    obtain ⟨b1, b2⟩ := bounds_u8 w2
    have hn : ((UInt8.ofNat n2.toNat).toNat : Int) = n2 := by
      rw [UInt8.toNat_ofNat']
      omega
    refine ⟨⟨s.data.toList, n1, UInt8.ofNat n2.toNat⟩, h0, h1, ?_, Nat.le_trans hs (by decide)⟩
    rw [hn]
    exact h2

theorem Dw.open_cuts {base fuel : Nat} {sp : Nat → Bool} {held : Bool} {v : Value} {x : DataW H × List MemPlace} (h : DataW.trod enc Tryz.prog W base sp held fuel 34 [v] = some x)
    (hw : ∀ k ∈ x.1.weights Tryz.prog 34, k ≤ reachBytes) :
    ∃ F : List Dk.Cut, Dk.Cts W v F ∧ F.length ≤ 4398046511104 ∧ ∀ c ∈ F, c.name.length ≤ 140737488355328 := by
  rcases open_slice Tryz.underlying34 h with ⟨hcs, hx⟩ | ⟨a, len, cap, m, n, D, Pl, hcs, hb, hl, hm, hmm, hx, hi⟩
  · obtain rfl : v = .slice none 0 0 := by simpa using hcs
    exact ⟨[], .inl ⟨⟨none, 0, rfl⟩, rfl⟩, by simp, fun c hc => by simp at hc⟩
  · obtain rfl : v = .slice (some a) len cap := by simpa using hcs
    subst hx
    simp only [DataW.weights, Tryz.underlying34] at hw
    have hlen : ((List.range len).map D).length * 32 ≤ reachBytes := by
      have := hw _ (List.mem_cons_self ..)
      rw [Tryz.bytes_cut] at this
      refine Nat.le_trans (Nat.mul_le_mul_right _ (Nat.le_add_right _ _)) this
    rw [List.length_map, List.length_range] at hlen
    have hr : reachBytes ≤ 140737488355328 := by decide
    rw [Tryz.cellsCut] at hi
    have hml : len ≤ m := by rw [hmm]; split <;> omega
    have each : ∀ i, i < len → ∃ c : Dk.Cut, W.cell? ((a.add (i * 3)).add 0) = some (Tx.v c.name) ∧ W.cell? ((a.add (i * 3)).add 1) = some (.int .i64 c.keep) ∧ W.cell? ((a.add (i * 3)).add 2) = some (.int .u8 c.spoil.toNat) ∧ c.name.length ≤ 140737488355328 := by
      intro i hil
      obtain ⟨cs', hc, ht⟩ := hi i (by omega)
      refine Dw.read_cut hc ht fun k hk => hw k (List.mem_cons_of_mem _ (List.mem_append_left _ ?_))
      exact Dw.weights_all (List.mem_map.2 ⟨i, List.mem_range.2 hil, rfl⟩) k hk
    obtain ⟨F, hF, hP⟩ := Dw.list_of len each
    refine ⟨F, ?_, by omega, fun c hc => ?_⟩
    · by_cases h0 : 0 < F.length
      · have hz : F[0]? = some F[0] := List.getElem?_eq_getElem h0
        have q0 := (hP 0 _ hz).1
        have hs : a.spot = none := World.cell?_spot q0
        have hlt : a.block < W.heap.size := World.block_lt_of_cell? W _ q0
        obtain ⟨b, off, spot⟩ := a
        simp only at hs
        subst hs
        refine .inr ⟨b, off, cap, by rw [hF], hlt, fun k x hk => ?_⟩
        obtain ⟨r0, r1, r2, _⟩ := hP k x hk
        rw [Dw.add_lit, Dw.add_lit] at r0 r1 r2
        exact ⟨r0, r1, r2⟩
      · obtain rfl : F = [] := List.length_eq_zero_iff.1 (by omega)
        obtain rfl : len = 0 := by simpa using hF.symm
        exact .inl ⟨⟨some a, cap, rfl⟩, rfl⟩
    · obtain ⟨i, hi⟩ := List.mem_iff_getElem?.1 hc
      exact (hP i c hi).2.2.2

/-- A list of steps. -/
def Dw.Steps (W : World) (A : Option Addr) (F : List Dw.S) : Prop :=
  F ≠ [] → ∃ g off, A = some ⟨g, off, none⟩ ∧ g < W.heap.size ∧ ∀ k s, F[k]? = some s → (∀ i v, (Dw.cells s)[i]? = some v → W.cell? ⟨g, off + k * 8 + i, none⟩ = some v) ∧ Dw.Fit W s
theorem Dw.Steps.keep {W' : World} {A : Option Addr} {F : List Dw.S} (h : Dw.Steps W A F) (hB : Below W.heap.size W W') : Dw.Steps W' A F := by
  intro h0
  obtain ⟨g, off, e, hg, r⟩ := h h0
  refine ⟨g, off, e, Nat.lt_of_lt_of_le hg hB.size, fun k s hk => ?_⟩
  obtain ⟨r0, r1⟩ := r k s hk
  exact ⟨fun i v hv => (World.cell?_of_block (hB.block g hg)).trans (r0 i v hv), r1.keep hB.size fun k hk => hB.block k hk⟩
end
end Go.Proofs.YtifkhjihgnnpfaaGreatDoor
