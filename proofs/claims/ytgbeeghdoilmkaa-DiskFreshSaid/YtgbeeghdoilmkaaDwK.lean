/- Two disks of one's own. Conditions: each theorem's own hypotheses. -/
import Derived.Test.YtgbeeghdoilmkaaDwH
import Derived.Test.YtgbeeghdoilmkaaDwJ
namespace Go.Proofs.Ytgbeeghdoilmkaa
open Go.RowKit Go.Maps Go.Sort
set_option linter.unusedVariables false

/-- Two disks that were made since, apart. -/
def Dw.Two (B : Nat) (W0 w : World) (d1 : Nat) (m1 : Dk.M) (d2 : Nat) (m2 : Dk.M) : Prop :=
  ∃ F1 F2, Dk.At w d1 m1 F1 ∧ Dk.At w d2 m2 F2 ∧ (∀ k, F1 k → B ≤ k) ∧ (∀ k, F2 k → B ≤ k) ∧ (∀ k, F1 k → ¬ F2 k) ∧ Dk.Good m1 ∧ Dk.Good m2 ∧ Below B W0 w
section
variable {B d1 d2 : Nat} {W0 w w' : World} {m1 m2 m' : Dk.M}
theorem Dw.Two.swap (h : Dw.Two B W0 w d1 m1 d2 m2) : Dw.Two B W0 w d2 m2 d1 m1 := by
  obtain ⟨F1, F2, h1, h2, h3, h4, h5, h6, h7, h8⟩ := h
  exact ⟨F2, F1, h2, h1, h4, h3, fun k a b => h5 k b a, h7, h6, h8⟩
theorem Dw.Two.fst (h : Dw.Two B W0 w d1 m1 d2 m2) : Dw.On B W0 w d1 m1 := by
  obtain ⟨F1, F2, h1, h2, h3, h4, h5, h6, h7, h8⟩ := h
  exact ⟨F1, h1, h3, h6, h8⟩
theorem Dw.Two.snd (h : Dw.Two B W0 w d1 m1 d2 m2) : Dw.On B W0 w d2 m2 := h.swap.fst
theorem Dw.Two.below (h : Dw.Two B W0 w d1 m1 d2 m2) : Below B W0 w := h.fst.below
theorem Dw.Two.later (h : Dw.Two B W0 w d1 m1 d2 m2) (hB : Below w.heap.size w w') : Dw.Two B W0 w' d1 m1 d2 m2 := by
  have hz := h.fst.size
  obtain ⟨F1, F2, h1, h2, h3, h4, h5, h6, h7, h8⟩ := h
  exact ⟨F1, F2, h1.later hB (Nat.le_refl _), h2.later hB (Nat.le_refl _), h3, h4, h5, h6, h7, h8.trans (hB.mono hz)⟩
theorem Dw.Two.call (h : Dw.Two B W0 w d1 m1 d2 m2) {g : FuncId} {args : Array Value} {r : Ending} (hG : Dk.Good m')
    (f : ∀ F, Dk.At w d1 m1 F → Dk.Good m1 → Calls Try.prog g args w fun e W' => e = r ∧ Dk.Moved w W' d1 F m') : Calls Try.prog g args w fun e W' => e = r ∧ Dw.Two B W0 W' d1 m' d2 m2 := by
  have hz := h.fst.size
  obtain ⟨F1, F2, h1, h2, h3, h4, h5, h6, h7, h8⟩ := h
  refine (f F1 h1 h6).mono fun e W' ⟨he, hm⟩ => ⟨he, ?_⟩
  obtain ⟨F', q1, q2, q3⟩ := hm
  refine ⟨F', F2, q1, h2.apart q2 fun k a b => h5 k b a, fun k hk => ?_, h4, fun k hk hk2 => ?_, hG, h7, h8.trans (q2.below hz h3)⟩
  · rcases q3 k hk with e | e
    · exact h3 k e
    · omega
  · rcases q3 k hk with e | e
    · exact h5 k e hk2
    · have := h2.lt hk2; omega
theorem Dw.Two.play1 (h : Dw.Two B W0 w d1 m1 d2 m2) (s : Dw.S) (hs : Dw.Fit w s) {z : Int} (hz : (Dw.play m1 s).2 = z) (hm : (Dw.play m1 s).1 = m') :
    Calls Try.prog 28 #[.pointer (some ⟨d1, 0, none⟩), .agg (Dw.cells s)] w fun e W' => e = .returned (.int .i64 z) ∧ Dw.Two B W0 W' d1 m' d2 m2 := by
  subst hz hm
  exact h.call (Dw.play_good h.fst.good s hs.n.2) fun F hA hG => Dw.play_any hA hG s hs
theorem Dw.Two.play2 (h : Dw.Two B W0 w d1 m1 d2 m2) (s : Dw.S) (hs : Dw.Fit w s) {z : Int} (hz : (Dw.play m2 s).2 = z) (hm : (Dw.play m2 s).1 = m') :
    Calls Try.prog 28 #[.pointer (some ⟨d2, 0, none⟩), .agg (Dw.cells s)] w fun e W' => e = .returned (.int .i64 z) ∧ Dw.Two B W0 W' d1 m1 d2 m' :=
  (h.swap.play1 s hs hz hm).mono fun e W' ⟨h1, h2⟩ => ⟨h1, h2.swap⟩
theorem Dw.Two.crash1 (h : Dw.Two B W0 w d1 m1 d2 m2) :
    Calls Try.prog 18 #[.pointer (some ⟨d1, 0, none⟩), .slice none 0 0] w fun e W' => e = .returned (.tuple #[]) ∧ Dw.Two B W0 W' d1 (Dk.crash m1 []) d2 m2 :=
  h.call (Dk.crash_good h.fst.good _) fun F hA hG => Dk.crash_any hA hG (.inl ⟨⟨none, 0, rfl⟩, rfl⟩) (by simp) (by simp)
theorem Dw.Two.crash2 (h : Dw.Two B W0 w d1 m1 d2 m2) :
    Calls Try.prog 18 #[.pointer (some ⟨d2, 0, none⟩), .slice none 0 0] w fun e W' => e = .returned (.tuple #[]) ∧ Dw.Two B W0 W' d1 m1 d2 (Dk.crash m2 []) :=
  h.swap.crash1.mono fun e W' ⟨h1, h2⟩ => ⟨h1, h2.swap⟩
theorem Dw.Two.image1 (h : Dw.Two B W0 w d1 m1 d2 m2) {ib : ByteArray} (hib : ib.data.toList = Dk.image m1) :
    Calls Try.prog 25 #[.pointer (some ⟨d1, 0, none⟩)] w fun e W' => e = .returned (.string ib) ∧ Dw.Two B W0 W' d1 m1 d2 m2 := by
  have h0 := h
  obtain ⟨F, _, h1, _, _, _, _, h3, _⟩ := h
  refine (Dk.image_any h1 h3).mono fun e W' ⟨he, hm⟩ => ⟨?_, h0.later hm⟩
  rw [he, Tx.v_eq hib]
theorem Dw.Two.image2 (h : Dw.Two B W0 w d1 m1 d2 m2) {ib : ByteArray} (hib : ib.data.toList = Dk.image m2) :
    Calls Try.prog 25 #[.pointer (some ⟨d2, 0, none⟩)] w fun e W' => e = .returned (.string ib) ∧ Dw.Two B W0 W' d1 m1 d2 m2 :=
  (h.swap.image1 hib).mono fun e W' ⟨h1, h2⟩ => ⟨h1, h2.swap⟩
theorem Dw.On.names (h : Dw.On B W0 w d1 m1) :
    Calls Try.prog 31 #[.pointer (some ⟨d1, 0, none⟩)] w fun e W' => ∃ v, e = .returned v ∧ Dw.Txs W' w.heap.size v (Dk.told m1) ∧ Below w.heap.size w W' := by
  obtain ⟨F, h1, h2, h3, h4⟩ := h
  exact Dk.Names_any h1 h3
theorem Dw.On.told_len (h : Dw.On B W0 w d1 m1) : (Dk.told m1).length ≤ 4096 := by
  have := h.good.many
  unfold Dk.told
  split
  · exact Nat.zero_le _
  · rw [List.length_map]; exact this
theorem Dw.On.play (h : Dw.On B W0 w d1 m1) (s : Dw.S) (hs : Dw.Fit w s) {z : Int} (hz : (Dw.play m1 s).2 = z) (hm : (Dw.play m1 s).1 = m') :
    Calls Try.prog 28 #[.pointer (some ⟨d1, 0, none⟩), .agg (Dw.cells s)] w fun e W' => e = .returned (.int .i64 z) ∧ Dw.On B W0 W' d1 m' := by
  subst hz hm
  exact h.call (Dw.play_good h.good s hs.n.2) fun F hA hG => Dw.play_any hA hG s hs
/-- Its image opened. -/
theorem Dw.On.open_ (h : Dw.On B W0 w d1 m1) {ib : ByteArray} (hib : ib.data.toList = Dk.image m1) {n : Nat} (hn : m1.cap = n) :
    Calls Try.prog 11 #[.string ib, .int .i64 n] w fun e W' => ∃ c, e = .returned (.tuple #[.pointer (some ⟨c, 0, none⟩), .int .i64 0]) ∧ Dw.Two B W0 W' c (Dw.again m1) d1 m1 := by
  have hz := h.size
  obtain ⟨F, h1, h2, h3, h4⟩ := h
  subst hn
  have hcap := h3.cap
  have hsz : ib.size ≤ 9223372036854775807 := by
    have h := Dk.imgs_take h3 m1.files.length
    rw [List.take_length] at h
    have e : ib.size = (Dk.image m1).length := by rw [← hib, Array.length_toList]; rfl
    rw [e]
    unfold Dk.image
    rw [List.length_cons]
    omega
  have ho := Dw.opened_image h3
  refine (Dk.open_any w ib hsz m1.cap (by omega)).mono ?_
  rintro e W' ⟨c, he, hB, hA⟩
  rw [hib, ho] at he
  rw [hib, ho] at hA
  obtain ⟨F2, q1, q2⟩ := hA _ rfl
  exact ⟨c, he, F2, F, q1, h1.later hB (Nat.le_refl _), fun k hk => Nat.le_trans hz (q2 k hk), h2, fun k a b => by have := q2 k a; have := h1.lt b; omega, (Dk.opened_good ho).1, h3, h4.trans (hB.mono hz)⟩
end
/-- The eight cells of a step of the list. -/
theorem Dw.Steps.eight {W w : World} {g off k : Nat} {s : Dw.S} (hg : g < W.heap.size) (h : ∀ i v, (Dw.cells s)[i]? = some v → W.cell? ⟨g, off + k * 8 + i, none⟩ = some v) (hB : Below W.heap.size W w) {nb tb db : ByteArray} (h1 : nb.data.toList = s.name) (h2 : tb.data.toList = s.to_) (h3 : db.data.toList = s.data) :
    w.cell? ⟨g, off + k * 8, none⟩ = some (.int .i64 s.what) ∧ w.cell? ⟨g, off + k * 8 + 1, none⟩ = some (.string nb) ∧ w.cell? ⟨g, off + k * 8 + 2, none⟩ = some (.string tb) ∧ w.cell? ⟨g, off + k * 8 + 3, none⟩ = some (.string db) ∧
      w.cell? ⟨g, off + k * 8 + 4, none⟩ = some (.int .i64 s.at_) ∧ w.cell? ⟨g, off + k * 8 + 5, none⟩ = some (.int .i64 s.n) ∧ w.cell? ⟨g, off + k * 8 + 6, none⟩ = some (.bool s.done) ∧ w.cell? ⟨g, off + k * 8 + 7, none⟩ = some s.cv := by
  have H : ∀ i v, (Dw.cells s)[i]? = some v → w.cell? ⟨g, off + k * 8 + i, none⟩ = some v := fun i v hv => (World.cell?_of_block (hB.block g hg)).trans (h i v hv)
  exact ⟨H 0 _ rfl, Tx.v_eq h1 ▸ H 1 _ rfl, Tx.v_eq h2 ▸ H 2 _ rfl, Tx.v_eq h3 ▸ H 3 _ rfl, H 4 _ rfl, H 5 _ rfl, H 6 _ rfl, H 7 _ rfl⟩
#print axioms Dw.On.open_
#print axioms Dw.Two.play2
end Go.Proofs.Ytgbeeghdoilmkaa
