/- Runs: lists of texts that stand in memory; contract of the law's helper texts. Conditions: each theorem's own hypotheses. -/
import Derived.Test.YtffdplmnjlcmnaaDoorRnC
import Derived.Deep.QuietTactic
import Derived.BigQuiet
import Derived.Deep.Draws
import Derived.Deep.AppendLies
namespace Go.Proofs.YtffdplmnjlcmnaaDoor
open Go.RowKit
set_option linter.unusedVariables false

theorem rn_dn {B : Nat} {a w : World} (h : Below B a w) (n : Nat) : Below B a (w.drewN n) := ⟨h.os, h.tape, h.output, h.size, h.block⟩
/-- A list of texts that stands from block lo on. -/
def Tl (W : World) (lo : Nat) (v : Value) (L : List (List UInt8)) : Prop := W.ownsRow lo 9 1 v L.length (L.map Tx.v)
theorem Tl.below {W W' : World} {lo : Nat} {v : Value} {L : List (List UInt8)} (h : Tl W lo v L) (hb : Below W.heap.size W W') : Tl W' lo v L := Rn.row_below h hb
theorem Tl.form {W : World} {lo : Nat} {v : Value} {L : List (List UInt8)} (h : Tl W lo v L) : ∃ A c, v = .slice A L.length c ∧ ∀ k, k < L.length → ∃ g S, A = some ⟨g, 0, none⟩ ∧ W.cell? ⟨g, k, none⟩ = some (.string S) ∧ S.data.toList = L.getD k [] := by
  have h0 := h
  obtain ⟨hl, h1⟩ := h
  rcases h1 with ⟨rfl, hn⟩ | ⟨g, cap, cur, rfl, _⟩
  · exact ⟨none, 0, by rw [hn], fun k hk => by omega⟩
  · refine ⟨some ⟨g, 0, none⟩, cap, rfl, fun k hk => ?_⟩
    have hc := World.ownsRow.cellAt h0 k (by omega)
    rw [List.getElem?_map, List.getElem?_eq_getElem hk] at hc
    exact ⟨g, ⟨(L.getD k []).toArray⟩, rfl, by rw [hc, List.getD_eq_getElem?_getD, List.getElem?_eq_getElem hk]; rfl, rfl⟩

set_option maxRecDepth 100000 in
set_option maxHeartbeats 1000000 in
theorem texts_same (L : List (List UInt8)) (lo lo' : Nat) (v v' : Value) (W : World) (h : Tl W lo v L) (h' : Tl W lo' v' L) (hn : L.length ≤ 4398046511104) :
    Calls Tryd.prog 35 #[v, v'] W fun e W' => e = .returned (.bool true) ∧ Below W.heap.size W W' := by
  obtain ⟨A, c, rfl, hA⟩ := h.form
  obtain ⟨A', c', rfl, hA'⟩ := h'.form
  obtain ⟨n, hnn⟩ : ∃ n, L.length = n := ⟨_, rfl⟩
  rw [hnn] at hA hA' hn ⊢
  have HA := Lib.hid (And.intro hA hA')
  clear hA hA' hnn h h'
  go_enter Tryd.func35, Tryd.ntmps35
  go_wp2_with fail
  go_loopw [5] (fun i wr => ∃ k q : Nat, k ≤ n ∧ i = .int .i64 k ∧ wr = W.drewN q) (fun i _ => n - (intOf i).toNat)
  case atStart => exact ⟨0, 0, Nat.zero_le _, rfl, rfl⟩
  case round =>
    obtain ⟨k, q, hk, rfl, rfl⟩ := hrel
    by_cases hlt : k < n
    · obtain ⟨g, S, rfl, hc, hS⟩ := HA.out.1 k hlt
      obtain ⟨g', S', rfl, hc', hS'⟩ := HA.out.2 k hlt
      obtain rfl : S = S' := Tx.ext (by rw [hS, hS'])
      have b1 : (S.toList == S.toList) = true := by simp
      have g1 : (0 : Int) ≤ (k : Int) := by omega
      have g2 : (k : Int) < (n : Int) := by omega
      clear hS hS' HA
      go_wp2_with fail
      go_quiet (fail)
      go_wp2_with fail
      go_roundw
      case rel => exact ⟨k + 1, _, by omega, by go_num, rfl⟩
      case measure => simp [intOf]; omega
    · obtain rfl : k = n := by omega
      go_wp2_with fail
      go_ret
      exact ⟨rfl, rn_dn (Below.refl _ _) _⟩

/-- Lists that stand between lo and top. -/
def Tls (W : World) (lo top : Nat) (l : List (Value × List (List UInt8))) : Prop := ∀ x ∈ l, Tl W lo x.1 x.2 ∧ ∀ g, x.1.ownBlock = some g → g < top
theorem Tls.nil (W : World) (lo top : Nat) : Tls W lo top [] := fun x hx => by cases hx
theorem Tls.add {W W' : World} {lo top top' : Nat} {l : List (Value × List (List UInt8))} (h : Tls W lo top l) (hb : Below W.heap.size W W') {v : Value} {L : List (List UInt8)} (hv : Tl W' lo v L) (ht : top ≤ W'.heap.size) (ht' : W'.heap.size = top') : Tls W' lo top' ((v, L) :: l) := fun x hx => by
  rcases List.mem_cons.1 hx with rfl | hx
  · exact ⟨hv, fun g e => by rw [← ht']; exact (World.ownsRow.lt hv g e).2⟩
  · exact ⟨(h x hx).1.below hb, fun g e => by have := (h x hx).2 g e; omega⟩
theorem Tls.below {W W' : World} {lo top : Nat} {l : List (Value × List (List UInt8))} (h : Tls W lo top l) (hb : Below W.heap.size W W') : Tls W' lo top l := fun x hx => ⟨(h x hx).1.below hb, (h x hx).2⟩
theorem Tls.grown {W W' : World} {lo top : Nat} {l : List (Value × List (List UInt8))} {row : Option Nat} (h : Tls W lo top l) (hg : W.grownBy W' row) (hr : ∀ g, row = some g → g < lo ∨ top ≤ g) : Tls W' lo top l := fun x hx => by
  obtain ⟨h1, h2⟩ := h x hx
  refine ⟨World.ownsRow.kept h1 hg ?_, h2⟩
  cases ho : x.1.ownBlock with
  | none => exact .inl rfl
  | some g =>
    refine .inr fun e => ?_
    have := hr g e.symm
    have := (World.ownsRow.lt h1 g ho).1
    have := h2 g ho
    omega
theorem rn_setCell (W : World) (g j : Nat) (v : Value) : W.grownBy (W.setCell ⟨g, j, none⟩ v) (some g) :=
  ⟨rfl, rfl, rfl, by simp, fun k _ hk => Below.heap_setCell _ _ _ k (fun e => hk (by rw [e]))⟩
end Go.Proofs.YtffdplmnjlcmnaaDoor
