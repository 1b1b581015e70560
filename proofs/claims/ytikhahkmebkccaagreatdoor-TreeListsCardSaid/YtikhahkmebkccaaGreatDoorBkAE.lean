/- Contracts of the law's sameHits, holds and first. Conditions: each theorem's own hypotheses. -/
import Derived.Test.YtikhahkmebkccaaGreatDoorBkAD
import Derived.Test.YtikhahkmebkccaaGreatDoorBkY
namespace Go.Proofs.YtikhahkmebkccaaGreatDoor
open Go.RowKit Go.Maps Go.Sort Go.Shelf
set_option linter.unusedVariables false
set_option linter.unusedSimpArgs false

theorem Bk.dn_trans {a b : World} (h : Bk.Dn a b) (n : Nat) : Bk.Dn a (b.drewN n) := by
  obtain ⟨m, rfl⟩ := h
  exact ⟨m + n, by simp [World.drewN, Nat.add_assoc]⟩
set_option maxRecDepth 100000 in
set_option maxHeartbeats 4000000 in
theorem Bk.same_eq {w : World} {v1 v2 : Value} {F : List Bk.H} (h1 : w.ownsRow 0 61 3 v1 F.length (Bk.hcs F)) (h2 : w.ownsRow 0 61 3 v2 F.length (Bk.hcs F)) (hl : F.length ≤ 4611686018427387903) :
    Calls Tryz.prog 12 #[v1, v2] w fun e w' => e = .returned (.bool true) ∧ Bk.Dn w w' := by
  obtain ⟨A, cap, rfl⟩ := Bk.row_form h1
  obtain ⟨B, cap2, rfl⟩ := Bk.row_form h2
  go_enter Tryz.func12, Tryz.ntmps12
  go_wp2_with fail
  go_loopg [5] F.length (fun n i wr => ∃ k : Nat, n + k = F.length ∧ i = .int .i64 k ∧ Bk.Dn w wr)
  case atStart => exact ⟨0, by omega, rfl, Bk.Dn.refl _⟩
  case round =>
    obtain ⟨k, hn, rfl, hd⟩ := hrel
    by_cases hkn : k = F.length
    · have u1 : decide (k < F.length) = false := decide_eq_false (by omega)
      go_wp2_with fail
      go_ret
      exact ⟨rfl, hd⟩
    · have u1 : decide (k < F.length) = true := decide_eq_true (by omega)
      obtain ⟨x, hx⟩ : ∃ x, F[k]? = some x := ⟨_, List.getElem?_eq_getElem (by omega)⟩
      obtain ⟨g, rfl, _, _, hg3, hg4⟩ := Bk.row_at h1 hx
      obtain ⟨g', rfl, _, _, hg3', hg4'⟩ := Bk.row_at h2 hx
      obtain ⟨d0, d1, d2⟩ := Bk.row3 h1 hx
      obtain ⟨e0, e1, e2⟩ := Bk.row3 h2 hx
      obtain ⟨m, rfl⟩ := hd
      have d0 : (w.drewN m).cell? ⟨g, k * 3, none⟩ = _ := d0
      have d1 : (w.drewN m).cell? ⟨g, k * 3 + 1, none⟩ = _ := d1
      have d2 : (w.drewN m).cell? ⟨g, k * 3 + 2, none⟩ = _ := d2
      have e0 : (w.drewN m).cell? ⟨g', k * 3, none⟩ = _ := e0
      have e1 : (w.drewN m).cell? ⟨g', k * 3 + 1, none⟩ = _ := e1
      have e2 : (w.drewN m).cell? ⟨g', k * 3 + 2, none⟩ = _ := e2
      have hkl : k < F.length := by omega
      have HN := Lib.hid hn
      clear hn hx h1 h2 hkn
      unfold Tx.v at d2 e2
      have hdm : Bk.Dn w (w.drewN m) := ⟨m, rfl⟩
      generalize w.drewN m = wx at d0 d1 d2 e0 e1 e2 hdm ⊢
      go_upto_region 6 with fail
      go_quiet (fail)
      go_wp2_with fail
      go_roundg (gk - 1)
      case measure => have := HN.out; omega
      case rel => exact ⟨k + 1, by have := HN.out; omega, congrArg (Value.int .i64) (by omega), Bk.dn_trans hdm nq⟩
/-- Strings as cells. -/
def Bk.ss (l : List (List UInt8)) : List Value := l.map Tx.v
theorem Bk.srow_at {w : World} {A : Option Addr} {cap j : Nat} {l : List (List UInt8)} {s : List UInt8} (h : w.ownsRow 0 9 1 (.slice A l.length cap) l.length (Bk.ss l)) (hj : l[j]? = some s) : ∃ g, A = some ⟨g, 0, none⟩ ∧ l.length ≤ cap ∧ cap ≤ maxLen ∧ w.cell? ⟨g, j, none⟩ = some (Tx.v s) := by
  have hlt := (List.getElem?_eq_some_iff.1 hj).1
  have hc : (Bk.ss l)[j]? = some (Tx.v s) := by unfold Bk.ss; rw [List.getElem?_map, hj]; rfl
  rcases h.2 with ⟨h', h0⟩ | ⟨g, cap', cur, h', hb, hg, h1, h2, _⟩
  · omega
  · injection h' with h1' h2' h3'
    subst h3' h1'
    have := h.cells (g := g) rfl _ _ hc
    rw [Bk.addr_add] at this
    exact ⟨g, rfl, h1, h2, this⟩
theorem Bk.cut_is {S : List Bk.H} {b j : Nat} (hS : S.Pairwise fun a b => Bk.leH a b = true) (h1 : ∀ y ∈ S.take j, y.d ≤ b) (h2 : ∀ y, S[j]? = some y → b < y.d) : S.filter (fun y => decide (y.d ≤ b)) = S.take j := by
  have h3 : (S.take j).filter (fun y => decide (y.d ≤ b)) = S.take j := List.filter_eq_self.2 fun y hy => decide_eq_true (h1 y hy)
  have h4 : (S.drop j).filter (fun y => decide (y.d ≤ b)) = [] := by
    rw [List.filter_eq_nil_iff]
    intro z hz
    cases hd : S.drop j with
    | nil => rw [hd] at hz; cases hz
    | cons y r =>
      have hy : S[j]? = some y := by
        have := congrArg (fun l => l[0]?) hd
        simpa using this
      have hp : (y :: r).Pairwise fun a b => Bk.leH a b = true := by rw [← hd]; exact hS.sublist (List.drop_sublist _ _)
      rw [hd] at hz
      have hlt := h2 y hy
      rcases List.mem_cons.1 hz with rfl | hz
      · simp; omega
      · have := (Bk.leH_iff y z).1 ((List.pairwise_cons.1 hp).1 z hz)
        simp; omega
  conv => lhs; rw [← List.take_append_drop j S]
  rw [List.filter_append, h3, h4, List.append_nil]
end Go.Proofs.YtikhahkmebkccaaGreatDoor
