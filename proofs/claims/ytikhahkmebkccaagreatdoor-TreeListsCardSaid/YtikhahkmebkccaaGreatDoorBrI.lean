/- The document's tree: Within, bound, nearest. Conditions: each theorem's own hypotheses. -/
import Derived.Test.YtikhahkmebkccaaGreatDoorBrH
namespace Go.Proofs.YtikhahkmebkccaaGreatDoor
open Go.RowKit Go.Maps Go.Sort Go.Shelf
set_option linter.unusedVariables false
set_option linter.unusedSimpArgs false

section
variable {W : World} {t : Nat} {T : Bk.T} {F : Nat → Prop} {A : Option Addr} {cap : Nat}
theorem Br.Sx.start (hS : Br.St W t T A cap) {P : List Bk.H → List Bk.H} (hP : P [] = []) : Br.Sx W t T A cap P ([], T.seen) (.slice none 0 0) W :=
  ⟨Bk.Only.refl _ W, hS.tree, by show W.ownsRow _ _ 3 (.slice none 0 0) (P []).length (Bk.hcs (P [])); rw [hP]; exact ⟨by simp [Bk.hcs], .inl ⟨rfl, rfl⟩⟩⟩
theorem Br.PW_nil (R : Nat) : Br.PW R [] = [] := by unfold Br.PW Bk.sortH; simp
theorem Br.Sx.end' {W' : World} {P : List Bk.H → List Bk.H} {s : List Bk.H × Nat} {v : Value} (hS : Br.St W t T A cap) (h : Br.Sx W t T A cap P s v W') : Br.At W' t { T with seen := s.2 } (Br.foot t (.slice A T.l.length cap)) ∧ Bk.Only (Br.foot t (.slice A T.l.length cap)) W W' :=
  ⟨h.at' hS, h.only.wide fun k _ hk => .inl hk⟩
theorem Br.nil_row (W : World) (B : Nat) : W.ownsRow B 61 3 (.slice none 0 0) ([] : List Bk.H).length (Bk.hcs []) := ⟨by simp [Bk.hcs], .inl ⟨rfl, rfl⟩⟩
set_option maxRecDepth 100000 in
set_option maxHeartbeats 4000000 in
theorem Br.Within_any (h : Br.At W t T F) (hG : Bk.Good T.w T.l) (hwide : 64 ≤ T.w) (hw : T.w ≤ 1024) (hl : T.l.length ≤ 4398046511104) (c : ByteArray) (hc : c.size ≤ 9223372036854775807) (n : Int) :
    Calls Tryz.prog 25 #[.pointer (some ⟨t, 0, none⟩), .string c, .int .i64 n] W fun e W' => ∃ v, e = .returned (.tuple #[v, .int .i64 (Bk.within T c.data.toList n).2.2]) ∧
      W'.ownsRow W.heap.size 61 3 v (Bk.within T c.data.toList n).2.1.length (Bk.hcs (Bk.within T c.data.toList n).2.1) ∧ Br.At W' t (Bk.within T c.data.toList n).1 F ∧ Bk.Only F W W' := by
  have hat := h
  obtain ⟨A, cap, hS, rfl⟩ := h
  have c0 := hS.t0
  have c1 := hS.t1
  have hcs : c.data.toList.length = c.size := Array.length_toList
  obtain ⟨w8, hw8⟩ : ∃ w8, T.w / 8 = w8 := ⟨_, rfl⟩
  have e8 : Int.tdiv (T.w : Int) 8 = (w8 : Int) := by rw [← hw8]; rfl
  have hw9 : w8 ≤ 128 := by omega
  by_cases hfit : c.size = w8
  · have u1 : ((c.size : Int) != (w8 : Int)) = false := by rw [hfit]; exact bne_self_eq_false _
    by_cases hr : n < 0 ∨ (T.w : Int) < n
    · have hR : Bk.within T c.data.toList n = (T, [], 101) := by unfold Bk.within; rw [if_pos (by omega), if_pos hr]
      rw [hR]
      clear hR hcs hfit hw8
      rcases hr with hr | hr
      · have u2 : decide (n < 0) = true := decide_eq_true hr
        go_enter Tryz.func25, Tryz.ntmps25
        go_wp2_with fail
        go_ret2
        exact ⟨_, rfl, Br.nil_row _ _, hat, Bk.Only.refl _ _⟩
      · have u2 : decide (n < 0) = false := decide_eq_false (by omega)
        have u3 : decide ((T.w : Int) < n) = true := decide_eq_true hr
        go_enter Tryz.func25, Tryz.ntmps25
        go_wp2_with fail
        go_ret2
        exact ⟨_, rfl, Br.nil_row _ _, hat, Bk.Only.refl _ _⟩
    · obtain ⟨R, rfl⟩ : ∃ R : Nat, n = (R : Int) := ⟨n.toNat, by omega⟩
      have hRw : R ≤ T.w := by omega
      have u2 : decide ((R : Int) < 0) = false := decide_eq_false (by omega)
      have u3 : decide (T.w < R) = false := decide_eq_false (by omega)
      have hR : Bk.within T c.data.toList (R : Int) = ({ T with seen := (Bk.Res T c.data.toList fun _ => R).2 }, Br.PW R (Bk.Res T c.data.toList fun _ => R).1, 0) := by
        unfold Bk.within
        rw [if_pos (by omega), if_neg hr, Int.toNat_natCast]; rfl
      rw [hR]
      by_cases h0 : T.l.length = 0
      · have hRes : (Bk.Res T c.data.toList fun _ => R) = ([], T.seen) := by unfold Bk.Res; rw [if_pos h0]
        rw [hRes]
        simp only [Br.PW_nil]
        have u4 : ((T.l.length : Int) == 0) = true := by rw [h0]; rfl
        clear hR hcs hfit hw8 hRes h0
        go_enter Tryz.func25, Tryz.ntmps25
        go_wp2_with fail
        go_ret2
        exact ⟨_, rfl, Br.nil_row _ _, hat, Bk.Only.refl _ _⟩
      · have hRes : (Bk.Res T c.data.toList fun _ => R) = Bk.V T.w T.l c.data.toList (fun _ => R) 0 ([], T.seen) := by unfold Bk.Res; rw [if_neg h0]
        have hle := (hG.res_le c.data.toList fun _ => R).2.1
        rw [hRes] at hle ⊢
        have u4 : ((T.l.length : Int) == 0) = false := by rw [beq_eq_false_iff_ne]; omega
        have kr := Br.within_rec hS hG hwide hw hl c (by omega) R hRw (T.l.length + 1) 0 (by omega) (by omega) ([], T.seen) _ W (Br.Sx.start hS (Br.PW_nil R)) hle
        generalize (Bk.V T.w T.l c.data.toList (fun _ => R) 0 ([], T.seen)) = s9 at *
        clear hR hcs hfit hw8 hRes h0 hle
        go_enter Tryz.func25, Tryz.ntmps25
        go_wp2_with (go_at_call 45; refine kr.mono ?_; clear kr; rintro e w2 ⟨v2, rfl, hx2⟩)
        go_ret2
        obtain ⟨q1, q2⟩ := hx2.end' hS
        exact ⟨_, rfl, hx2.row, q1, q2⟩
  · have hR : Bk.within T c.data.toList n = (T, [], 11) := by unfold Bk.within; rw [if_neg (by omega)]
    have u1 : ((c.size : Int) != (w8 : Int)) = true := by rw [bne_iff_ne]; omega
    rw [hR]
    clear hR hcs hfit hw8
    go_enter Tryz.func25, Tryz.ntmps25
    go_wp2_with fail
    go_ret2
    exact ⟨_, rfl, Br.nil_row _ _, hat, Bk.Only.refl _ _⟩
end
/-- How far a code may be, when these were found. -/
def Br.bnd (S : List Bk.H) (k w : Nat) : Nat := if S.length < k then w else match S[k - 1]? with
  | none => w
  | some x => x.d
theorem Br.cle_sort (F : List Bk.H) (b : Nat) : Bk.cle F b = ((Bk.sortH F).filter fun x => decide (x.d ≤ b)).length := by
  unfold Bk.cle
  exact (((Bk.sortH_is F).filter _).length_eq).symm
theorem Br.bnd_down {F : List Bk.H} {k w : Nat} (hk : 1 ≤ k) (hF : ∀ x ∈ F, x.d ≤ w) : Br.bnd (Bk.sortH F) k w = Bk.down k F w := by
  obtain ⟨f1, f2⟩ := Bk.down_facts k F w
  have hdl := Bk.down_le k F w
  have hlen : (Bk.sortH F).length = F.length := (Bk.sortH_is F).length_eq
  unfold Br.bnd
  by_cases h : (Bk.sortH F).length < k
  · rw [if_pos h]
    rcases f2 with f2 | f2
    · have : Bk.cle F (Bk.down k F w) ≤ F.length := by unfold Bk.cle; exact List.length_filter_le _ _
      omega
    · exact f2.symm
  · rw [if_neg h]
    have hx : (Bk.sortH F)[k - 1]? = some (Bk.sortH F)[k - 1] := List.getElem?_eq_getElem (by omega)
    rw [hx]
    simp only
    have hxw : (Bk.sortH F)[k - 1].d ≤ w := hF _ ((Bk.sortH_is F).mem_iff.1 (List.getElem_mem _))
    have hid := fun b => Bk.idx_le (b := b) (Bk.sortH F) (Bk.sortH_sorted F) (k - 1) _ hx
    generalize (Bk.sortH F)[k - 1] = x at *
    apply Nat.le_antisymm
    · rcases f2 with f2 | f2
      · rw [hid, ← Br.cle_sort]; omega
      · rw [f2]; exact hxw
    · rcases f1 with f1 | f1
      · omega
      · by_cases h9 : x.d ≤ Bk.down k F w - 1
        · rw [hid, ← Br.cle_sort] at h9; omega
        · omega
theorem Br.bnd_le {S : List Bk.H} {k w : Nat} (hS : ∀ x ∈ S, x.d ≤ w) : Br.bnd S k w ≤ w := by
  unfold Br.bnd
  split
  · exact Nat.le_refl _
  · split
    · exact Nat.le_refl _
    · rename_i x hx
      exact hS x (List.mem_of_getElem? hx)
set_option maxRecDepth 100000 in
theorem Br.bound_any {W : World} {t : Nat} {w : Nat} (h0 : W.cell? ⟨t, 0, none⟩ = some (.int .i64 (w : Nat))) {B : Nat} {v : Value} {S : List Bk.H} (h : W.ownsRow B 61 3 v S.length (Bk.hcs S)) (hl : S.length ≤ 4398046511104) (k : Nat) (hk : 1 ≤ k) (hk2 : k ≤ 4096) :
    Calls Tryz.prog 47 #[.pointer (some ⟨t, 0, none⟩), v, .int .i64 (k : Nat)] W fun e W' => e = .returned (.int .i64 (Br.bnd S k w : Nat)) ∧ W = W' := by
  obtain ⟨A, c, rfl⟩ := Bk.row_form h
  unfold Br.bnd
  by_cases hs : S.length < k
  · rw [if_pos hs]
    have u1 : decide (S.length < k) = true := decide_eq_true hs
    clear h
    go_enter Tryz.func47, Tryz.ntmps47
    go_wp2_with fail
    go_ret
    exact ⟨rfl, rfl⟩
  · rw [if_neg hs]
    have u1 : decide (S.length < k) = false := decide_eq_false hs
    obtain ⟨m, rfl⟩ : ∃ m, k = m + 1 := ⟨k - 1, by omega⟩
    obtain ⟨x, hx⟩ : ∃ x, S[m]? = some x := ⟨_, List.getElem?_eq_getElem (by omega)⟩
    rw [Nat.add_sub_cancel, hx]
    simp only
    obtain ⟨g, rfl, h1, h2⟩ := Br.row_some h (by omega)
    obtain ⟨d0, -, -⟩ := Bk.row3 h hx
    have hm1 : ((m + 1 : Nat) : Int) - 1 = (m : Int) := by omega
    have hml : m < S.length := by omega
    obtain ⟨mm, hmm⟩ : ∃ mm, m + 1 = mm := ⟨_, rfl⟩
    rw [hmm] at u1 hm1 hk2 ⊢
    clear h hx hs hmm hk
    go_enter Tryz.func47, Tryz.ntmps47
    go_wp2_with fail
    go_ret
    exact ⟨rfl, rfl⟩
end Go.Proofs.YtikhahkmebkccaaGreatDoor
