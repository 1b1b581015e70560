/- The document's tree: Nearest. Conditions: each theorem's own hypotheses. -/
import Derived.Test.YtikhahkmebkccaaGreatDoorBrJ
namespace Go.Proofs.YtikhahkmebkccaaGreatDoor
open Go.RowKit Go.Maps Go.Sort Go.Shelf
set_option linter.unusedVariables false
set_option linter.unusedSimpArgs false

/-- While the hits that are as near as the k-th are taken over. -/
def Br.NO (W5 : World) (S : List Bk.H) (b : Nat) (m : Nat) (vo i : Value) (wr : World) : Prop :=
  ∃ k : Nat, m + k = S.length ∧ i = .int .i64 (k : Nat) ∧ wr.ownsRow W5.heap.size 61 3 vo (S.take k).length (Bk.hcs (S.take k)) ∧ Below W5.heap.size W5 wr ∧ Hid (∀ y ∈ S.take k, y.d ≤ b)
set_option maxRecDepth 100000 in
set_option maxHeartbeats 8000000 in
theorem Br.Nearest_any {W : World} {t : Nat} {T : Bk.T} {F : Nat → Prop} (h : Br.At W t T F) (hG : Bk.Good T.w T.l) (hwide : 64 ≤ T.w) (hw : T.w ≤ 1024) (hl : T.l.length ≤ 4398046511104) (c : ByteArray) (hc : c.size ≤ 9223372036854775807) (n : Int) :
    Calls Tryz.prog 27 #[.pointer (some ⟨t, 0, none⟩), .string c, .int .i64 n] W fun e W' => ∃ v, e = .returned (.tuple #[v, .int .i64 (Bk.nearest T c.data.toList n).2.2]) ∧
      W'.ownsRow W.heap.size 61 3 v (Bk.nearest T c.data.toList n).2.1.length (Bk.hcs (Bk.nearest T c.data.toList n).2.1) ∧ Br.At W' t (Bk.nearest T c.data.toList n).1 F ∧ Bk.Only F W W' := by
  obtain ⟨i0, hi, hz0, hz1, hz2⟩ := info_parts Bk.hitInfo
  have hat := h
  obtain ⟨A, cap, hS, rfl⟩ := h
  have c0 := hS.t0
  have c1 := hS.t1
  have hcs : c.data.toList.length = c.size := Array.length_toList
  obtain ⟨w8, hw8⟩ : ∃ w8, T.w / 8 = w8 := ⟨_, rfl⟩
  have e8 : Int.tdiv (T.w : Int) 8 = (w8 : Int) := by rw [← hw8]; rfl
  have hw9 : w8 ≤ 128 := by omega
  by_cases hfit : c.size = w8
  · have u1 : ((c.size : Int) != (w8 : Int)) = false := by rw [hfit]; exact bne_self_eq_false _
    by_cases hr : n < 0 ∨ 4096 < n
    · have hR : Bk.nearest T c.data.toList n = (T, [], 100) := by unfold Bk.nearest; rw [if_pos (by omega), if_pos hr]
      rw [hR]
      clear hR hcs hfit hw8
      rcases hr with hr | hr
      · have u2 : decide (n < 0) = true := decide_eq_true hr
        go_enter Tryz.func27, Tryz.ntmps27
        go_wp2_with fail
        go_ret2
        exact ⟨_, rfl, Br.nil_row _ _, hat, Bk.Only.refl _ _⟩
      · have u2 : decide (n < 0) = false := decide_eq_false (by omega)
        have u3 : decide (4096 < n) = true := decide_eq_true hr
        go_enter Tryz.func27, Tryz.ntmps27
        go_wp2_with fail
        go_ret2
        exact ⟨_, rfl, Br.nil_row _ _, hat, Bk.Only.refl _ _⟩
    · obtain ⟨K, rfl⟩ : ∃ K : Nat, n = (K : Int) := ⟨n.toNat, by omega⟩
      have u2 : decide ((K : Int) < 0) = false := decide_eq_false (by omega)
      have u3 : decide ((4096 : Int) < (K : Int)) = false := decide_eq_false (by omega)
      by_cases hk0 : K = 0
      · have hR : Bk.nearest T c.data.toList (K : Int) = (T, [], 0) := by
          unfold Bk.nearest
          rw [if_pos (by omega), if_neg hr, if_pos (by omega)]
        rw [hR]
        have u4 : ((K : Int) == 0) = true := by rw [hk0]; rfl
        clear hR hcs hfit hw8 hk0
        go_enter Tryz.func27, Tryz.ntmps27
        go_wp2_with fail
        go_ret2
        exact ⟨_, rfl, Br.nil_row _ _, hat, Bk.Only.refl _ _⟩
      · have hR : Bk.nearest T c.data.toList (K : Int) = ({ T with seen := (Bk.Res T c.data.toList fun F => Bk.down K F T.w).2 }, Bk.sortH ((Bk.Res T c.data.toList fun F => Bk.down K F T.w).1.filter fun h => decide (h.d ≤ Bk.down K (Bk.Res T c.data.toList fun F => Bk.down K F T.w).1 T.w)), 0) := by
          unfold Bk.nearest
          rw [if_pos (by omega), if_neg hr, if_neg (by omega), Int.toNat_natCast]
        rw [hR]
        have u4 : ((K : Int) == 0) = false := by rw [beq_eq_false_iff_ne]; omega
        by_cases h0 : T.l.length = 0
        · have hRes : (Bk.Res T c.data.toList fun F => Bk.down K F T.w) = ([], T.seen) := by unfold Bk.Res; rw [if_pos h0]
          rw [hRes]
          have hnil : Bk.sortH (([] : List Bk.H).filter fun h => decide (h.d ≤ Bk.down K [] T.w)) = [] := by unfold Bk.sortH; simp
          simp only [hnil]
          have u5 : ((T.l.length : Int) == 0) = true := by rw [h0]; rfl
          clear hR hcs hfit hw8 hRes h0
          go_enter Tryz.func27, Tryz.ntmps27
          go_wp2_with fail
          go_ret2
          exact ⟨_, rfl, Br.nil_row _ _, hat, Bk.Only.refl _ _⟩
        · have hRes : (Bk.Res T c.data.toList fun F => Bk.down K F T.w) = Bk.V T.w T.l c.data.toList (fun F => Bk.down K F T.w) 0 ([], T.seen) := by unfold Bk.Res; rw [if_neg h0]
          have hle := (hG.res_le c.data.toList fun F => Bk.down K F T.w).2.1
          rw [hRes] at hle ⊢
          have u5 : ((T.l.length : Int) == 0) = false := by rw [beq_eq_false_iff_ne]; omega
          have hK1 : 1 ≤ K := by omega
          have hK2 : K ≤ 4096 := by omega
          have hf9 : ∀ x ∈ (Bk.V T.w T.l c.data.toList (fun F => Bk.down K F T.w) 0 ([], T.seen)).1, x.d ≤ T.w := Br.visit_far hG (by omega) _ _ _ (fun x hx => by cases hx)
          have kr := Br.nearest_rec hS hG hwide hw hl c (by omega) K hK1 hK2 (T.l.length + 1) 0 (by omega) (by omega) ([], T.seen) _ W (Br.Sx.start hS (by unfold Bk.sortH; simp)) (fun x hx => by cases hx) hle
          generalize (Bk.V T.w T.l c.data.toList (fun F => Bk.down K F T.w) 0 ([], T.seen)) = s9 at *
          have hbd := Br.bnd_down hK1 hf9
          have hbl := Bk.down_le K s9.1 T.w
          obtain ⟨b, hb⟩ : ∃ b, Bk.down K s9.1 T.w = b := ⟨_, rfl⟩
          rw [hb] at hbd hbl ⊢
          obtain ⟨S, hSs⟩ : ∃ S, Bk.sortH s9.1 = S := ⟨_, rfl⟩
          have hsort : S.Pairwise fun a b => Bk.leH a b = true := by rw [← hSs]; exact Bk.sortH_sorted _
          have hflt : Bk.sortH (s9.1.filter fun h => decide (h.d ≤ b)) = S.filter fun h => decide (h.d ≤ b) := by rw [Bk.sortH_filter, hSs]
          have hSl : S.length ≤ T.l.length := by rw [← hSs, (Bk.sortH_is _).length_eq]; exact hle
          have hSw : ∀ x ∈ S, x.d ≤ 1024 := fun x hx => by
            have := hf9 x ((Bk.sortH_is s9.1).mem_iff.1 (by rw [hSs]; exact hx))
            omega
          rw [hSs] at hbd
          rw [hflt]
          have HH := Lib.hid (And.intro hsort (And.intro hSs (And.intro hbd hSw)))
          clear hR hcs hfit hw8 hRes h0 hle hf9 hb hsort hflt hSs hbd hSw hk0
          go_enter Tryz.func27, Tryz.ntmps27
          go_upto_region 8 with (go_at_call 46; refine kr.mono ?_; clear kr; rintro e w5 ⟨v5, rfl, hx5⟩; obtain ⟨A5, c5, rfl⟩ := Bk.row_form hx5.row)
          have q0 := (hx5.st hS).t0
          simp only at q0
          have hrow := hx5.row
          rw [HH.out.2.1] at hrow ⊢
          have kb := Br.bound_any q0 hrow (by omega) K hK1 hK2
          rw [HH.out.2.2.1] at kb
          have HX := Lib.hid (And.intro hx5 hrow)
          clear hx5 q0 hrow c0 c1
          go_upto_region 11 with (go_at_call 47; refine kb.mono ?_; clear kb; rintro e w6 ⟨rfl, rfl⟩)
          have HN := Lib.hid (show Br.NO w5 S b S.length (.slice none 0 0) (.int .i64 ((0 : Nat) : Int)) w5 from ⟨0, by omega, rfl, by rw [List.take_zero]; exact Br.nil_row _ _, Below.refl _ _, Lib.hid fun y hy => by simp at hy⟩)
          go_loopg [9, 11] S.length (fun m vo i wr => Br.NO w5 S b m vo i wr)
          case atStart => exact HN.out
          case round =>
            clear HN
            obtain ⟨k, hmk, rfl, hro, hbr, hall⟩ := hrel
            have hfin : S.filter (fun h => decide (h.d ≤ b)) = S.take k → (∃ v', (.returned (.tuple #[(.slice none 0 0 : Value), .int .i64 0]) : Ending) = .returned (.tuple #[v', .int .i64 0]) ∧ True) → True := fun _ _ => True.intro
            clear hfin
            have htl : (S.take k).length = k := by rw [List.length_take]; omega
            obtain ⟨Ao, co, rfl⟩ := Bk.row_form hro
            by_cases hkn : k = S.length
            · have u6 : decide (k < S.length) = false := decide_eq_false (by omega)
              have hcut := Bk.cut_is (j := k) HH.out.1 hall.out (fun y hy => by rw [hkn] at hy; simp at hy)
              have HC := Lib.hid (And.intro hcut hro)
              clear hcut hro hmk hkn htl
              go_wp2_with fail
              go_ret2
              obtain ⟨z1, z2⟩ := HX.out.1.end' hS
              refine ⟨_, rfl, ?_, z1.later hbr (Nat.le_refl _), z2.trans (.of hbr)⟩
              have := Bk.own_base HC.out.2 z2.size
              rw [← HC.out.1] at this
              rw [← HC.out.1]
              exact this
            · have u6 : decide (k < S.length) = true := decide_eq_true (by omega)
              obtain ⟨x, hx⟩ : ∃ x, S[k]? = some x := ⟨_, List.getElem?_eq_getElem (by omega)⟩
              have hkl : k < S.length := by omega
              obtain ⟨g5, rfl, hg5, hg6⟩ := Br.row_some HX.out.2 (by omega)
              have hrw : wr.ownsRow W.heap.size 61 3 (.slice (some ⟨g5, 0, none⟩) S.length c5) S.length (Bk.hcs S) := Bk.own_of HX.out.2 fun j hj => hbr.block j (HX.out.2.lt j hj).2
              obtain ⟨d0, d1, d2⟩ := Bk.row3 hrw hx
              obtain ⟨xb, hxb, _⟩ := Tx.of x.c
              rw [Tx.v_eq hxb] at d2
              have htk : S.take (k + 1) = S.take k ++ [x] := by rw [List.take_add_one, hx]; rfl
              have hx1024 := HH.out.2.2.2 x (List.mem_of_getElem? hx)
              by_cases hxd : x.d ≤ b
              · have u7 : decide (x.d ≤ b) = true := decide_eq_true hxd
                have hall2 : Hid (∀ y ∈ S.take (k + 1), y.d ≤ b) := Lib.hid fun y hy => by
                  rw [htk] at hy
                  rcases List.mem_append.1 hy with hy | hy
                  · exact hall.out y hy
                  · rw [List.mem_singleton] at hy; rw [hy]; exact hxd
                have HT := Lib.hid (And.intro htk (And.intro hmk hxb))
                clear htk hmk hkn hx hxb hxd hrw
                rw [htl] at hro ⊢
                go_wp2_with (at_builtin; refine wpList_append_own _ rfl _ _ 28 rfl w5.heap.size 61 i0 (.agg #[.int .i64 0, .int .i64 0, .string ⟨#[]⟩]) 3 32 Tryz.underlying28 hi hz0 hz1 hz2 rfl (by decide) (.slice Ao k co) k _ rfl (hro.alloc _) ⟨wr.heap.size, 0, none⟩ 1 1 [.int .i64 (x.d : Nat), .int .i64 0, .string xb] rfl rfl (Bk.cells3 _ _ _ _ _) (by simp [Value.oneCell']) (by unfold maxLen; omega) (by omega) (by have := hbr.size; simp; omega) ?_; intro v' w9 hown' hg9 hnil; obtain ⟨A9, c9, rfl⟩ := Bk.row_form hown'; have hb9 : Below w5.heap.size w5 w9 := (hbr.alloc hbr.size (.cells #[.int .i64 (x.d : Nat), .int .i64 0, .string xb] 61)).grown hg9 (by have := hbr.size; simp; omega) (fun j hj => (hro.lt j hj).1); have HO := Lib.hid (And.intro hown' hb9); clear hown' hb9 hg9 hnil)
                go_roundg (gk - 1)
                case measure => have := HT.out.2.1; omega
                case rel =>
                  have hl1 : (S.take (k + 1)).length = k + 1 := by rw [List.length_take]; omega
                  refine ⟨k + 1, by have := HT.out.2.1; omega, congrArg (Value.int .i64) (by omega), ?_, HO.out.2, hall2⟩
                  rw [hl1, HT.out.1]
                  have e2 : Bk.hcs (S.take k ++ [x]) = Bk.hcs (S.take k) ++ [.int .i64 (x.d : Nat), .int .i64 0, .string xb] := by
                    unfold Bk.hcs
                    rw [List.flatMap_append, List.flatMap_singleton]
                    show _ ++ [.int .i64 (x.d : Nat), .int .i64 0, Tx.v x.c] = _
                    rw [Tx.v_eq HT.out.2.2]
                  rw [e2]
                  exact HO.out.1
              · have u7 : decide (x.d ≤ b) = false := decide_eq_false hxd
                have hcut := Bk.cut_is (j := k) HH.out.1 hall.out (fun y hy => by rw [hx] at hy; rw [← Option.some.inj hy]; omega)
                have HC := Lib.hid (And.intro hcut hro)
                clear hcut hro hmk hkn htl htk hx hxb hxd hrw
                go_wp2_with fail
                go_ret2
                obtain ⟨z1, z2⟩ := HX.out.1.end' hS
                refine ⟨_, rfl, ?_, z1.later hbr (Nat.le_refl _), z2.trans (.of hbr)⟩
                have := Bk.own_base HC.out.2 z2.size
                rw [← HC.out.1] at this
                rw [← HC.out.1]
                exact this
  · have hR : Bk.nearest T c.data.toList n = (T, [], 11) := by unfold Bk.nearest; rw [if_neg (by omega)]
    have u1 : ((c.size : Int) != (w8 : Int)) = true := by rw [bne_iff_ne]; omega
    rw [hR]
    clear hR hcs hfit hw8
    go_enter Tryz.func27, Tryz.ntmps27
    go_wp2_with fail
    go_ret2
    exact ⟨_, rfl, Br.nil_row _ _, hat, Bk.Only.refl _ _⟩
end Go.Proofs.YtikhahkmebkccaaGreatDoor
