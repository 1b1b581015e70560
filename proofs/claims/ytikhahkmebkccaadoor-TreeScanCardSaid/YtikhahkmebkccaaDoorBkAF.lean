/- Contract of the law's set. Conditions: each theorem's own hypotheses. -/
import Derived.Test.YtikhahkmebkccaaDoorBkAE
namespace Go.Proofs.YtikhahkmebkccaaDoor
open Go.RowKit Go.Maps Go.Sort Go.Shelf
set_option linter.unusedVariables false
set_option linter.unusedSimpArgs false

/-- The codes that are there behind a call. -/
def Bk.setC (l : List (List UInt8)) (k : Int) (c : List UInt8) (w : Nat) : List (List UInt8) :=
  if k ≠ 1 ∧ k ≠ 2 then l else (l.filter fun s => decide (s ≠ c)) ++ (if k = 1 ∧ c.length = w / 8 then [c] else [])
theorem Bk.own_later {w w' : World} {B B' : Nat} {e : TypeId} {size n : Nat} {v : Value} {xs : List Value} (h : w.ownsRow B e size v n xs) (hb : Below B' w w') (hB : w.heap.size ≤ B') : w'.ownsRow B e size v n xs :=
  Bk.own_of h fun k hk => hb.block k (Nat.lt_of_lt_of_le (h.lt k hk).2 hB)
/-- Between two rounds of set's loop. -/
def Bk.SR (W : World) (B0 : World) (l : List (List UInt8)) (c : List UInt8) (m : Nat) (vo i : Value) (wr : World) : Prop :=
  ∃ k : Nat, m + k = l.length ∧ i = .int .i64 (k : Nat) ∧ wr.ownsRow (W.heap.size + 1) 9 1 vo ((l.take k).filter fun s => decide (s ≠ c)).length (Bk.ss ((l.take k).filter fun s => decide (s ≠ c))) ∧ Below B0.heap.size B0 wr
set_option maxRecDepth 100000 in
set_option maxHeartbeats 8000000 in
theorem Bk.set_any {W : World} {v : Value} {l : List (List UInt8)} (h : W.ownsRow 0 9 1 v l.length (Bk.ss l)) (hl : l.length ≤ 4398046511104) (kd : Int) (c : ByteArray) (n : Int) (w : Nat) (hw : w ≤ 1024) :
    Calls Tryd.prog 16 #[v, .agg #[.int .i64 kd, .string c, .int .i64 n], .int .i64 w] W fun e W' => ∃ v', e = .returned v' ∧ Below W.heap.size W W' ∧ W'.ownsRow 0 9 1 v' (Bk.setC l kd c.data.toList w).length (Bk.ss (Bk.setC l kd c.data.toList w)) ∧ ∀ j, v'.ownBlock = some j → v.ownBlock = some j ∨ W.heap.size ≤ j := by
  obtain ⟨i0, hi, hz0, hz1, hz2⟩ := info_parts Bk.strInfo
  obtain ⟨A, cap, rfl⟩ := Bk.row_form h
  have B4 := Blk.new W 41 #[.int .i64 kd, .string c, .int .i64 n]
  have hB := (Below.refl W.heap.size W).alloc (Nat.le_refl _) (.cells #[.int .i64 kd, .string c, .int .i64 n] 41)
  have h2 := Bk.own_later h hB (Nat.le_refl _)
  have hz : (W.alloc (.cells #[.int .i64 kd, .string c, .int .i64 n] 41)).heap.size = W.heap.size + 1 := World.size_alloc _ _
  go_enter Tryd.func16, Tryd.ntmps16
  go_upto_region 3 with fail
  generalize W.alloc (.cells #[.int .i64 kd, .string c, .int .i64 n] 41) = W1 at B4 hB h2 hz ⊢
  have hst : Bk.SR W W1 l c.data.toList l.length (.slice none 0 0) (.int .i64 ((0 : Nat) : Int)) W1 := ⟨0, by omega, rfl, ⟨by simp [Bk.ss], .inl ⟨rfl, rfl⟩⟩, Below.refl _ _⟩
  have HS := Lib.hid hst
  clear hst h
  go_loopg [7, 8] l.length (fun m vo i wr => Bk.SR W W1 l c.data.toList m vo i wr)
  case atStart => exact HS.out
  case round =>
    clear HS
    obtain ⟨k, hmk, rfl, hro, hbr⟩ := hrel
    obtain ⟨K, hK⟩ : ∃ K, ((l.take k).filter fun s => decide (s ≠ c.data.toList)) = K := ⟨_, rfl⟩
    rw [hK] at hro
    obtain ⟨Ao, co, rfl⟩ := Bk.row_form hro
    have hfl : K.length ≤ l.length := by
      rw [← hK]
      exact Nat.le_trans (List.length_filter_le _ _) (by rw [List.length_take]; omega)
    have B4' : Blk wr W.heap.size 41 _ := (hbr.block W.heap.size (by omega)).trans B4
    have p0 := B4'.cell 0
    have p1 := B4'.cell 1
    simp only [List.getElem?_toArray, List.getElem?_cons_zero, List.getElem?_cons_succ] at p0 p1
    have hbW : Below W.heap.size W wr := hB.trans (hbr.mono hB.size)
    by_cases hkn : k = l.length
    · have u1 : decide (k < l.length) = false := decide_eq_false (by omega)
      have hcs : c.data.toList.length = c.size := Array.length_toList
      rw [hkn, List.take_length] at hK
      by_cases k1 : kd = 1
      · subst k1
        by_cases hfit : c.size = w / 8
        · have hR : Bk.setC l 1 c.data.toList w = K ++ [c.data.toList] := by
            unfold Bk.setC
            rw [if_neg (by omega), if_pos (by omega), hK]
          have e8 : Int.tdiv (w : Int) 8 = (c.size : Int) := by rw [hfit]; rfl
          have hcz : c.size ≤ 128 := by omega
          have HR := Lib.hid (And.intro hR (And.intro hK hkn))
          clear hR hfit hkn hcs h2 B4' hK
          go_upto_region 9 with (at_builtin; refine wpList_append_own _ rfl _ _ 39 rfl (W.heap.size + 1) 9 i0 (.string ⟨#[]⟩) 1 16 Tryd.underlying39 hi hz0 hz1 hz2 rfl (by decide) (.slice Ao K.length co) K.length _ rfl (hro.alloc _) ⟨wr.heap.size, 0, none⟩ 1 1 [.string c] rfl rfl (cell_one_new _ _ _) (by simp [Value.oneCell']) (by unfold maxLen; omega) (by omega) (by have := hbr.size; simp; omega) ?_; intro v' w3 hown' hg3 hnil3; obtain ⟨A', cp', rfl⟩ := Bk.row_form hown')
          have hro1 := hro.alloc (.cells #[.string c] 9)
          have hne : some W.heap.size ≠ (Value.slice Ao K.length co).ownBlock := fun e => by have := (hro.lt _ e.symm).1; omega
          have p3 := ((show Blk wr W.heap.size 41 _ from (hbr.block W.heap.size (by omega)).trans B4).alloc (.cells #[.string c] 9)).grown hg3 hne
          have p0 := p3.cell 0
          simp only [List.getElem?_toArray, List.getElem?_cons_zero, List.getElem?_cons_succ] at p0
          have hb3 : Below W.heap.size W w3 := (hbW.alloc hbW.size (.cells #[.string c] 9)).grown hg3 (by have := hbW.size; simp; omega) fun j hj => by have := (hro.lt j hj).1; omega
          have HO := Lib.hid (And.intro hown' hb3)
          clear hown' hb3 hg3 hnil3 hro hro1 p3
          go_wp2_with fail
          go_ret
          refine ⟨_, rfl, HO.out.2, ?_, fun j hj => .inr (by have := (HO.out.1.lt j hj).1; omega)⟩
          rw [HR.out.1, List.length_append]
          have := Bk.own_base HO.out.1 (B' := 0) (Nat.zero_le _)
          unfold Bk.ss at *
          rw [List.map_append]
          exact this
        · have hR : Bk.setC l 1 c.data.toList w = K := by
            unfold Bk.setC
            rw [if_neg (by omega), if_neg (by omega), hK, List.append_nil]
          obtain ⟨w8, hw8⟩ : ∃ w8, w / 8 = w8 := ⟨_, rfl⟩
          have e8 : Int.tdiv (w : Int) 8 = (w8 : Int) := by rw [← hw8]; rfl
          have hcz : w8 ≤ 128 := by omega
          have u2 : ((c.size : Int) == (w8 : Int)) = false := by rw [beq_eq_false_iff_ne]; omega
          have HR := Lib.hid (And.intro hR (And.intro hro hbW))
          clear hR hfit hkn hcs h2 B4' hK hw8 hro
          go_wp2_with fail
          go_ret
          refine ⟨_, rfl, HR.out.2.2, ?_, fun j hj => .inr (by have := (HR.out.2.1.lt j hj).1; omega)⟩
          rw [HR.out.1]
          exact Bk.own_base HR.out.2.1 (Nat.zero_le _)
      · have u2 : (kd == 1) = false := by simpa using k1
        have u3 : (kd != 1) = true := by simpa using k1
        by_cases k2 : kd = 2
        · have u4 : (kd != 2) = false := by simpa using k2
          have hR : Bk.setC l kd c.data.toList w = K := by
            unfold Bk.setC
            rw [if_neg (by omega), if_neg (by omega), hK, List.append_nil]
          have HR := Lib.hid (And.intro hR (And.intro hro hbW))
          clear hR hkn hcs h2 B4' hK hro k1 k2
          go_wp2_with fail
          go_ret
          refine ⟨_, rfl, HR.out.2.2, ?_, fun j hj => .inr (by have := (HR.out.2.1.lt j hj).1; omega)⟩
          rw [HR.out.1]
          exact Bk.own_base HR.out.2.1 (Nat.zero_le _)
        · have u4 : (kd != 2) = true := by simpa using k2
          have hR : Bk.setC l kd c.data.toList w = l := by
            unfold Bk.setC
            rw [if_pos ⟨k1, k2⟩]
          have HR := Lib.hid (And.intro hR (And.intro (Bk.own_later h2 hbr (Nat.le_refl _)) hbW))
          clear hR hkn hcs h2 B4' hK hro k1 k2
          go_wp2_with fail
          go_ret
          refine ⟨_, rfl, HR.out.2.2, ?_, fun j hj => .inl hj⟩
          rw [HR.out.1]
          exact HR.out.2.1
    · have u1 : decide (k < l.length) = true := decide_eq_true (by omega)
      obtain ⟨s, hs⟩ : ∃ s, l[k]? = some s := ⟨_, List.getElem?_eq_getElem (by omega)⟩
      have h3 := Bk.own_later h2 hbr (Nat.le_refl _)
      obtain ⟨g, rfl, hg3, hg4, d0⟩ := Bk.srow_at h3 hs
      obtain ⟨xb, hxb, _⟩ := Tx.of s
      rw [Tx.v_eq hxb] at d0
      have hkl : k < l.length := by omega
      by_cases hsc : s = c.data.toList
      · have u2 : (xb.toList == c.toList) = true := by rw [Tx.beq, hxb]; exact decide_eq_true hsc
        have hK2 : ((l.take (k + 1)).filter fun s => decide (s ≠ c.data.toList)) = K := by
          rw [List.take_add_one, hs, List.filter_append, hK]
          simp [hsc]
        have HX := Lib.hid (And.intro hK2 (And.intro hmk (And.intro hro hbr)))
        clear hs hsc hxb hK hK2 hmk hro h2 h3 B4' hkn
        go_upto_region 5 with fail
        go_quiet (fail)
        go_wp2_with fail
        go_roundg (gk - 1)
        case measure => have := HX.out.2.1; omega
        case rel =>
          refine ⟨k + 1, by have := HX.out.2.1; omega, congrArg (Value.int .i64) (by omega), ?_, below_dn HX.out.2.2.2 _⟩
          rw [HX.out.1]
          exact Bk.own_of HX.out.2.2.1 fun _ _ => rfl
      · have u2 : (xb.toList == c.toList) = false := by rw [Tx.beq, hxb]; exact decide_eq_false hsc
        have hK2 : ((l.take (k + 1)).filter fun s => decide (s ≠ c.data.toList)) = K ++ [s] := by
          rw [List.take_add_one, hs, List.filter_append, hK]
          simp [hsc]
        have HX := Lib.hid (And.intro hK2 (And.intro hmk (And.intro hxb hbr)))
        clear hs hsc hxb hK hK2 hmk h2 h3 B4' hkn
        go_upto_region 5 with fail
        go_quiet (fail)
        have hro2 : (wr.drewN nq).ownsRow (W.heap.size + 1) 9 1 (.slice Ao K.length co) K.length (Bk.ss K) := Bk.own_of hro fun _ _ => rfl
        have hbr2 : Below W1.heap.size W1 (wr.drewN nq) := below_dn HX.out.2.2.2 _
        have d0 : (wr.drewN nq).cell? ⟨g, k, none⟩ = _ := d0
        clear hro p0 p1
        generalize wr.drewN nq = w2 at hro2 hbr2 d0 ⊢
        go_wp2_with (at_builtin; refine wpList_append_own _ rfl _ _ 39 rfl (W.heap.size + 1) 9 i0 (.string ⟨#[]⟩) 1 16 Tryd.underlying39 hi hz0 hz1 hz2 rfl (by decide) (.slice Ao K.length co) K.length _ rfl (hro2.alloc _) ⟨w2.heap.size, 0, none⟩ 1 1 [.string xb] rfl rfl (cell_one_new _ _ _) (by simp [Value.oneCell']) (by unfold maxLen; omega) (by omega) (by have := hbr2.size; simp; omega) ?_; intro v' w3 hown' hg3 hnil3)
        go_roundg (gk - 1)
        case measure => have := HX.out.2.1; omega
        case rel =>
          refine ⟨k + 1, by have := HX.out.2.1; omega, congrArg (Value.int .i64) (by omega), ?_, ?_⟩
          · rw [HX.out.1, List.length_append]
            unfold Bk.ss at *
            rw [List.map_append]
            rw [show List.map Tx.v [s] = [.string xb] by rw [List.map_cons, Tx.v_eq HX.out.2.2.1]; rfl]
            exact hown'
          · exact (hbr2.alloc hbr2.size (.cells #[.string xb] 9)).grown hg3 (by have := hbr2.size; simp; omega) fun j hj => by have := (hro2.lt j hj).1; omega
end Go.Proofs.YtikhahkmebkccaaDoor
