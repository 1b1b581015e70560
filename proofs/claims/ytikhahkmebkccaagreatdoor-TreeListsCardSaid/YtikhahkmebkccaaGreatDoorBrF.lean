/- The document's tree: a hit put at its place. Conditions: each theorem's own hypotheses. -/
import Derived.Test.YtikhahkmebkccaaGreatDoorBrE
namespace Go.Proofs.YtikhahkmebkccaaGreatDoor
open Go.RowKit Go.Maps Go.Sort Go.Shelf
set_option linter.unusedVariables false
set_option linter.unusedSimpArgs false

theorem Br.sort_put {S : List Bk.H} {x : Bk.H} {k : Nat} (hs : S.Pairwise fun a b => Bk.leH a b = true) (hk : k ≤ S.length) (h1 : ∀ y, S[k - 1]? = some y → k = 0 ∨ Bk.leH y x = true) (h2 : ∀ y ∈ S.drop k, Bk.leH y x = false) :
    Bk.sortH (S ++ [x]) = S.take k ++ [x] ++ S.drop k := by
  have e : S.mergeSort Bk.leH = S := List.mergeSort_of_pairwise hs
  have h := Br.ins_put Bk.leH_trans Bk.leH_total Bk.leH_anti (l := S) (x := x) (k := k) (by rw [e]; exact hk) (by rw [e]; exact h1) (by rw [e]; exact h2)
  rw [e] at h
  exact h
/-- Between two rounds of put's loop. -/
def Br.PI (W : World) (B : Nat) (S : List Bk.H) (x : Bk.H) (bx g cap : Nat) (m : Nat) (sk : Value) (wr : World) : Prop :=
  ∃ C : List Bk.H, sk = .int .i64 (m : Nat) ∧ m ≤ S.length ∧ wr.ownsRow B 61 3 (.slice (some ⟨g, 0, none⟩) (S.length + 1) cap) (S.length + 1) (Bk.hcs C) ∧ Below B W wr ∧ Blk wr bx 61 #[.int .i64 (x.d : Nat), .int .i64 0, Tx.v x.c] ∧ C.length = S.length + 1 ∧ C.take m = S.take m ∧ C.drop (m + 1) = S.drop m ∧ ∀ y ∈ S.drop m, Bk.leH y x = false
set_option maxRecDepth 100000 in
set_option maxHeartbeats 8000000 in
theorem Br.put_any {W : World} {B : Nat} {v : Value} {S : List Bk.H} (h : W.ownsRow B 61 3 v S.length (Bk.hcs S)) (hB : B ≤ W.heap.size) (hs : S.Pairwise fun a b => Bk.leH a b = true) (hl : S.length ≤ 4398046511103) (d : Nat) (hd : d ≤ 1024) (xb : ByteArray) :
    Calls Tryz.prog 59 #[v, .agg #[.int .i64 (d : Nat), .int .i64 0, .string xb]] W fun e W' => ∃ v', e = .returned v' ∧ Below B W W' ∧ W'.ownsRow B 61 3 v' (Bk.sortH (S ++ [⟨d, xb.data.toList⟩])).length (Bk.hcs (Bk.sortH (S ++ [⟨d, xb.data.toList⟩]))) := by
  obtain ⟨i0, hi, hz0, hz1, hz2⟩ := info_parts Bk.hitInfo
  obtain ⟨Ao, co, rfl⟩ := Bk.row_form h
  have hb0 : Below B W (W.alloc (.cells #[.int .i64 (d : Nat), .int .i64 0, .string xb] 61)) := (Below.refl B W).alloc hB _
  have bx0 := Blk.new W 61 #[.int .i64 (d : Nat), .int .i64 0, .string xb]
  have hro := h.alloc (.cells #[.int .i64 (d : Nat), .int .i64 0, .string xb] 61)
  have hz : (W.alloc (.cells #[.int .i64 (d : Nat), .int .i64 0, .string xb] 61)).heap.size = W.heap.size + 1 := World.size_alloc _ _
  have hne0 : ∀ j, (Value.slice Ao S.length co).ownBlock = some j → j < W.heap.size := fun j hj => (h.lt j hj).2
  have HS := Lib.hid hs
  clear hs h
  go_enter Tryz.func59, Tryz.ntmps59
  go_upto_region 1 with fail
  generalize W.alloc (.cells #[.int .i64 (d : Nat), .int .i64 0, .string xb] 61) = w1 at hb0 bx0 hro hz ⊢
  have hB1 : B ≤ w1.heap.size := by omega
  have HZ := Lib.hid (And.intro hz hne0)
  clear hz hne0
  have p0 := bx0.cell 0
  have p1 := bx0.cell 1
  have p2 := bx0.cell 2
  simp only [List.getElem?_toArray, List.getElem?_cons_zero, List.getElem?_cons_succ] at p0 p1 p2
  go_upto_region 3 with (at_builtin; refine wpList_append_own_at _ rfl _ _ 28 rfl B 61 i0 (.agg #[.int .i64 0, .int .i64 0, .string ⟨#[]⟩]) 3 32 Tryz.underlying28 hi hz0 hz1 hz2 rfl (by decide) (.slice Ao S.length co) S.length _ rfl (hro.alloc _) ⟨w1.heap.size, 0, none⟩ 1 1 [.int .i64 (d : Nat), .int .i64 0, .string xb] rfl rfl (Bk.cells3 _ _ _ _ _) (by simp [Value.oneCell']) (by unfold maxLen; omega) (by omega) (by simp; omega) ?_; intro v' w4 hown' hg4' hnil hat; obtain ⟨A', cp', rfl⟩ := Bk.row_form hown')
  have hbr4 : Below B W w4 := (hb0.alloc hB1 (.cells #[.int .i64 (d : Nat), .int .i64 0, .string xb] 61)).grown hg4' (by simp; omega) fun j hj => (hro.lt j hj).1
  have hz1' : (S ++ [(⟨d, xb.data.toList⟩ : Bk.H)]).length = S.length + 1 := by simp
  have hrow4 : w4.ownsRow B 61 3 (.slice A' (S.length + 1) cp') (S.length + 1) (Bk.hcs (S ++ [(⟨d, xb.data.toList⟩ : Bk.H)])) := by
    have e2 : Bk.hcs (S ++ [(⟨d, xb.data.toList⟩ : Bk.H)]) = Bk.hcs S ++ [.int .i64 (d : Nat), .int .i64 0, .string xb] := by
      unfold Bk.hcs
      rw [List.flatMap_append, List.flatMap_singleton]
      show _ ++ [.int .i64 (d : Nat), .int .i64 0, Tx.v xb.data.toList] = _
      rw [Tx.v_eq (b := xb) rfl]
    rw [e2]; exact hown'
  have hne : some W.heap.size ≠ (Value.slice Ao S.length co).ownBlock := fun e => by have := HZ.out.2 _ e.symm; omega
  have bx4 := (bx0.alloc (.cells #[.int .i64 (d : Nat), .int .i64 0, .string xb] 61)).grown hg4' hne
  obtain ⟨g', rfl, hgB, hgb⟩ : ∃ g', A' = some ⟨g', 0, none⟩ ∧ (S.length + 1 ≤ cp' ∧ cp' ≤ maxLen) ∧ B ≤ g' ∧ g' ≠ W.heap.size := by
    obtain ⟨g', rfl, k1, k2⟩ := Br.row_some hrow4 (by omega)
    refine ⟨g', rfl, ⟨k1, k2⟩, (hrow4.lt g' rfl).1, fun e => ?_⟩
    rcases hat with h1 | h1
    · have := HZ.out.2 g' (h1.symm.trans rfl)
      omega
    · have : some g' = some (w1.alloc (.cells #[.int .i64 (d : Nat), .int .i64 0, .string xb] 61)).heap.size := h1
      have h2 := Option.some.inj this
      rw [World.size_alloc] at h2
      have := HZ.out.1
      omega
  obtain ⟨hg5, hg6⟩ := hgB
  obtain ⟨hgW, hgne⟩ := hgb
  have HS2 := Lib.hid (show Br.PI W B S ⟨d, xb.data.toList⟩ W.heap.size g' cp' S.length (.int .i64 (S.length : Nat)) w4 from ⟨S ++ [(⟨d, xb.data.toList⟩ : Bk.H)], rfl, Nat.le_refl _, hrow4, hbr4, by rw [Tx.v_eq (b := xb) rfl]; exact bx4, hz1', by simp, by simp, fun y hy => by simp at hy⟩)
  clear hrow4 hown' hg4' hnil hat hro hz1' bx4 p0 p1 p2 bx0 hbr4 hb0
  generalize hbx : W.heap.size = bx at *
  have HBX := Lib.hid hbx
  clear hbx
  go_loopg [5] S.length (fun m sk wr => Br.PI W B S ⟨d, xb.data.toList⟩ bx g' cp' m sk wr)
  case atStart => exact HS2.out
  case round =>
    clear HS2
    obtain ⟨C, rfl, hm, hrc, hbc, hbk, hcl, htk, hdr, hgt⟩ := hrel
    rw [Tx.v_eq (b := xb) rfl] at hbk
    have p0 := hbk.cell 0
    have p1 := hbk.cell 1
    have p2 := hbk.cell 2
    simp only [List.getElem?_toArray, List.getElem?_cons_zero, List.getElem?_cons_succ] at p0 p1 p2
    cases gk with
    | zero =>
      have HC := Lib.hid (And.intro hrc (And.intro hcl (And.intro htk (And.intro hdr (And.intro hgt hbk)))))
      clear hrc hcl htk hdr hgt hbk
      go_upto_region 3 with fail
      go_quiet (fail)
      have hrz : (wr.drewN nq).ownsRow B 61 3 (.slice (some ⟨g', 0, none⟩) (S.length + 1) cp') (S.length + 1) (Bk.hcs C) := Bk.own_of HC.out.1 fun _ _ => rfl
      have hbz : Below B W (wr.drewN nq) := below_dn hbc nq
      have hkz : Blk (wr.drewN nq) bx 61 _ := HC.out.2.2.2.2.2
      clear hbc p0 p1 p2
      generalize wr.drewN nq = wz at hrz hbz hkz ⊢
      have p0 := hkz.cell 0
      have p1 := hkz.cell 1
      have p2 := hkz.cell 2
      simp only [List.getElem?_toArray, List.getElem?_cons_zero, List.getElem?_cons_succ] at p0 p1 p2
      obtain ⟨z, hz⟩ : ∃ z, C[0]? = some z := ⟨_, List.getElem?_eq_getElem (by have := HC.out.2.1; omega)⟩
      obtain ⟨e0, e1, e2⟩ := Bk.row3 hrz hz
      have f0 := hrz.frozenAt ((0) * 3)
      have f1 := hrz.frozenAt ((0) * 3 + 1)
      have f2 := hrz.frozenAt ((0) * 3 + 2)
      simp only [Nat.zero_mul, Nat.zero_add] at e0 e1 e2 f0 f1 f2
      have HY := Lib.hid (And.intro hrz hbz)
      clear hrz hz hkz
      go_wp2_with fail
      go_ret
      refine ⟨_, rfl, ((hbz.setCell (p := ⟨g', (0) * 3, none⟩) hgW _).setCell (p := ⟨g', (0) * 3 + 1, none⟩) hgW _).setCell (p := ⟨g', (0) * 3 + 2, none⟩) hgW _, ?_⟩
      have hput := (Bk.row_put HY.out.1 (0) ⟨d, xb.data.toList⟩).1
      rw [Bk.set_is HC.out.2.1 HC.out.2.2.1 HC.out.2.2.2.1 (by omega)] at hput
      have hsc := Br.sort_put (k := 0) (x := ⟨d, xb.data.toList⟩) HS.out (by omega) (fun w9 hw9 => .inl rfl) HC.out.2.2.2.2.1
      rw [hsc]
      have hln : (S.take (0) ++ [(⟨d, xb.data.toList⟩ : Bk.H)] ++ S.drop (0)).length = S.length + 1 := by simp; try omega
      rw [hln]
      rw [show Tx.v (⟨d, xb.data.toList⟩ : Bk.H).c = .string xb from Tx.v_eq (b := xb) rfl] at hput
      exact hput
    | succ m =>
      have hml : m < S.length := by omega
      obtain ⟨y, hy⟩ : ∃ y, S[m]? = some y := ⟨_, List.getElem?_eq_getElem hml⟩
      have hCm : C[m]? = some y := by
        have e := congrArg (fun l => l[m]?) htk
        simp only [List.getElem?_take_of_lt (Nat.lt_succ_self m)] at e
        rw [e, hy]
      obtain ⟨d0, d1, d2⟩ := Bk.row3 hrc hCm
      obtain ⟨yb, hyb, _⟩ := Tx.of y.c
      rw [Tx.v_eq hyb] at d2
      have hwm : IntKind.i64.wrap (m : Int) = (m : Int) := by rw [Bk.wrap_if]; split <;> omega
      have hml2 : m ≤ S.length := by omega
      have hml3 : m < S.length + 1 := by omega
      have HC := Lib.hid (And.intro hrc (And.intro hcl (And.intro htk (And.intro hdr (And.intro hgt (And.intro hy (And.intro hCm hbk)))))))
      have HYB := Lib.hid hyb
      rcases Nat.lt_trichotomy d y.d with hlt | heq | hgt2
      · have u6 : decide (d < y.d) = true := decide_eq_true hlt
        have HQ := Lib.hid (show Bk.leH y ⟨d, xb.data.toList⟩ = false by
          rw [Bool.eq_false_iff]
          intro h9
          rcases (Bk.leH_iff _ _).1 h9 with h9 | ⟨h9, _⟩ <;> simp only at h9 <;> omega)
        clear hrc hcl htk hdr hgt hy hCm hbk hyb
        go_upto_region 3 with fail
        go_quiet (fail)
        have hrz : (wr.drewN nq).ownsRow B 61 3 (.slice (some ⟨g', 0, none⟩) (S.length + 1) cp') (S.length + 1) (Bk.hcs C) := Bk.own_of HC.out.1 fun _ _ => rfl
        have hbz : Below B W (wr.drewN nq) := below_dn hbc nq
        have hkz : Blk (wr.drewN nq) bx 61 _ := HC.out.2.2.2.2.2.2.2
        clear hbc p0 p1 p2 d0 d1 d2
        generalize wr.drewN nq = wz at hrz hbz hkz ⊢
        have p0 := hkz.cell 0
        have p1 := hkz.cell 1
        have p2 := hkz.cell 2
        simp only [List.getElem?_toArray, List.getElem?_cons_zero, List.getElem?_cons_succ] at p0 p1 p2
        obtain ⟨z, hz⟩ : ∃ z, C[m + 1]? = some z := ⟨_, List.getElem?_eq_getElem (by have := HC.out.2.1; omega)⟩
        obtain ⟨e0, e1, e2⟩ := Bk.row3 hrz hz
        have f0 := hrz.frozenAt ((m + 1) * 3)
        have f1 := hrz.frozenAt ((m + 1) * 3 + 1)
        have f2 := hrz.frozenAt ((m + 1) * 3 + 2)
        obtain ⟨d0, d1, d2⟩ := Bk.row3 hrz HC.out.2.2.2.2.2.2.1
        rw [Tx.v_eq HYB.out] at d2
        have HY := Lib.hid (And.intro hrz (And.intro hbz hkz))
        clear hrz hz hkz p0 p1 p2
        go_wp2_with fail
        go_roundg m
        case measure => omega
        case rel =>
          obtain ⟨h1, h2, h3, h4, h5, h6, h7, h8⟩ := HC.out
          refine ⟨C.set (m + 1) y, rfl, by omega, ?_, ((hbz.setCell (p := ⟨g', (m + 1) * 3, none⟩) hgW _).setCell (p := ⟨g', (m + 1) * 3 + 1, none⟩) hgW _).setCell (p := ⟨g', (m + 1) * 3 + 2, none⟩) hgW _, ?_, by rw [List.length_set, h2], ?_, ?_, ?_⟩
          · have hput := (Bk.row_put HY.out.1 (m + 1) y).1
            rw [Tx.v_eq HYB.out] at hput
            exact hput
          · rw [Tx.v_eq (b := xb) rfl]
            exact ((HY.out.2.2.far (p := ⟨g', (m + 1) * 3, none⟩) (fun e => hgne e.symm) _).far (p := ⟨g', (m + 1) * 3 + 1, none⟩) (fun e => hgne e.symm) _).far (p := ⟨g', (m + 1) * 3 + 2, none⟩) (fun e => hgne e.symm) _
          · rw [List.take_set_of_le (by omega)]
            have := congrArg (List.take m) h3
            simpa [List.take_take] using this
          · have e9 : S.drop m = y :: S.drop (m + 1) := by
              rw [List.drop_eq_getElem_cons (by omega)]
              rw [List.getElem?_eq_getElem (by omega)] at h6
              rw [Option.some.inj h6]
            rw [e9, ← h4, List.drop_eq_getElem_cons (by rw [List.length_set]; omega), List.getElem_set_self, List.drop_set_of_lt (by omega)]
          · intro a ha
            rw [List.drop_eq_getElem_cons (by omega)] at ha
            rcases List.mem_cons.1 ha with rfl | ha
            · rw [List.getElem?_eq_getElem (by omega)] at h6
              rw [Option.some.inj h6]
              exact HQ.out
            · exact h5 a ha
      · have u6 : decide (d < y.d) = false := decide_eq_false (by omega)
        have u7 : ((y.d : Int) == (d : Int)) = true := by rw [beq_iff_eq]; omega
        by_cases hle : y.c ≤ xb.data.toList
        · have hgtr := fun W => Bk.run_gtr (P := Tryz.prog) yb xb 9 false (by rw [hyb]; simpa using hle) W
          have HQ := Lib.hid (show Bk.leH y ⟨d, xb.data.toList⟩ = true from (Bk.leH_iff _ _).2 (.inr ⟨heq.symm, hle⟩))
          clear heq hle
          clear hrc hcl htk hdr hgt hy hCm hbk hyb
          go_upto_region 3 with fail
          go_quiet (fail)
          have hrz : (wr.drewN nq).ownsRow B 61 3 (.slice (some ⟨g', 0, none⟩) (S.length + 1) cp') (S.length + 1) (Bk.hcs C) := Bk.own_of HC.out.1 fun _ _ => rfl
          have hbz : Below B W (wr.drewN nq) := below_dn hbc nq
          have hkz : Blk (wr.drewN nq) bx 61 _ := HC.out.2.2.2.2.2.2.2
          clear hbc p0 p1 p2 d0 d1 d2
          generalize wr.drewN nq = wz at hrz hbz hkz ⊢
          have p0 := hkz.cell 0
          have p1 := hkz.cell 1
          have p2 := hkz.cell 2
          simp only [List.getElem?_toArray, List.getElem?_cons_zero, List.getElem?_cons_succ] at p0 p1 p2
          obtain ⟨z, hz⟩ : ∃ z, C[m + 1]? = some z := ⟨_, List.getElem?_eq_getElem (by have := HC.out.2.1; omega)⟩
          obtain ⟨e0, e1, e2⟩ := Bk.row3 hrz hz
          have f0 := hrz.frozenAt ((m + 1) * 3)
          have f1 := hrz.frozenAt ((m + 1) * 3 + 1)
          have f2 := hrz.frozenAt ((m + 1) * 3 + 2)
          have HY := Lib.hid (And.intro hrz hbz)
          clear hrz hz hkz
          go_wp2_with fail
          go_ret
          refine ⟨_, rfl, ((hbz.setCell (p := ⟨g', (m + 1) * 3, none⟩) hgW _).setCell (p := ⟨g', (m + 1) * 3 + 1, none⟩) hgW _).setCell (p := ⟨g', (m + 1) * 3 + 2, none⟩) hgW _, ?_⟩
          have hput := (Bk.row_put HY.out.1 (m + 1) ⟨d, xb.data.toList⟩).1
          rw [Bk.set_is HC.out.2.1 HC.out.2.2.1 HC.out.2.2.2.1 (by omega)] at hput
          have hsc := Br.sort_put (k := m + 1) (x := ⟨d, xb.data.toList⟩) HS.out (by omega) (by intro w9 hw9; rw [Nat.add_sub_cancel, HC.out.2.2.2.2.2.1] at hw9; exact .inr (by rw [← Option.some.inj hw9]; exact HQ.out)) HC.out.2.2.2.2.1
          rw [hsc]
          have hln : (S.take (m + 1) ++ [(⟨d, xb.data.toList⟩ : Bk.H)] ++ S.drop (m + 1)).length = S.length + 1 := by simp; omega
          rw [hln]
          rw [show Tx.v (⟨d, xb.data.toList⟩ : Bk.H).c = .string xb from Tx.v_eq (b := xb) rfl] at hput
          exact hput
        · have hgtr := fun W => Bk.run_gtr (P := Tryz.prog) yb xb 9 true (by rw [hyb]; simpa using hle) W
          have HQ := Lib.hid (show Bk.leH y ⟨d, xb.data.toList⟩ = false by
            rw [Bool.eq_false_iff]
            intro h9
            rcases (Bk.leH_iff _ _).1 h9 with h9 | ⟨_, h9⟩
            · simp only at h9; omega
            · exact hle h9)
          clear heq hle
          clear hrc hcl htk hdr hgt hy hCm hbk hyb
          go_upto_region 3 with fail
          go_quiet (fail)
          have hrz : (wr.drewN nq).ownsRow B 61 3 (.slice (some ⟨g', 0, none⟩) (S.length + 1) cp') (S.length + 1) (Bk.hcs C) := Bk.own_of HC.out.1 fun _ _ => rfl
          have hbz : Below B W (wr.drewN nq) := below_dn hbc nq
          have hkz : Blk (wr.drewN nq) bx 61 _ := HC.out.2.2.2.2.2.2.2
          clear hbc p0 p1 p2 d0 d1 d2
          generalize wr.drewN nq = wz at hrz hbz hkz ⊢
          have p0 := hkz.cell 0
          have p1 := hkz.cell 1
          have p2 := hkz.cell 2
          simp only [List.getElem?_toArray, List.getElem?_cons_zero, List.getElem?_cons_succ] at p0 p1 p2
          obtain ⟨z, hz⟩ : ∃ z, C[m + 1]? = some z := ⟨_, List.getElem?_eq_getElem (by have := HC.out.2.1; omega)⟩
          obtain ⟨e0, e1, e2⟩ := Bk.row3 hrz hz
          have f0 := hrz.frozenAt ((m + 1) * 3)
          have f1 := hrz.frozenAt ((m + 1) * 3 + 1)
          have f2 := hrz.frozenAt ((m + 1) * 3 + 2)
          obtain ⟨d0, d1, d2⟩ := Bk.row3 hrz HC.out.2.2.2.2.2.2.1
          rw [Tx.v_eq HYB.out] at d2
          have HY := Lib.hid (And.intro hrz (And.intro hbz hkz))
          clear hrz hz hkz p0 p1 p2
          go_wp2_with fail
          go_roundg m
          case measure => omega
          case rel =>
            obtain ⟨h1, h2, h3, h4, h5, h6, h7, h8⟩ := HC.out
            refine ⟨C.set (m + 1) y, rfl, by omega, ?_, ((hbz.setCell (p := ⟨g', (m + 1) * 3, none⟩) hgW _).setCell (p := ⟨g', (m + 1) * 3 + 1, none⟩) hgW _).setCell (p := ⟨g', (m + 1) * 3 + 2, none⟩) hgW _, ?_, by rw [List.length_set, h2], ?_, ?_, ?_⟩
            · have hput := (Bk.row_put HY.out.1 (m + 1) y).1
              rw [Tx.v_eq HYB.out] at hput
              exact hput
            · rw [Tx.v_eq (b := xb) rfl]
              exact ((HY.out.2.2.far (p := ⟨g', (m + 1) * 3, none⟩) (fun e => hgne e.symm) _).far (p := ⟨g', (m + 1) * 3 + 1, none⟩) (fun e => hgne e.symm) _).far (p := ⟨g', (m + 1) * 3 + 2, none⟩) (fun e => hgne e.symm) _
            · rw [List.take_set_of_le (by omega)]
              have := congrArg (List.take m) h3
              simpa [List.take_take] using this
            · have e9 : S.drop m = y :: S.drop (m + 1) := by
                rw [List.drop_eq_getElem_cons (by omega)]
                rw [List.getElem?_eq_getElem (by omega)] at h6
                rw [Option.some.inj h6]
              rw [e9, ← h4, List.drop_eq_getElem_cons (by rw [List.length_set]; omega), List.getElem_set_self, List.drop_set_of_lt (by omega)]
            · intro a ha
              rw [List.drop_eq_getElem_cons (by omega)] at ha
              rcases List.mem_cons.1 ha with rfl | ha
              · rw [List.getElem?_eq_getElem (by omega)] at h6
                rw [Option.some.inj h6]
                exact HQ.out
              · exact h5 a ha
      · have u6 : decide (d < y.d) = false := decide_eq_false (by omega)
        have u7 : ((y.d : Int) == (d : Int)) = false := by rw [beq_eq_false_iff_ne]; omega
        have HQ := Lib.hid (show Bk.leH y ⟨d, xb.data.toList⟩ = true from (Bk.leH_iff _ _).2 (.inl hgt2))
        clear hrc hcl htk hdr hgt hy hCm hbk hyb
        go_upto_region 3 with fail
        go_quiet (fail)
        have hrz : (wr.drewN nq).ownsRow B 61 3 (.slice (some ⟨g', 0, none⟩) (S.length + 1) cp') (S.length + 1) (Bk.hcs C) := Bk.own_of HC.out.1 fun _ _ => rfl
        have hbz : Below B W (wr.drewN nq) := below_dn hbc nq
        have hkz : Blk (wr.drewN nq) bx 61 _ := HC.out.2.2.2.2.2.2.2
        clear hbc p0 p1 p2 d0 d1 d2
        generalize wr.drewN nq = wz at hrz hbz hkz ⊢
        have p0 := hkz.cell 0
        have p1 := hkz.cell 1
        have p2 := hkz.cell 2
        simp only [List.getElem?_toArray, List.getElem?_cons_zero, List.getElem?_cons_succ] at p0 p1 p2
        obtain ⟨z, hz⟩ : ∃ z, C[m + 1]? = some z := ⟨_, List.getElem?_eq_getElem (by have := HC.out.2.1; omega)⟩
        obtain ⟨e0, e1, e2⟩ := Bk.row3 hrz hz
        have f0 := hrz.frozenAt ((m + 1) * 3)
        have f1 := hrz.frozenAt ((m + 1) * 3 + 1)
        have f2 := hrz.frozenAt ((m + 1) * 3 + 2)
        have HY := Lib.hid (And.intro hrz hbz)
        clear hrz hz hkz
        go_wp2_with fail
        go_ret
        refine ⟨_, rfl, ((hbz.setCell (p := ⟨g', (m + 1) * 3, none⟩) hgW _).setCell (p := ⟨g', (m + 1) * 3 + 1, none⟩) hgW _).setCell (p := ⟨g', (m + 1) * 3 + 2, none⟩) hgW _, ?_⟩
        have hput := (Bk.row_put HY.out.1 (m + 1) ⟨d, xb.data.toList⟩).1
        rw [Bk.set_is HC.out.2.1 HC.out.2.2.1 HC.out.2.2.2.1 (by omega)] at hput
        have hsc := Br.sort_put (k := m + 1) (x := ⟨d, xb.data.toList⟩) HS.out (by omega) (by intro w9 hw9; rw [Nat.add_sub_cancel, HC.out.2.2.2.2.2.1] at hw9; exact .inr (by rw [← Option.some.inj hw9]; exact HQ.out)) HC.out.2.2.2.2.1
        rw [hsc]
        have hln : (S.take (m + 1) ++ [(⟨d, xb.data.toList⟩ : Bk.H)] ++ S.drop (m + 1)).length = S.length + 1 := by simp; omega
        rw [hln]
        rw [show Tx.v (⟨d, xb.data.toList⟩ : Bk.H).c = .string xb from Tx.v_eq (b := xb) rfl] at hput
        exact hput
end Go.Proofs.YtikhahkmebkccaaGreatDoor
