/- Contract of the law's scan. Conditions: each theorem's own hypotheses. -/
import Derived.Test.YtikhahkmebkccaaDoorBkAF
import Derived.Sort.Walk0
namespace Go.Proofs.YtikhahkmebkccaaDoor
open Go.RowKit Go.Maps Go.Sort Go.Shelf
set_option linter.unusedVariables false
set_option linter.unusedSimpArgs false

/-- What scan answers. -/
def Bk.scanL (l : List (List UInt8)) (q : List UInt8) (r : Nat) : List Bk.H := Bk.sortH ((l.map (Bk.hitC q)).filter fun x => decide (x.d ≤ r))
theorem Bk.scan_skip {l : List (List UInt8)} {q c : List UInt8} {r : Nat} (h : ¬ Bk.far c q ≤ r) : Bk.scanL (l ++ [c]) q r = Bk.scanL l q r := by
  unfold Bk.scanL
  rw [List.map_append, List.filter_append]
  simp [Bk.hitC, h]
theorem Bk.scan_put {l : List (List UInt8)} {q c : List UInt8} {r k : Nat} (h : Bk.far c q ≤ r) (hk : k ≤ (Bk.scanL l q r).length) (h1 : ∀ y, (Bk.scanL l q r)[k - 1]? = some y → k = 0 ∨ Bk.leH y (Bk.hitC q c) = true) (h2 : ∀ y ∈ (Bk.scanL l q r).drop k, Bk.leH y (Bk.hitC q c) = false) :
    Bk.scanL (l ++ [c]) q r = (Bk.scanL l q r).take k ++ [Bk.hitC q c] ++ (Bk.scanL l q r).drop k := by
  have hs := Bk.sortH_sorted ((l.map (Bk.hitC q)).filter fun x => decide (x.d ≤ r))
  have hp : (Bk.scanL l q r).Perm ((l.map (Bk.hitC q)).filter fun x => decide (x.d ≤ r)) := Bk.sortH_is _
  have hs' : (Bk.scanL l q r).Pairwise fun a b => Bk.leH a b = true := hs
  have e1 : Bk.scanL (l ++ [c]) q r = Bk.sortH (((l.map (Bk.hitC q)).filter fun x => decide (x.d ≤ r)) ++ [Bk.hitC q c]) := by
    unfold Bk.scanL
    rw [List.map_append, List.filter_append]
    simp [Bk.hitC, h]
  rw [e1]
  generalize Bk.scanL l q r = S at hk h1 h2 hp hs' ⊢
  have hta : ∀ a ∈ S.take k, Bk.leH a (Bk.hitC q c) = true := by
    intro a ha
    obtain ⟨i, hi⟩ := List.getElem?_of_mem ha
    have hik : i < k ∧ i < S.length := by
      have := (List.getElem?_eq_some_iff.1 hi).1
      rw [List.length_take] at this
      omega
    rw [List.getElem?_take_of_lt hik.1] at hi
    by_cases hkl : k - 1 < S.length
    · have hy : S[k - 1]? = some S[k - 1] := List.getElem?_eq_getElem hkl
      rcases h1 _ hy with h3 | h3
      · omega
      · by_cases hie : i = k - 1
        · subst hie
          rw [hi] at hy
          rw [Option.some.inj hy]
          exact h3
        · refine Bk.leH_trans _ _ _ ?_ h3
          rw [List.getElem?_eq_getElem hik.2] at hi
          rw [← Option.some.inj hi]
          exact (List.pairwise_iff_getElem.1 hs') i (k - 1) hik.2 hkl (by omega)
    · omega
  refine Bk.sorted_one (Bk.sortH_sorted _) ?_ ((Bk.sortH_is _).trans ?_)
  · rw [List.append_assoc, List.pairwise_append]
    refine ⟨hs'.sublist (List.take_sublist _ _), ?_, ?_⟩
    · rw [List.singleton_append, List.pairwise_cons]
      refine ⟨fun y hy => ?_, hs'.sublist (List.drop_sublist _ _)⟩
      have h3 := Bk.leH_total y (Bk.hitC q c)
      rw [h2 y hy, Bool.false_or] at h3
      exact h3
    · intro a ha b hb
      rcases List.mem_append.1 hb with hb | hb
      · rw [List.mem_singleton] at hb
        subst hb
        exact hta a ha
      · have := List.take_append_drop k S
        rw [← this, List.pairwise_append] at hs'
        exact hs'.2.2 a ha b hb
  · refine (hp.symm.append_right _).trans ?_
    have : (S ++ [Bk.hitC q c]).Perm (Bk.hitC q c :: S) := List.perm_append_singleton _ _
    refine this.trans ?_
    rw [List.append_assoc, List.singleton_append]
    conv => lhs; rw [← List.take_append_drop k S]
    exact List.perm_middle.symm
theorem Bk.set_is {C S : List Bk.H} {p n : Nat} {x : Bk.H} (hl : C.length = n + 1) (h1 : C.take p = S.take p) (h2 : C.drop (p + 1) = S.drop p) (hp : p ≤ n) : C.set p x = S.take p ++ [x] ++ S.drop p := by
  rw [List.set_eq_take_append_cons_drop, if_pos (by omega), h1, h2, List.append_assoc, List.singleton_append]
theorem Bk.run_gtr {P : Program} (a b : ByteArray) (t : TypeId) (q : Bool) (hq : decide (a.data.toList ≤ b.data.toList) = !q) (W : World) : (binOp .gtr t (.string a) (.string b)).run P W = .ok (.bool q) W := by
  have h : binOp .gtr t (.string a) (.string b) = pure (.bool !(Op.bytesLess a.toList b.toList || a.toList == b.toList)) := by simp [binOp, Op.stringOp]
  rw [h]
  have e : (Op.bytesLess a.toList b.toList || a.toList == b.toList) = !q := by
    rw [← hq, Tx.beq, bytesLess_eq, ByteArray.toList_eq, ByteArray.toList_eq, Bool.eq_iff_iff]
    simp only [Bool.or_eq_true, decide_eq_true_eq]
    exact (List.le_iff_lt_or_eq).symm
  rw [e, Bool.not_not]
  rfl
/-- Between two rounds of scan's outer loop. -/
def Bk.CR (W : World) (l : List (List UInt8)) (q : List UInt8) (r : Nat) (m : Nat) (vo i : Value) (wr : World) : Prop :=
  ∃ k : Nat, m + k = l.length ∧ i = .int .i64 (k : Nat) ∧ wr.ownsRow W.heap.size 36 3 vo (Bk.scanL (l.take k) q r).length (Bk.hcs (Bk.scanL (l.take k) q r)) ∧ Below W.heap.size W wr
/-- Between two rounds of its inner loop. -/
def Bk.CI (W : World) (S : List Bk.H) (x : Bk.H) (g cap : Nat) (m : Nat) (sk : Value) (wr : World) : Prop :=
  ∃ C : List Bk.H, sk = .int .i64 (m : Nat) ∧ m ≤ S.length ∧ wr.ownsRow W.heap.size 36 3 (.slice (some ⟨g, 0, none⟩) (S.length + 1) cap) (S.length + 1) (Bk.hcs C) ∧ Below W.heap.size W wr ∧ C.length = S.length + 1 ∧ C.take m = S.take m ∧ C.drop (m + 1) = S.drop m ∧ ∀ y ∈ S.drop m, Bk.leH y x = false
set_option maxRecDepth 100000 in
set_option maxHeartbeats 8000000 in
theorem Bk.scan_any {W : World} {v : Value} {l : List (List UInt8)} (h : W.ownsRow 0 9 1 v l.length (Bk.ss l)) (hl : l.length ≤ 4398046511103) (q : ByteArray) (hq : q.size ≤ 128) (hc : ∀ c ∈ l, c.length = q.size) (r : Nat) (hr : r ≤ 1024) (hT : TabO W) :
    Calls Tryd.prog 19 #[v, .string q, .int .i64 r] W fun e W' => ∃ v', e = .returned v' ∧ Below W.heap.size W W' ∧ W'.ownsRow 0 36 3 v' (Bk.scanL l q.data.toList r).length (Bk.hcs (Bk.scanL l q.data.toList r)) := by
  obtain ⟨i0, hi, hz0, hz1, hz2⟩ := info_parts Bk.hitInfo
  obtain ⟨A, cap, rfl⟩ := Bk.row_form h
  have hst : Bk.CR W l q.data.toList r l.length (.slice none 0 0) (.int .i64 ((0 : Nat) : Int)) W := ⟨0, by omega, rfl, by
    have e : Bk.scanL (l.take 0) q.data.toList r = [] := by unfold Bk.scanL Bk.sortH; simp
    rw [e]
    exact ⟨by simp [Bk.hcs], .inl ⟨rfl, rfl⟩⟩, Below.refl _ _⟩
  have HS := Lib.hid hst
  have HH := Lib.hid (And.intro hT hc)
  clear hst hT hc
  go_enter Tryd.func19, Tryd.ntmps19
  go_upto_region 3 with fail
  go_loopg [7, 8] l.length (fun m vo i wr => Bk.CR W l q.data.toList r m vo i wr)
  case atStart => exact HS.out
  case round =>
    clear HS
    obtain ⟨k, hmk, rfl, hro, hbr⟩ := hrel
    by_cases hkn : k = l.length
    · have u1 : decide (k < l.length) = false := decide_eq_false (by omega)
      rw [hkn, List.take_length] at hro
      obtain ⟨Ao, co, rfl⟩ := Bk.row_form hro
      have HR := Lib.hid hro
      clear hro
      go_wp2_with fail
      go_ret
      exact ⟨_, rfl, hbr, Bk.own_base HR.out (Nat.zero_le _)⟩
    · have u1 : decide (k < l.length) = true := decide_eq_true (by omega)
      obtain ⟨s, hs⟩ : ∃ s, l[k]? = some s := ⟨_, List.getElem?_eq_getElem (by omega)⟩
      have h3 := Bk.own_later h hbr (Nat.le_refl _)
      obtain ⟨g0, rfl, hg3, hg4, d0⟩ := Bk.srow_at h3 hs
      obtain ⟨g0', hg0', _, _, dW⟩ := Bk.srow_at h hs
      obtain rfl : g0 = g0' := by injection hg0' with e; injection e
      have hg0l := World.block_lt_of_cell? W _ dW
      obtain ⟨xb, hxb, _⟩ := Tx.of s
      rw [Tx.v_eq hxb] at d0 dW
      have hkl : k < l.length := by omega
      have hsz : xb.size = q.size := by
        have h1 := HH.out.2 s (List.mem_of_getElem? hs)
        rw [← hxb] at h1
        rw [Tx.size, h1]
      have hdi := distance_any xb q wr (by omega) (by omega) (HH.out.1.below hbr (Nat.le_refl _))
      rw [if_pos hsz, hxb] at hdi
      have hfl : Bk.far s q.data.toList ≤ 1024 := by
        have := Bk.far_le s q.data.toList
        have : s.length = q.size := HH.out.2 s (List.mem_of_getElem? hs)
        omega
      obtain ⟨S, hS⟩ : ∃ S, Bk.scanL (l.take k) q.data.toList r = S := ⟨_, rfl⟩
      have htk : l.take (k + 1) = l.take k ++ [s] := by rw [List.take_add_one, hs]; rfl
      have hSl : S.length ≤ l.length := by
        rw [← hS]
        unfold Bk.scanL Bk.sortH
        rw [List.length_mergeSort]
        exact Nat.le_trans (List.length_filter_le _ _) (by rw [List.length_map, List.length_take]; omega)
      rw [hS] at hro
      obtain ⟨Ao, co, rfl⟩ := Bk.row_form hro
      obtain ⟨d, hd⟩ : ∃ d, Bk.far s q.data.toList = d := ⟨_, rfl⟩
      rw [hd] at hdi hfl
      obtain ⟨og, hog⟩ : ∃ og, og = gk := ⟨_, rfl⟩
      rw [← hog] at hmk
      have HX := Lib.hid (And.intro htk (And.intro hmk (And.intro hS (And.intro hd (And.intro hs (And.intro hxb hog))))))
      clear hog
      clear htk hmk hS hd hs hxb hkn
      go_upto_region 6 with (go_at_call 36; refine hdi.mono ?_; clear hdi; rintro e w2 ⟨rfl, hdn⟩)
      have d0 : w2.cell? ⟨g0, k, none⟩ = some (.string xb) := by obtain ⟨n, rfl⟩ := hdn; exact d0
      have hro2 : w2.ownsRow W.heap.size 36 3 (.slice Ao S.length co) S.length (Bk.hcs S) := by obtain ⟨n, rfl⟩ := hdn; exact Bk.own_of hro fun _ _ => rfl
      have hbr2 : Below W.heap.size W w2 := by obtain ⟨n, rfl⟩ := hdn; exact below_dn hbr n
      have h4 : w2.ownsRow 0 9 1 (.slice (some ⟨g0, 0, none⟩) l.length cap) l.length (Bk.ss l) := Bk.own_later h hbr2 (Nat.le_refl _)
      clear hro hbr hdn h3
      by_cases hdr0 : d ≤ r
      · have u2 : decide (r < d) = false := decide_eq_false (by omega)
        go_upto_region 9 with (at_builtin; refine wpList_append_own_at _ rfl _ _ 32 rfl W.heap.size 36 i0 (.agg #[.int .i64 0, .int .i64 0, .string ⟨#[]⟩]) 3 32 Tryd.underlying32 hi hz0 hz1 hz2 rfl (by decide) (.slice Ao S.length co) S.length _ rfl (hro2.alloc _) ⟨w2.heap.size, 0, none⟩ 1 1 [.int .i64 0, .int .i64 0, .string ⟨#[]⟩] rfl rfl (Bk.cells3 _ _ _ _ _) (by simp [Value.oneCell']) (by unfold maxLen; omega) (by omega) (by have := hbr2.size; simp; omega) ?_; intro v' w4 hown' hg4' hnil hat; obtain ⟨A', cp', rfl⟩ := Bk.row_form hown')
        have hbr4 : Below W.heap.size W w4 := (hbr2.alloc hbr2.size (.cells #[.int .i64 0, .int .i64 0, .string ⟨#[]⟩] 36)).grown hg4' (by have := hbr2.size; simp; omega) fun j hj => (hro2.lt j hj).1
        have hz1' : (S ++ [(⟨0, []⟩ : Bk.H)]).length = S.length + 1 := by simp
        have hrow4 : w4.ownsRow W.heap.size 36 3 (.slice A' (S.length + 1) cp') (S.length + 1) (Bk.hcs (S ++ [(⟨0, []⟩ : Bk.H)])) := by
          have e2 : Bk.hcs (S ++ [(⟨0, []⟩ : Bk.H)]) = Bk.hcs S ++ [.int .i64 0, .int .i64 0, .string ⟨#[]⟩] := by
            unfold Bk.hcs
            rw [List.flatMap_append, List.flatMap_singleton]; rfl
          rw [e2]; exact hown'
        obtain ⟨g', rfl, hgW, _, hg5, hg6⟩ := Bk.row_at (C := S ++ [(⟨0, []⟩ : Bk.H)]) (j := S.length) (x := ⟨0, []⟩) (by rw [hz1']; exact hrow4) (by simp)
        rw [hz1'] at hg5
        have hst2 : Bk.CI W S ⟨d, s⟩ g' cp' S.length (.int .i64 (S.length : Nat)) w4 := ⟨S ++ [(⟨0, []⟩ : Bk.H)], rfl, Nat.le_refl _, hrow4, hbr4, hz1', by simp, by simp, fun y hy => by simp at hy⟩
        have HS2 := Lib.hid hst2
        clear hst2 hrow4 hown' hg4' hnil hat hro2 hz1' h4 d0
        go_loopg [11] S.length (fun m sk wr => Bk.CI W S ⟨d, s⟩ g' cp' m sk wr)
        case atStart => exact HS2.out
        case round =>
          clear HS2 hbr4 hbr2
          obtain ⟨C, rfl, hm, hrc, hbc, hcl, htk, hdr, hgt⟩ := hrel
          cases gk with
          | zero =>
            have HC := Lib.hid (And.intro hrc (And.intro hcl (And.intro htk (And.intro hdr (And.intro hgt True.intro)))))
            clear hrc hcl htk hdr hgt
            go_upto_region 9 with fail
            go_quiet (fail)
            have hrz : (wr.drewN nq).ownsRow W.heap.size 36 3 (.slice (some ⟨g', 0, none⟩) (S.length + 1) cp') (S.length + 1) (Bk.hcs C) := Bk.own_of HC.out.1 fun _ _ => rfl
            have hbz : Below W.heap.size W (wr.drewN nq) := below_dn hbc nq
            clear hbc
            try clear d0 d1 d2
            generalize wr.drewN nq = wz at hrz hbz ⊢
            have dX := (hbz.cell (p := ⟨g0, k, none⟩) hg0l).trans dW
            obtain ⟨z, hz⟩ : ∃ z, C[0]? = some z := ⟨_, List.getElem?_eq_getElem (by have := HC.out.2.1; omega)⟩
            obtain ⟨e0, e1, e2⟩ := Bk.row3 hrz hz
            have f0 := hrz.frozenAt ((0) * 3)
            have f1 := hrz.frozenAt ((0) * 3 + 1)
            have f2 := hrz.frozenAt ((0) * 3 + 2)
            simp only [Nat.zero_mul, Nat.zero_add] at e0 e1 e2 f0 f1 f2
            have HZ := Lib.hid (And.intro hrz hbz)
            clear hrz hz
            go_wp2_with fail
            go_roundg (og - 1)
            case measure => have := HX.out.2.1; have := HX.out.2.2.2.2.2.2; omega
            case rel =>
              refine ⟨k + 1, by have := HX.out.2.1; have := HX.out.2.2.2.2.2.2; omega, congrArg (Value.int .i64) (by omega), ?_, ?_⟩
              · have hput := (Bk.row_put HZ.out.1 (0) ⟨d, s⟩).1
                rw [Bk.set_is HC.out.2.1 HC.out.2.2.1 HC.out.2.2.2.1 (by omega)] at hput
                have hsc := Bk.scan_put (l := l.take k) (q := q.data.toList) (c := s) (r := r) (k := 0) (by rw [HX.out.2.2.2.1]; exact hdr0) (by rw [HX.out.2.2.1]; omega) (by rw [HX.out.2.2.1, Bk.hitC, HX.out.2.2.2.1]; exact fun w9 hw9 => .inl rfl) (by rw [HX.out.2.2.1, Bk.hitC, HX.out.2.2.2.1]; exact HC.out.2.2.2.2.1)
                rw [HX.out.2.2.1, Bk.hitC, HX.out.2.2.2.1] at hsc
                rw [HX.out.1, hsc]
                have hln : (S.take (0) ++ [(⟨d, s⟩ : Bk.H)] ++ S.drop (0)).length = S.length + 1 := by simp; try omega
                rw [hln]
                unfold Tx.v at hput
                rw [← Tx.v_eq HX.out.2.2.2.2.2.1] at *
                exact hput
              · exact ((hbz.setCell (p := ⟨g', (0) * 3, none⟩) hgW _).setCell (p := ⟨g', (0) * 3 + 1, none⟩) hgW _).setCell (p := ⟨g', (0) * 3 + 2, none⟩) hgW _
          | succ m =>
            have hml : m < S.length := by omega
            obtain ⟨y, hy⟩ : ∃ y, S[m]? = some y := ⟨_, List.getElem?_eq_getElem hml⟩
            have hCm : C[m]? = some y := by
              have e := congrArg (fun l => l[m]?) htk
              simp only [List.getElem?_take_of_lt (Nat.lt_succ_self m)] at e
              rw [e, hy]
            obtain ⟨d0, d1, d2⟩ := Bk.row3 hrc hCm
            obtain ⟨yb, hyb, _⟩ := Tx.of y.c
            rw [Tx.v_eq hyb] at d2
            have hwm : IntKind.i64.wrap (m : Int) = (m : Int) := by rw [Bk.wrap_if]; split <;> omega
            have hml2 : m ≤ S.length := by omega
            have hml3 : m < S.length + 1 := by omega
            have dX := (hbc.cell (p := ⟨g0, k, none⟩) hg0l).trans dW
            rcases Nat.lt_trichotomy d y.d with hlt | heq | hgt2
            · have u6 : decide (d < y.d) = true := decide_eq_true hlt
              have HC := Lib.hid (And.intro hrc (And.intro hcl (And.intro htk (And.intro hdr (And.intro hgt (And.intro hy hCm))))))
              have hyx : Bk.leH y ⟨d, s⟩ = false := by
                rw [Bool.eq_false_iff]
                intro h9
                rcases (Bk.leH_iff _ _).1 h9 with h9 | ⟨h9, _⟩ <;> simp only at h9 <;> omega
              have HY := Lib.hid hyx
              have HYB := Lib.hid hyb
              clear hrc hcl htk hdr hgt hy hCm hyx hyb
              go_upto_region 9 with fail
              go_quiet (fail)
              have hrz : (wr.drewN nq).ownsRow W.heap.size 36 3 (.slice (some ⟨g', 0, none⟩) (S.length + 1) cp') (S.length + 1) (Bk.hcs C) := Bk.own_of HC.out.1 fun _ _ => rfl
              have hbz : Below W.heap.size W (wr.drewN nq) := below_dn hbc nq
              clear hbc
              try clear d0 d1 d2
              generalize wr.drewN nq = wz at hrz hbz ⊢
              have dX := (hbz.cell (p := ⟨g0, k, none⟩) hg0l).trans dW
              obtain ⟨z, hz⟩ : ∃ z, C[m + 1]? = some z := ⟨_, List.getElem?_eq_getElem (by have := HC.out.2.1; omega)⟩
              obtain ⟨e0, e1, e2⟩ := Bk.row3 hrz hz
              have f0 := hrz.frozenAt ((m + 1) * 3)
              have f1 := hrz.frozenAt ((m + 1) * 3 + 1)
              have f2 := hrz.frozenAt ((m + 1) * 3 + 2)
              obtain ⟨d0, d1, d2⟩ := Bk.row3 hrz HC.out.2.2.2.2.2.2
              rw [Tx.v_eq HYB.out] at d2
              have HZ := Lib.hid (And.intro hrz hbz)
              clear hrz hz
              go_wp2_with fail
              go_roundg m
              case measure => omega
              case rel =>
                obtain ⟨h1, h2, h3, h4, h5, h6, h7⟩ := HC.out
                refine ⟨C.set (m + 1) y, rfl, by omega, ?_, ?_, by rw [List.length_set, h2], ?_, ?_, ?_⟩
                · have hput := (Bk.row_put HZ.out.1 (m + 1) y).1
                  rw [Tx.v_eq HYB.out] at hput
                  exact hput
                · exact ((hbz.setCell (p := ⟨g', (m + 1) * 3, none⟩) hgW _).setCell (p := ⟨g', (m + 1) * 3 + 1, none⟩) hgW _).setCell (p := ⟨g', (m + 1) * 3 + 2, none⟩) hgW _
                · rw [List.take_set_of_le (by omega)]
                  have := congrArg (List.take m) h3
                  simpa [List.take_take] using this
                · have e9 : S.drop m = y :: S.drop (m + 1) := by
                    rw [List.drop_eq_getElem_cons (by omega)]
                    rw [List.getElem?_eq_getElem (by omega)] at h6
                    rw [Option.some.inj h6]
                  rw [e9, ← h4, List.drop_eq_getElem_cons (by rw [List.length_set]; omega), List.getElem_set_self, List.drop_set_of_lt (by omega)]
                · intro a ha
                  rw [List.drop_eq_getElem_cons (by omega)] at ha
                  rcases List.mem_cons.1 ha with rfl | ha
                  · rw [List.getElem?_eq_getElem (by omega)] at h6
                    rw [Option.some.inj h6]
                    exact HY.out
                  · exact h5 a ha
            · have u6 : decide (d < y.d) = false := decide_eq_false (by omega)
              have u7 : ((y.d : Int) == (d : Int)) = true := by rw [beq_iff_eq]; omega
              have HC := Lib.hid (And.intro hrc (And.intro hcl (And.intro htk (And.intro hdr (And.intro hgt (And.intro hy hCm))))))
              by_cases hle : y.c ≤ s
              · have hgtr := fun W => Bk.run_gtr (P := Tryd.prog) yb xb 9 false (by rw [hyb, HX.out.2.2.2.2.2.1]; simpa using hle) W
                have hyx : Bk.leH y ⟨d, s⟩ = true := (Bk.leH_iff _ _).2 (.inr ⟨heq.symm, hle⟩)
                have HY := Lib.hid hyx
                clear hrc hcl htk hdr hgt hy hCm heq hyx hle hyb
                go_upto_region 9 with fail
                go_quiet (fail)
                have hrz : (wr.drewN nq).ownsRow W.heap.size 36 3 (.slice (some ⟨g', 0, none⟩) (S.length + 1) cp') (S.length + 1) (Bk.hcs C) := Bk.own_of HC.out.1 fun _ _ => rfl
                have hbz : Below W.heap.size W (wr.drewN nq) := below_dn hbc nq
                clear hbc d0 d1 d2
                generalize wr.drewN nq = wz at hrz hbz ⊢
                have dX := (hbz.cell (p := ⟨g0, k, none⟩) hg0l).trans dW
                obtain ⟨z, hz⟩ : ∃ z, C[m + 1]? = some z := ⟨_, List.getElem?_eq_getElem (by have := HC.out.2.1; omega)⟩
                obtain ⟨e0, e1, e2⟩ := Bk.row3 hrz hz
                have f0 := hrz.frozenAt ((m + 1) * 3)
                have f1 := hrz.frozenAt ((m + 1) * 3 + 1)
                have f2 := hrz.frozenAt ((m + 1) * 3 + 2)
                have HZ := Lib.hid (And.intro hrz hbz)
                clear hrz hz
                go_wp2_with fail
                go_roundg (og - 1)
                case measure => have := HX.out.2.1; have := HX.out.2.2.2.2.2.2; omega
                case rel =>
                  refine ⟨k + 1, by have := HX.out.2.1; have := HX.out.2.2.2.2.2.2; omega, congrArg (Value.int .i64) (by omega), ?_, ?_⟩
                  · have hput := (Bk.row_put HZ.out.1 (m + 1) ⟨d, s⟩).1
                    rw [Bk.set_is HC.out.2.1 HC.out.2.2.1 HC.out.2.2.2.1 (by omega)] at hput
                    have hsc := Bk.scan_put (l := l.take k) (q := q.data.toList) (c := s) (r := r) (k := m + 1) (by rw [HX.out.2.2.2.1]; exact hdr0) (by rw [HX.out.2.2.1]; omega) (by rw [HX.out.2.2.1, Bk.hitC, HX.out.2.2.2.1]; intro w9 hw9; rw [Nat.add_sub_cancel, HC.out.2.2.2.2.2.1] at hw9; exact .inr (by rw [← Option.some.inj hw9]; exact HY.out)) (by rw [HX.out.2.2.1, Bk.hitC, HX.out.2.2.2.1]; exact HC.out.2.2.2.2.1)
                    rw [HX.out.2.2.1, Bk.hitC, HX.out.2.2.2.1] at hsc
                    rw [HX.out.1, hsc]
                    have hln : (S.take (m + 1) ++ [(⟨d, s⟩ : Bk.H)] ++ S.drop (m + 1)).length = S.length + 1 := by simp; omega
                    rw [hln]
                    unfold Tx.v at hput
                    rw [← Tx.v_eq HX.out.2.2.2.2.2.1] at *
                    exact hput
                  · exact ((hbz.setCell (p := ⟨g', (m + 1) * 3, none⟩) hgW _).setCell (p := ⟨g', (m + 1) * 3 + 1, none⟩) hgW _).setCell (p := ⟨g', (m + 1) * 3 + 2, none⟩) hgW _
              · have hgtr := fun W => Bk.run_gtr (P := Tryd.prog) yb xb 9 true (by rw [hyb, HX.out.2.2.2.2.2.1]; simpa using hle) W
                have hyx : Bk.leH y ⟨d, s⟩ = false := by
                  rw [Bool.eq_false_iff]
                  intro h9
                  rcases (Bk.leH_iff _ _).1 h9 with h9 | ⟨_, h9⟩
                  · simp only at h9; omega
                  · exact hle h9
                have HY := Lib.hid hyx
                have HYB := Lib.hid hyb
                clear hrc hcl htk hdr hgt hy hCm heq hyx hle hyb
                go_upto_region 9 with fail
                go_quiet (fail)
                have hrz : (wr.drewN nq).ownsRow W.heap.size 36 3 (.slice (some ⟨g', 0, none⟩) (S.length + 1) cp') (S.length + 1) (Bk.hcs C) := Bk.own_of HC.out.1 fun _ _ => rfl
                have hbz : Below W.heap.size W (wr.drewN nq) := below_dn hbc nq
                clear hbc
                try clear d0 d1 d2
                generalize wr.drewN nq = wz at hrz hbz ⊢
                have dX := (hbz.cell (p := ⟨g0, k, none⟩) hg0l).trans dW
                obtain ⟨z, hz⟩ : ∃ z, C[m + 1]? = some z := ⟨_, List.getElem?_eq_getElem (by have := HC.out.2.1; omega)⟩
                obtain ⟨e0, e1, e2⟩ := Bk.row3 hrz hz
                have f0 := hrz.frozenAt ((m + 1) * 3)
                have f1 := hrz.frozenAt ((m + 1) * 3 + 1)
                have f2 := hrz.frozenAt ((m + 1) * 3 + 2)
                obtain ⟨d0, d1, d2⟩ := Bk.row3 hrz HC.out.2.2.2.2.2.2
                rw [Tx.v_eq HYB.out] at d2
                have HZ := Lib.hid (And.intro hrz hbz)
                clear hrz hz
                go_wp2_with fail
                go_roundg m
                case measure => omega
                case rel =>
                  obtain ⟨h1, h2, h3, h4, h5, h6, h7⟩ := HC.out
                  refine ⟨C.set (m + 1) y, rfl, by omega, ?_, ?_, by rw [List.length_set, h2], ?_, ?_, ?_⟩
                  · have hput := (Bk.row_put HZ.out.1 (m + 1) y).1
                    rw [Tx.v_eq HYB.out] at hput
                    exact hput
                  · exact ((hbz.setCell (p := ⟨g', (m + 1) * 3, none⟩) hgW _).setCell (p := ⟨g', (m + 1) * 3 + 1, none⟩) hgW _).setCell (p := ⟨g', (m + 1) * 3 + 2, none⟩) hgW _
                  · rw [List.take_set_of_le (by omega)]
                    have := congrArg (List.take m) h3
                    simpa [List.take_take] using this
                  · have e9 : S.drop m = y :: S.drop (m + 1) := by
                      rw [List.drop_eq_getElem_cons (by omega)]
                      rw [List.getElem?_eq_getElem (by omega)] at h6
                      rw [Option.some.inj h6]
                    rw [e9, ← h4, List.drop_eq_getElem_cons (by rw [List.length_set]; omega), List.getElem_set_self, List.drop_set_of_lt (by omega)]
                  · intro a ha
                    rw [List.drop_eq_getElem_cons (by omega)] at ha
                    rcases List.mem_cons.1 ha with rfl | ha
                    · rw [List.getElem?_eq_getElem (by omega)] at h6
                      rw [Option.some.inj h6]
                      exact HY.out
                    · exact h5 a ha
            · have u6 : decide (d < y.d) = false := decide_eq_false (by omega)
              have u7 : ((y.d : Int) == (d : Int)) = false := by rw [beq_eq_false_iff_ne]; omega
              have HC := Lib.hid (And.intro hrc (And.intro hcl (And.intro htk (And.intro hdr (And.intro hgt (And.intro hy hCm))))))
              have hyx : Bk.leH y ⟨d, s⟩ = true := (Bk.leH_iff _ _).2 (.inl hgt2)
              have HY := Lib.hid hyx
              clear hrc hcl htk hdr hgt hy hCm hyx hyb
              go_upto_region 9 with fail
              go_quiet (fail)
              have hrz : (wr.drewN nq).ownsRow W.heap.size 36 3 (.slice (some ⟨g', 0, none⟩) (S.length + 1) cp') (S.length + 1) (Bk.hcs C) := Bk.own_of HC.out.1 fun _ _ => rfl
              have hbz : Below W.heap.size W (wr.drewN nq) := below_dn hbc nq
              clear hbc
              try clear d0 d1 d2
              generalize wr.drewN nq = wz at hrz hbz ⊢
              have dX := (hbz.cell (p := ⟨g0, k, none⟩) hg0l).trans dW
              obtain ⟨z, hz⟩ : ∃ z, C[m + 1]? = some z := ⟨_, List.getElem?_eq_getElem (by have := HC.out.2.1; omega)⟩
              obtain ⟨e0, e1, e2⟩ := Bk.row3 hrz hz
              have f0 := hrz.frozenAt ((m + 1) * 3)
              have f1 := hrz.frozenAt ((m + 1) * 3 + 1)
              have f2 := hrz.frozenAt ((m + 1) * 3 + 2)
              have HZ := Lib.hid (And.intro hrz hbz)
              clear hrz hz
              go_wp2_with fail
              go_roundg (og - 1)
              case measure => have := HX.out.2.1; have := HX.out.2.2.2.2.2.2; omega
              case rel =>
                refine ⟨k + 1, by have := HX.out.2.1; have := HX.out.2.2.2.2.2.2; omega, congrArg (Value.int .i64) (by omega), ?_, ?_⟩
                · have hput := (Bk.row_put HZ.out.1 (m + 1) ⟨d, s⟩).1
                  rw [Bk.set_is HC.out.2.1 HC.out.2.2.1 HC.out.2.2.2.1 (by omega)] at hput
                  have hsc := Bk.scan_put (l := l.take k) (q := q.data.toList) (c := s) (r := r) (k := m + 1) (by rw [HX.out.2.2.2.1]; exact hdr0) (by rw [HX.out.2.2.1]; omega) (by rw [HX.out.2.2.1, Bk.hitC, HX.out.2.2.2.1]; intro w9 hw9; rw [Nat.add_sub_cancel, HC.out.2.2.2.2.2.1] at hw9; exact .inr (by rw [← Option.some.inj hw9]; exact HY.out)) (by rw [HX.out.2.2.1, Bk.hitC, HX.out.2.2.2.1]; exact HC.out.2.2.2.2.1)
                  rw [HX.out.2.2.1, Bk.hitC, HX.out.2.2.2.1] at hsc
                  rw [HX.out.1, hsc]
                  have hln : (S.take (m + 1) ++ [(⟨d, s⟩ : Bk.H)] ++ S.drop (m + 1)).length = S.length + 1 := by simp; try omega
                  rw [hln]
                  unfold Tx.v at hput
                  rw [← Tx.v_eq HX.out.2.2.2.2.2.1] at *
                  exact hput
                · exact ((hbz.setCell (p := ⟨g', (m + 1) * 3, none⟩) hgW _).setCell (p := ⟨g', (m + 1) * 3 + 1, none⟩) hgW _).setCell (p := ⟨g', (m + 1) * 3 + 2, none⟩) hgW _
      · have u2 : decide (r < d) = true := decide_eq_true (by omega)
        go_wp2_with fail
        go_roundg (gk - 1)
        case measure => have := HX.out.2.1; have := HX.out.2.2.2.2.2.2; omega
        case rel =>
          refine ⟨k + 1, by have := HX.out.2.1; have := HX.out.2.2.2.2.2.2; omega, congrArg (Value.int .i64) (by omega), ?_, hbr2⟩
          rw [HX.out.1, Bk.scan_skip (by rw [HX.out.2.2.2.1]; omega), HX.out.2.2.1]
          exact hro2
end Go.Proofs.YtikhahkmebkccaaDoor
