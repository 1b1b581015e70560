/- The document's tree: the live codes, rising. Conditions: each theorem's own hypotheses. -/
import Derived.Test.YtikhahkmebkccaaGreatDoorBrC
import Derived.Test.YtikhahkmebkccaaGreatDoorBkAG
namespace Go.Proofs.YtikhahkmebkccaaGreatDoor
open Go.RowKit Go.Maps Go.Sort Go.Shelf
set_option linter.unusedVariables false
set_option linter.unusedSimpArgs false

/-- One more in a sorted list. -/
theorem Br.ins_put {α : Type} {le : α → α → Bool} (tr : ∀ a b c, le a b = true → le b c = true → le a c = true) (tot : ∀ a b, (le a b || le b a) = true) (an : ∀ a b, le a b = true → le b a = true → a = b) {l : List α} {x : α} {k : Nat}
    (hk : k ≤ (l.mergeSort le).length) (h1 : ∀ y, (l.mergeSort le)[k - 1]? = some y → k = 0 ∨ le y x = true) (h2 : ∀ y ∈ (l.mergeSort le).drop k, le y x = false) :
    (l ++ [x]).mergeSort le = (l.mergeSort le).take k ++ [x] ++ (l.mergeSort le).drop k := by
  have hs := List.pairwise_mergeSort tr tot l
  have hp : (l.mergeSort le).Perm l := List.mergeSort_perm _ _
  have hs1 := List.pairwise_mergeSort tr tot (l ++ [x])
  have hp1 : ((l ++ [x]).mergeSort le).Perm (l ++ [x]) := List.mergeSort_perm _ _
  generalize (l ++ [x]).mergeSort le = S1 at *
  generalize l.mergeSort le = S at *
  have hta : ∀ a ∈ S.take k, le a x = true := by
    intro a ha
    obtain ⟨i, hi⟩ := List.getElem?_of_mem ha
    have hik : i < k ∧ i < S.length := by
      have := (List.getElem?_eq_some_iff.1 hi).1
      rw [List.length_take] at this
      omega
    rw [List.getElem?_take_of_lt hik.1] at hi
    by_cases hkl : k - 1 < S.length
    · have hy : S[k - 1]? = some S[k - 1] := List.getElem?_eq_getElem hkl
      rcases h1 _ hy with h3 | h3
      · omega
      · by_cases hie : i = k - 1
        · subst hie
          rw [hi] at hy
          rw [Option.some.inj hy]
          exact h3
        · refine tr _ _ _ ?_ h3
          rw [List.getElem?_eq_getElem hik.2] at hi
          rw [← Option.some.inj hi]
          exact (List.pairwise_iff_getElem.1 hs) i (k - 1) hik.2 hkl (by omega)
    · omega
  refine List.Perm.eq_of_pairwise (le := fun a b => le a b = true) (fun a b _ _ k1 k2 => an a b k1 k2) hs1 ?_ (hp1.trans ?_)
  · rw [List.append_assoc, List.pairwise_append]
    refine ⟨hs.sublist (List.take_sublist _ _), ?_, ?_⟩
    · rw [List.singleton_append, List.pairwise_cons]
      refine ⟨fun y hy => ?_, hs.sublist (List.drop_sublist _ _)⟩
      have h3 := tot y x
      rw [h2 y hy, Bool.false_or] at h3
      exact h3
    · intro a ha b hb
      rcases List.mem_append.1 hb with hb | hb
      · rw [List.mem_singleton] at hb
        subst hb
        exact hta a ha
      · have := List.take_append_drop k S
        rw [← this, List.pairwise_append] at hs
        exact hs.2.2 a ha b hb
  · refine (hp.symm.append_right _).trans ?_
    have : (S ++ [x]).Perm (x :: S) := List.perm_append_singleton _ _
    refine this.trans ?_
    rw [List.append_assoc, List.singleton_append]
    conv => lhs; rw [← List.take_append_drop k S]
    exact List.perm_middle.symm
theorem Br.leB_iff (a b : List UInt8) : leB a b = true ↔ a ≤ b := by unfold leB; simp
theorem Br.leB_trans (a b c : List UInt8) (h1 : leB a b = true) (h2 : leB b c = true) : leB a c = true := by
  rw [Br.leB_iff] at *; exact List.le_trans h1 h2
theorem Br.leB_total (a b : List UInt8) : (leB a b || leB b a) = true := by
  rw [Bool.or_eq_true, Br.leB_iff, Br.leB_iff]; exact List.le_total a b
theorem Br.leB_anti (a b : List UInt8) (h1 : leB a b = true) (h2 : leB b a = true) : a = b := by
  rw [Br.leB_iff] at *; exact List.le_antisymm h1 h2
theorem Br.ris_skip {l : List Bk.N} {k : Nat} {n : Bk.N} (h : l[k]? = some n) (hn : n.live = false) : Bk.rising (l.take (k + 1)) = Bk.rising (l.take k) := by
  unfold Bk.rising
  rw [List.take_add_one, h, List.filter_append]
  simp [hn]
theorem Br.ris_put {l : List Bk.N} {k p : Nat} {n : Bk.N} (h : l[k]? = some n) (hn : n.live = true) (hk : p ≤ (Bk.rising (l.take k)).length) (h1 : ∀ y, (Bk.rising (l.take k))[p - 1]? = some y → p = 0 ∨ leB y n.code = true) (h2 : ∀ y ∈ (Bk.rising (l.take k)).drop p, leB y n.code = false) :
    Bk.rising (l.take (k + 1)) = (Bk.rising (l.take k)).take p ++ [n.code] ++ (Bk.rising (l.take k)).drop p := by
  have e : ((l.take (k + 1)).filter fun n => n.live).map (fun n => n.code) = ((l.take k).filter fun n => n.live).map (fun n => n.code) ++ [n.code] := by
    rw [List.take_add_one, h, List.filter_append]
    simp [hn]
  unfold Bk.rising at *
  rw [e]
  exact Br.ins_put Br.leB_trans Br.leB_total Br.leB_anti hk h1 h2
theorem Br.ris_len (l : List Bk.N) (k : Nat) : (Bk.rising (l.take k)).length ≤ k := by
  rw [(Bk.rising_perm _).length_eq, List.length_map]
  exact Nat.le_trans (List.length_filter_le _ _) (by rw [List.length_take]; omega)
theorem Br.set_is {α : Type} {C S : List α} {p n : Nat} {x : α} (hl : C.length = n + 1) (h1 : C.take p = S.take p) (h2 : C.drop (p + 1) = S.drop p) (hp : p ≤ n) : C.set p x = S.take p ++ [x] ++ S.drop p := by
  rw [List.set_eq_take_append_cons_drop, if_pos (by omega), h1, h2, List.append_assoc, List.singleton_append]
theorem Br.sput {w : World} {B g n cap : Nat} {C : List (List UInt8)} (h : w.ownsRow B 9 1 (.slice (some ⟨g, 0, none⟩) n cap) n (Bk.ss C)) (j : Nat) (x : List UInt8) :
    (w.setCell ⟨g, j, none⟩ (Tx.v x)).ownsRow B 9 1 (.slice (some ⟨g, 0, none⟩) n cap) n (Bk.ss (C.set j x)) := by
  have := (h.stored j (Tx.v x)).1
  unfold Bk.ss at *
  rw [List.map_set]
  exact this
theorem Br.scell {w : World} {B g n cap : Nat} {C : List (List UInt8)} (h : w.ownsRow B 9 1 (.slice (some ⟨g, 0, none⟩) n cap) n (Bk.ss C)) {j : Nat} {x : List UInt8} (hj : C[j]? = some x) : w.cell? ⟨g, j, none⟩ = some (Tx.v x) := by
  have := h.cells (g := g) rfl j (Tx.v x) (by unfold Bk.ss; rw [List.getElem?_map, hj]; rfl)
  rwa [Bk.addr_add] at this
/-- Between two rounds of rising's outer loop. -/
def Br.RR (W : World) (l : List Bk.N) (m : Nat) (vo i : Value) (wr : World) : Prop :=
  ∃ k : Nat, m + k = l.length ∧ i = .int .i64 (k : Nat) ∧ wr.ownsRow W.heap.size 9 1 vo (Bk.rising (l.take k)).length (Bk.ss (Bk.rising (l.take k))) ∧ Below W.heap.size W wr
/-- Between two rounds of its inner loop. -/
def Br.RI (W : World) (S : List (List UInt8)) (x : List UInt8) (g cap : Nat) (m : Nat) (sk : Value) (wr : World) : Prop :=
  ∃ C : List (List UInt8), sk = .int .i64 (m : Nat) ∧ m ≤ S.length ∧ wr.ownsRow W.heap.size 9 1 (.slice (some ⟨g, 0, none⟩) (S.length + 1) cap) (S.length + 1) (Bk.ss C) ∧ Below W.heap.size W wr ∧ C.length = S.length + 1 ∧ C.take m = S.take m ∧ C.drop (m + 1) = S.drop m ∧ ∀ y ∈ S.drop m, leB y x = false
set_option maxRecDepth 100000 in
set_option maxHeartbeats 8000000 in
theorem Br.rising_any {W : World} {t : Nat} {T : Bk.T} {F : Nat → Prop} (h : Br.At W t T F) (hl : T.l.length ≤ 4398046511103) :
    Calls Tryz.prog 44 #[.pointer (some ⟨t, 0, none⟩)] W fun e W' => ∃ v', e = .returned v' ∧ Below W.heap.size W W' ∧ W'.ownsRow W.heap.size 9 1 v' (Bk.rising T.l).length (Bk.ss (Bk.rising T.l)) := by
  obtain ⟨i0, hi, hz0, hz1, hz2⟩ := info_parts Bk.strInfo
  obtain ⟨A, cap, hS, rfl⟩ := h
  have c1 := hS.t1
  have htl := hS.tree.lt
  have HS := Lib.hid (show Br.RR W T.l T.l.length (.slice none 0 0) (.int .i64 ((0 : Nat) : Int)) W from ⟨0, by omega, rfl, by
    have e : Bk.rising (T.l.take 0) = [] := by unfold Bk.rising; simp
    rw [e]
    exact ⟨by simp [Bk.ss], .inl ⟨rfl, rfl⟩⟩, Below.refl _ _⟩)
  go_enter Tryz.func44, Tryz.ntmps44
  go_upto_region 3 with fail
  go_loopg [3, 4] T.l.length (fun m vo i wr => Br.RR W T.l m vo i wr)
  case atStart => exact HS.out
  case round =>
    clear HS
    obtain ⟨k, hmk, rfl, hro, hbr⟩ := hrel
    have e1 := (hbr.cell (p := ⟨t, 1, none⟩) htl).trans c1
    by_cases hkn : k = T.l.length
    · have u1 : decide (k < T.l.length) = false := decide_eq_false (by omega)
      rw [hkn, List.take_length] at hro
      obtain ⟨Ao, co, rfl⟩ := Bk.row_form hro
      have HR := Lib.hid hro
      clear hro
      go_wp2_with fail
      go_ret
      exact ⟨_, rfl, hbr, HR.out⟩
    · have u1 : decide (k < T.l.length) = true := decide_eq_true (by omega)
      obtain ⟨x, hx⟩ : ∃ x, T.l[k]? = some x := ⟨_, List.getElem?_eq_getElem (by omega)⟩
      obtain ⟨g0, rfl, hg3, hg4, d0, d1, -, -⟩ := Br.row_at hS.row hx
      obtain ⟨xb, hxb, _⟩ := Tx.of x.code
      rw [Tx.v_eq hxb] at d0
      have hg0l : g0 < W.heap.size := World.block_lt_of_cell? W _ d0
      have a0 := (hbr.cell (p := ⟨g0, k * 4, none⟩) hg0l).trans d0
      have a1 := (hbr.cell (p := ⟨g0, k * 4 + 1, none⟩) hg0l).trans d1
      have hkl : k < T.l.length := by omega
      have hrl := Br.ris_len T.l k
      cases hlv : x.live with
      | false =>
        rw [hlv] at a1
        have hsk := Br.ris_skip hx hlv
        have HR := Lib.hid (And.intro hsk (And.intro hro hmk))
        clear hsk hro hx hlv hxb d0 d1
        obtain ⟨q, hq⟩ : ∃ q, q = gk := ⟨_, rfl⟩
        go_wp2_with fail
        go_roundg (gk - 1)
        case measure => have := HR.out.2.2; omega
        case rel => exact ⟨k + 1, by have := HR.out.2.2; omega, congrArg (Value.int .i64) (by omega), by rw [HR.out.1]; exact HR.out.2.1, hbr⟩
      | true =>
        rw [hlv] at a1
        obtain ⟨S, hS'⟩ : ∃ S, Bk.rising (T.l.take k) = S := ⟨_, rfl⟩
        rw [hS'] at hro hrl
        obtain ⟨Ao, co, rfl⟩ := Bk.row_form hro
        obtain ⟨og, hog⟩ : ∃ og, og = gk := ⟨_, rfl⟩
        rw [← hog] at hmk
        have HX := Lib.hid (And.intro hx (And.intro hlv (And.intro hS' (And.intro hmk (And.intro hog hxb)))))
        clear hx hlv hS' hmk hog hkn
        go_upto_region 8 with (at_builtin; refine wpList_append_own_at _ rfl _ _ 76 rfl W.heap.size 9 i0 (.string ⟨#[]⟩) 1 16 Tryz.underlying76 hi hz0 hz1 hz2 rfl (by decide) (.slice Ao S.length co) S.length _ rfl (hro.alloc _) ⟨wr.heap.size, 0, none⟩ 1 1 [.string xb] rfl rfl (cell_one_new _ _ _) (by simp [Value.oneCell']) (by unfold maxLen; omega) (by omega) (by have := hbr.size; simp; omega) ?_; intro v' w4 hown' hg4' hnil hat; obtain ⟨A', cp', rfl⟩ := Bk.row_form hown')
        have hbr4 : Below W.heap.size W w4 := (hbr.alloc hbr.size (.cells #[.string xb] 9)).grown hg4' (by have := hbr.size; simp; omega) fun j hj => (hro.lt j hj).1
        have hz1' : (S ++ [x.code]).length = S.length + 1 := by simp
        have hrow4 : w4.ownsRow W.heap.size 9 1 (.slice A' (S.length + 1) cp') (S.length + 1) (Bk.ss (S ++ [x.code])) := by
          have e2 : Bk.ss (S ++ [x.code]) = Bk.ss S ++ [.string xb] := by
            unfold Bk.ss
            rw [List.map_append, List.map_singleton, Tx.v_eq HX.out.2.2.2.2.2]
          rw [e2]; exact hown'
        obtain ⟨g', rfl, hg5, hg6, -⟩ := Bk.srow_at (l := S ++ [x.code]) (j := S.length) (s := x.code) (by rw [hz1']; exact Bk.own_base hrow4 (Nat.zero_le _)) (by simp)
        have hgW : W.heap.size ≤ g' := (hrow4.lt g' rfl).1
        rw [hz1'] at hg5
        have HS2 := Lib.hid (show Br.RI W S x.code g' cp' S.length (.int .i64 (S.length : Nat)) w4 from ⟨S ++ [x.code], rfl, Nat.le_refl _, hrow4, hbr4, hz1', by simp, by simp, fun y hy => by simp at hy⟩)
        clear hrow4 hown' hg4' hnil hat hro hz1' e1 a0 a1
        go_loopg [5] S.length (fun m sk wr => Br.RI W S x.code g' cp' m sk wr)
        case atStart => exact HS2.out
        case round =>
          clear HS2 hbr4 hbr
          obtain ⟨C, rfl, hm, hrc, hbc, hcl, htk, hdr, hgt⟩ := hrel
          have e1 := (hbc.cell (p := ⟨t, 1, none⟩) htl).trans c1
          have a0 := (hbc.cell (p := ⟨g0, k * 4, none⟩) hg0l).trans d0
          cases gk with
          | zero =>
            have HC := Lib.hid (And.intro hrc (And.intro hcl (And.intro htk (And.intro hdr (And.intro hgt True.intro)))))
            clear hrc hcl htk hdr hgt
            go_upto_region 8 with fail
            go_quiet (fail)
            have hrz : (wr.drewN nq).ownsRow W.heap.size 9 1 (.slice (some ⟨g', 0, none⟩) (S.length + 1) cp') (S.length + 1) (Bk.ss C) := Bk.own_of HC.out.1 fun _ _ => rfl
            have hbz : Below W.heap.size W (wr.drewN nq) := below_dn hbc nq
            clear hbc e1 a0
            generalize wr.drewN nq = wz at hrz hbz ⊢
            have e1 := (hbz.cell (p := ⟨t, 1, none⟩) htl).trans c1
            have a0 := (hbz.cell (p := ⟨g0, k * 4, none⟩) hg0l).trans d0
            obtain ⟨z, hz⟩ : ∃ z, C[0]? = some z := ⟨_, List.getElem?_eq_getElem (by have := HC.out.2.1; omega)⟩
            have b0 := Br.scell hrz hz
            have f0 := hrz.frozenAt 0
            have HZ := Lib.hid (And.intro hrz hbz)
            clear hrz hz
            go_wp2_with fail
            go_roundg (og - 1)
            case measure => have := HX.out.2.2.2.1; have := HX.out.2.2.2.2.1; omega
            case rel =>
              refine ⟨k + 1, by have := HX.out.2.2.2.1; have := HX.out.2.2.2.2.1; omega, congrArg (Value.int .i64) (by omega), ?_, hbz.setCell (p := ⟨g', 0, none⟩) hgW _⟩
              have hput := Br.sput HZ.out.1 0 x.code
              rw [Br.set_is HC.out.2.1 HC.out.2.2.1 HC.out.2.2.2.1 (by omega)] at hput
              have hsc := Br.ris_put HX.out.1 HX.out.2.1 (p := 0) (by rw [HX.out.2.2.1]; omega) (fun w9 hw9 => .inl rfl) (by rw [HX.out.2.2.1]; exact HC.out.2.2.2.2.1)
              rw [HX.out.2.2.1] at hsc
              rw [hsc]
              have hln : (S.take 0 ++ [x.code] ++ S.drop 0).length = S.length + 1 := by simp; try omega
              rw [hln]
              rw [Tx.v_eq HX.out.2.2.2.2.2] at hput
              exact hput
          | succ m =>
            have hml : m < S.length := by omega
            obtain ⟨y, hy⟩ : ∃ y, S[m]? = some y := ⟨_, List.getElem?_eq_getElem hml⟩
            have hCm : C[m]? = some y := by
              have e := congrArg (fun l => l[m]?) htk
              simp only [List.getElem?_take_of_lt (Nat.lt_succ_self m)] at e
              rw [e, hy]
            have b2 := Br.scell hrc hCm
            obtain ⟨yb, hyb, _⟩ := Tx.of y
            rw [Tx.v_eq hyb] at b2
            have hwm : IntKind.i64.wrap (m : Int) = (m : Int) := by rw [Bk.wrap_if]; split <;> omega
            have hml2 : m ≤ S.length := by omega
            have hml3 : m < S.length + 1 := by omega
            have HC := Lib.hid (And.intro hrc (And.intro hcl (And.intro htk (And.intro hdr (And.intro hgt (And.intro hy hCm))))))
            have HYB := Lib.hid hyb
            by_cases hle : y ≤ x.code
            · have hgtr := fun W => Bk.run_gtr (P := Tryz.prog) yb xb 9 false (by rw [hyb, HX.out.2.2.2.2.2]; simpa using hle) W
              have HY := Lib.hid ((Br.leB_iff _ _).2 hle)
              clear hrc hcl htk hdr hgt hy hCm hle hyb
              go_upto_region 8 with fail
              go_quiet (fail)
              have hrz : (wr.drewN nq).ownsRow W.heap.size 9 1 (.slice (some ⟨g', 0, none⟩) (S.length + 1) cp') (S.length + 1) (Bk.ss C) := Bk.own_of HC.out.1 fun _ _ => rfl
              have hbz : Below W.heap.size W (wr.drewN nq) := below_dn hbc nq
              clear hbc e1 a0 b2
              generalize wr.drewN nq = wz at hrz hbz ⊢
              have e1 := (hbz.cell (p := ⟨t, 1, none⟩) htl).trans c1
              have a0 := (hbz.cell (p := ⟨g0, k * 4, none⟩) hg0l).trans d0
              obtain ⟨z, hz⟩ : ∃ z, C[m + 1]? = some z := ⟨_, List.getElem?_eq_getElem (by have := HC.out.2.1; omega)⟩
              have b0 := Br.scell hrz hz
              have f0 := hrz.frozenAt (m + 1)
              have HZ := Lib.hid (And.intro hrz hbz)
              clear hrz hz
              go_wp2_with fail
              go_roundg (og - 1)
              case measure => have := HX.out.2.2.2.1; have := HX.out.2.2.2.2.1; omega
              case rel =>
                refine ⟨k + 1, by have := HX.out.2.2.2.1; have := HX.out.2.2.2.2.1; omega, congrArg (Value.int .i64) (by omega), ?_, hbz.setCell (p := ⟨g', m + 1, none⟩) hgW _⟩
                have hput := Br.sput HZ.out.1 (m + 1) x.code
                rw [Br.set_is HC.out.2.1 HC.out.2.2.1 HC.out.2.2.2.1 (by omega)] at hput
                have hsc := Br.ris_put HX.out.1 HX.out.2.1 (p := m + 1) (by rw [HX.out.2.2.1]; omega) (by rw [HX.out.2.2.1]; intro w9 hw9; rw [Nat.add_sub_cancel, HC.out.2.2.2.2.2.1] at hw9; exact .inr (by rw [← Option.some.inj hw9]; exact HY.out)) (by rw [HX.out.2.2.1]; exact HC.out.2.2.2.2.1)
                rw [HX.out.2.2.1] at hsc
                rw [hsc]
                have hln : (S.take (m + 1) ++ [x.code] ++ S.drop (m + 1)).length = S.length + 1 := by simp; omega
                rw [hln]
                rw [Tx.v_eq HX.out.2.2.2.2.2] at hput
                exact hput
            · have hgtr := fun W => Bk.run_gtr (P := Tryz.prog) yb xb 9 true (by rw [hyb, HX.out.2.2.2.2.2]; simpa using hle) W
              have HY := Lib.hid (show leB y x.code = false by rw [Bool.eq_false_iff]; exact fun e => hle ((Br.leB_iff _ _).1 e))
              clear hrc hcl htk hdr hgt hy hCm hle hyb
              go_upto_region 8 with fail
              go_quiet (fail)
              have hrz : (wr.drewN nq).ownsRow W.heap.size 9 1 (.slice (some ⟨g', 0, none⟩) (S.length + 1) cp') (S.length + 1) (Bk.ss C) := Bk.own_of HC.out.1 fun _ _ => rfl
              have hbz : Below W.heap.size W (wr.drewN nq) := below_dn hbc nq
              clear hbc e1 a0 b2
              generalize wr.drewN nq = wz at hrz hbz ⊢
              have e1 := (hbz.cell (p := ⟨t, 1, none⟩) htl).trans c1
              have b2 := Br.scell hrz HC.out.2.2.2.2.2.2
              rw [Tx.v_eq HYB.out] at b2
              obtain ⟨z, hz⟩ : ∃ z, C[m + 1]? = some z := ⟨_, List.getElem?_eq_getElem (by have := HC.out.2.1; omega)⟩
              have b0 := Br.scell hrz hz
              have f0 := hrz.frozenAt (m + 1)
              have HZ := Lib.hid (And.intro hrz hbz)
              clear hrz hz
              go_wp2_with fail
              go_roundg m
              case measure => omega
              case rel =>
                obtain ⟨h1, h2, h3, h4, h5, h6, h7⟩ := HC.out
                refine ⟨C.set (m + 1) y, rfl, by omega, ?_, hbz.setCell (p := ⟨g', m + 1, none⟩) hgW _, by rw [List.length_set, h2], ?_, ?_, ?_⟩
                · have hput := Br.sput HZ.out.1 (m + 1) y
                  rw [Tx.v_eq HYB.out] at hput
                  exact hput
                · rw [List.take_set_of_le (by omega)]
                  have := congrArg (List.take m) h3
                  simpa [List.take_take] using this
                · have e9 : S.drop m = y :: S.drop (m + 1) := by
                    rw [List.drop_eq_getElem_cons (by omega)]
                    rw [List.getElem?_eq_getElem (by omega)] at h6
                    rw [Option.some.inj h6]
                  rw [e9, ← h4, List.drop_eq_getElem_cons (by rw [List.length_set]; omega), List.getElem_set_self, List.drop_set_of_lt (by omega)]
                · intro a ha
                  rw [List.drop_eq_getElem_cons (by omega)] at ha
                  rcases List.mem_cons.1 ha with rfl | ha
                  · rw [List.getElem?_eq_getElem (by omega)] at h6
                    rw [Option.some.inj h6]
                    exact HY.out
                  · exact h5 a ha
end Go.Proofs.YtikhahkmebkccaaGreatDoor
