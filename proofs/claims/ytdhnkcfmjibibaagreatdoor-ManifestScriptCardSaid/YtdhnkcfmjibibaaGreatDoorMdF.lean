/- Manifests: contract of the reference's Decode. Conditions: each theorem's own hypotheses. -/
import Derived.Test.YtdhnkcfmjibibaaGreatDoorZMdD
import Derived.Test.YtdhnkcfmjibibaaGreatDoorMdE
import Derived.Test.YtdhnkcfmjibibaaGreatDoorZSealK
import Derived.BigRegion
import Derived.Deep.RegionHeldLaw
import Derived.Deep.AppendLies
import Derived.Test.YtdhnkcfmjibibaaGreatDoorMdR
import Derived.Test.YtdhnkcfmjibibaaGreatDoorMfI
import Derived.Test.YtdhnkcfmjibibaaGreatDoorMfK
namespace Go.Proofs.YtdhnkcfmjibibaaGreatDoor
open Go.RowKit Go.Maps
set_option linter.unusedVariables false

/-- The document reads seven numbers at once. -/
theorem Mf.seven {p : List UInt8} {T : Mf.Tk} (hT : Mf.take p 1152921504606846976 0 0 7 = T) :
    (T.code ≠ 0 → (Mf.rdN p).code = T.code) ∧ (T.code = 0 → ∃ h n, (Mf.rdH p).vals = h ∧ T.vals = h ++ [n] ∧ h.length = 6 ∧ (24 < n → (Mf.rdN p).code = 80) ∧ (n ≤ 24 → (Mf.rdN p).code = 0 ∧ (Mf.rdN p).vals = [n] ∧ (Mf.rdN p).at_ = T.at_)) := by
  have e1 : T = Mf.tkStep p 1152921504606846976 (Mf.rdH p) := by rw [← hT, Mf.rdH]; rfl
  have e2 : Mf.rdN p = Mf.tkStep p 24 ⟨(Mf.rdH p).code, [], (Mf.rdH p).at_⟩ := by rw [Mf.rdN, Mf.take_one]
  have hok := fun h => Mf.take_ok (l := p) (most := 1152921504606846976) (c := 0) (a := 0) (Nat.zero_le _) (k := 6) h
  have e3 : Mf.take p 1152921504606846976 0 0 6 = Mf.rdH p := rfl
  rw [e3] at hok
  rw [e2]
  generalize Mf.rdH p = H at *
  clear hT e3 e2
  by_cases h0 : H.code = 0
  · obtain ⟨R, hR⟩ : ∃ R, Sl.var (p.drop H.at_) = R := ⟨_, rfl⟩
    have hl := (hok h0).1
    clear hok
    subst e1
    unfold Mf.tkStep
    simp only [h0, not_true_eq_false, if_false, hR]
    by_cases h1 : R.code = 0
    · simp only [h1, not_true_eq_false, if_false]
      by_cases h2 : 1152921504606846976 < R.val
      · have h3 : 24 < R.val := by omega
        simp only [h2, h3, if_true]
        exact ⟨fun _ => trivial, fun h => by cases h⟩
      · simp only [h2, if_false]
        refine ⟨fun h => absurd rfl h, fun _ => ⟨H.vals, R.val, rfl, rfl, hl, fun h => by rw [if_pos h], fun h => ?_⟩⟩
        rw [if_neg (by omega)]
        exact ⟨rfl, rfl, rfl⟩
    · simp only [h1, not_false_eq_true, if_true]
      exact ⟨fun _ => trivial, fun h => h.elim⟩
  · subst e1
    have a1 := Mf.tkStep_bad (l := p) (most := 1152921504606846976) h0
    have a2 := Mf.tkStep_bad (l := p) (most := 24) (T := ⟨H.code, [], H.at_⟩) h0
    exact ⟨fun _ => a2.trans a1.symm, fun h => absurd (a1.symm.trans h) h0⟩

theorem cell_alloc {W : World} {a : Addr} {v : Value} (o : Obj) (h : W.cell? a = some v) : (W.alloc o).cell? a = some v :=
  (World.cell?_of_block (Below.heap_alloc W o _ (World.block_lt_of_cell? W _ h))).trans h
theorem cell_grown {W W' : World} {a : Addr} {v : Value} {row : Option Nat} (hg : W.grownBy W' row) (hne : some a.block ≠ row) (h : W.cell? a = some v) : W'.cell? a = some v :=
  (World.cell?_of_block (hg.block _ (World.block_lt_of_cell? W _ h) hne)).trans h
theorem five_alloc {q g2 j j1 j2 j3 u0 u1 u2 u3 : Nat} {W : World} (hq : q < W.heap.size) (o : Obj) (h : W.frozen? ⟨q, 6, none⟩ = false ∧ W.cell? ⟨g2, j, none⟩ = some (.int .i64 (u0 : Int)) ∧ W.cell? ⟨g2, j1, none⟩ = some (.int .i64 (u1 : Int)) ∧ W.cell? ⟨g2, j2, none⟩ = some (.int .i64 (u2 : Int)) ∧ W.cell? ⟨g2, j3, none⟩ = some (.int .i64 (u3 : Int))) :
    (W.alloc o).frozen? ⟨q, 6, none⟩ = false ∧ (W.alloc o).cell? ⟨g2, j, none⟩ = some (.int .i64 (u0 : Int)) ∧ (W.alloc o).cell? ⟨g2, j1, none⟩ = some (.int .i64 (u1 : Int)) ∧ (W.alloc o).cell? ⟨g2, j2, none⟩ = some (.int .i64 (u2 : Int)) ∧ (W.alloc o).cell? ⟨g2, j3, none⟩ = some (.int .i64 (u3 : Int)) :=
  ⟨(World.frozen?_of_block (Below.heap_alloc W o _ hq)).trans h.1, cell_alloc o h.2.1, cell_alloc o h.2.2.1, cell_alloc o h.2.2.2.1, cell_alloc o h.2.2.2.2⟩
theorem five_grown {q g2 j j1 j2 j3 u0 u1 u2 u3 : Nat} {W W' : World} {row : Option Nat} (hq : q < W.heap.size) (hg : W.grownBy W' row) (h1 : some q ≠ row) (h2 : some g2 ≠ row) (h : W.frozen? ⟨q, 6, none⟩ = false ∧ W.cell? ⟨g2, j, none⟩ = some (.int .i64 (u0 : Int)) ∧ W.cell? ⟨g2, j1, none⟩ = some (.int .i64 (u1 : Int)) ∧ W.cell? ⟨g2, j2, none⟩ = some (.int .i64 (u2 : Int)) ∧ W.cell? ⟨g2, j3, none⟩ = some (.int .i64 (u3 : Int))) :
    W'.frozen? ⟨q, 6, none⟩ = false ∧ W'.cell? ⟨g2, j, none⟩ = some (.int .i64 (u0 : Int)) ∧ W'.cell? ⟨g2, j1, none⟩ = some (.int .i64 (u1 : Int)) ∧ W'.cell? ⟨g2, j2, none⟩ = some (.int .i64 (u2 : Int)) ∧ W'.cell? ⟨g2, j3, none⟩ = some (.int .i64 (u3 : Int)) :=
  ⟨(World.frozen?_of_block (hg.block _ hq h1)).trans h.1, cell_grown hg h2 h.2.1, cell_grown hg h2 h.2.2.1, cell_grown hg h2 h.2.2.2.1, cell_grown hg h2 h.2.2.2.2⟩
theorem five_set {q g2 j j1 j2 j3 u0 u1 u2 u3 : Nat} {W : World} {u : Value} (hne : g2 ≠ q) (h : W.frozen? ⟨q, 6, none⟩ = false ∧ W.cell? ⟨g2, j, none⟩ = some (.int .i64 (u0 : Int)) ∧ W.cell? ⟨g2, j1, none⟩ = some (.int .i64 (u1 : Int)) ∧ W.cell? ⟨g2, j2, none⟩ = some (.int .i64 (u2 : Int)) ∧ W.cell? ⟨g2, j3, none⟩ = some (.int .i64 (u3 : Int))) :
    (W.setCell ⟨q, 6, none⟩ u).frozen? ⟨q, 6, none⟩ = false ∧ (W.setCell ⟨q, 6, none⟩ u).cell? ⟨g2, j, none⟩ = some (.int .i64 (u0 : Int)) ∧ (W.setCell ⟨q, 6, none⟩ u).cell? ⟨g2, j1, none⟩ = some (.int .i64 (u1 : Int)) ∧ (W.setCell ⟨q, 6, none⟩ u).cell? ⟨g2, j2, none⟩ = some (.int .i64 (u2 : Int)) ∧ (W.setCell ⟨q, 6, none⟩ u).cell? ⟨g2, j3, none⟩ = some (.int .i64 (u3 : Int)) :=
  ⟨by rw [World.frozen?_setCell]; exact h.1, (World.cell?_of_block (Below.heap_setCell W _ u _ hne)).trans h.2.1, (World.cell?_of_block (Below.heap_setCell W _ u _ hne)).trans h.2.2.1, (World.cell?_of_block (Below.heap_setCell W _ u _ hne)).trans h.2.2.2.1, (World.cell?_of_block (Below.heap_setCell W _ u _ hne)).trans h.2.2.2.2⟩

/-- The load of the list's own cell, under a name: the walk of the drawn region is to branch over it without a word. -/
def Mf.o97 : Op := Op.load 29 (Operand.tmp 96)
attribute [go_sem] Mf.o97
/-- The state at the head of the loop of the reference's Decode. -/
structure RfSt (D0 : Nat) (vs us : List Nat) (q nn : Nat) (w3 : World) (j : Nat) (A : Option Addr) (cp : Nat) (rs : List Run) (wr : World) : Prop where
  man : ∃ v0 v1 v2 v3 v4 v5, vs = [v0, v1, v2, v3, v4, v5] ∧ Blk wr q 31 #[.int .i64 (v0 : Nat), .int .i64 (v1 : Nat), .int .i64 (v2 : Nat), .int .i64 (v3 : Nat), .int .i64 (v4 : Nat), .int .i64 (v5 : Nat), .slice A rs.length cp]
  own : Runs wr (q + 1) A cp rs
  below : Below q w3 wr
  size : q + 1 ≤ wr.heap.size
  le : j ≤ nn
  four : ∃ k, j = 4 * k
  runs : rs = Mf.runsOf (us.take j)
theorem Mf.runsOf_step {us : List Nat} {k u0 u1 u2 u3 : Nat} (h0 : us[4 * k]? = some u0) (h1 : us[4 * k + 1]? = some u1) (h2 : us[4 * k + 2]? = some u2) (h3 : us[4 * k + 3]? = some u3) :
    Mf.runsOf (us.take (4 * k + 4)) = Mf.runsOf (us.take (4 * k)) ++ [⟨u0, u1, u2, u3⟩] := by
  have hl := (List.getElem?_eq_some_iff.1 h3).1
  rw [← Mf.runsOf_snoc k _ (by rw [List.length_take]; omega)]
  congr 1
  rw [show 4 * k + 4 = 4 * k + 1 + 1 + 1 + 1 by omega, List.take_add_one, List.take_add_one, List.take_add_one, List.take_add_one, h0, h1, h2, h3]
  simp

theorem RfSt.next {D0 : Nat} {vs us : List Nat} {q nn j cp g' cp' : Nat} {w3 wr Wx w5 : World} {A : Option Addr} {rs : List Run} {r : Run} (K : RfSt D0 vs us q nn w3 j A cp rs wr) (hx : Below wr.heap.size wr Wx)
    (hg : Wx.grownBy w5 (Value.slice A rs.length cp).ownBlock) (nq : some q ≠ (Value.slice A rs.length cp).ownBlock) (hlt : ∀ b, (Value.slice A rs.length cp).ownBlock = some b → q ≤ b)
    (hown : w5.ownsRow (q + 1) 42 4 (.slice (some ⟨g', 0, none⟩) (rs.length + 1) cp') (rs.length + 1) (cellsOf rs ++ cellsOf [r])) (hst : Mf.runsOf (us.take (j + 4)) = rs ++ [r]) (hjn : j + 4 ≤ nn) :
    RfSt D0 vs us q nn w3 (j + 4) (some ⟨g', 0, none⟩) cp' (rs ++ [r]) (w5.setCell ⟨q, 6, none⟩ (.slice (some ⟨g', 0, none⟩) (rs.length + 1) cp')) := by
  obtain ⟨v0, v1, v2, v3, v4, v5, hv, hm⟩ := K.man
  have hz := K.size
  have hz2 := hx.size
  have hm2 := Blk.grown ((hx.block q (by omega)).trans hm) hg nq
  refine ⟨⟨v0, v1, v2, v3, v4, v5, hv, ?_⟩, ?_, ?_, ?_, hjn, ?_, hst.symm⟩
  · rw [List.length_append]
    exact hm2.set_ 6 _
  · unfold Runs
    rw [List.length_append, cellsOf_append]
    exact own_keep hown (Nat.le_refl _) fun b hb _ => Below.heap_setCell _ _ _ b (by show b ≠ q; omega)
  · exact ((K.below.trans (hx.mono (by omega))).grown hg (by omega) hlt).setCell (Nat.le_refl q) _
  · rw [World.size_setCell]
    have := hg.size
    omega
  · obtain ⟨k, hk⟩ := K.four
    exact ⟨k + 1, by omega⟩

set_option maxRecDepth 100000 in
set_option maxHeartbeats 4000000 in
theorem refDecode_any (s : ByteArray) (D : Mf.Dec) (w : World) (hs : s.size ≤ 9223372036854775807) (hD : Mf.decode s.data.toList = D) :
    Calls Tryz.prog 41 #[.string s] w fun e w' => (∃ A cap, e = .returned (decV D A cap) ∧ Runs w' w.heap.size A cap D.man.runs) ∧ Below w.heap.size w w' := by
  obtain ⟨i0, hi, hz0, hz1, hz2⟩ := info_parts infoRun
  obtain ⟨R, hR⟩ : ∃ R, Sl.parse s.data.toList = R := ⟨_, rfl⟩
  have hpl := parse_len_pay _ _ hR
  have hll : s.data.toList.length = s.size := Array.length_toList
  rw [hll] at hpl
  obtain ⟨P, hP, hPd, hPs⟩ := str_of R.pay
  obtain ⟨m, hm⟩ : ∃ m : Nat, (if R.code = 0 then 0 + R.len else 0) = m := ⟨_, rfl⟩
  have hpar : ∀ W, Calls Tryz.prog 75 #[.string s, .int .i64 0] W fun e w' => e = .returned (.tuple #[.int .i64 R.kind, .string P, .int .i64 m, .int .i64 R.code]) ∧ Below W.heap.size W w' := fun W =>
    (refParse_any s 0 R W hs (Nat.zero_le _) (by rw [List.drop_zero]; exact hR)).mono fun e w' ⟨h1, h2⟩ => ⟨by rw [h1, parseV, hP, hm], h2⟩
  unfold Mf.decode at hD
  rw [hR, hll] at hD
  have HPAR := Lib.hid hpar
  clear hpar hR hP
  go_enter Tryz.func41, Tryz.ntmps41
  have b0 : Blk (w.alloc (.cells zeroMan 31)) w.heap.size 31 zeroMan := Blk.new w _ _
  have B0 : Below w.heap.size w (w.alloc (.cells zeroMan 31)) := (Below.refl _ _).alloc (Nat.le_refl _) _
  have HB0 := Lib.hid b0
  clear b0
  by_cases h1 : R.code = 0
  rotate_left
  · rw [if_pos h1] at hD
    have e1 : ((R.code : Int) != 0) = true := by rw [bne_iff_ne]; omega
    subst hD
    clear h1
    go_wp2_with (go_at_call 75; refine (HPAR.out _).mono ?_; rintro e w1 ⟨rfl, hB1⟩
                 have b1 : Blk w1 w.heap.size 31 zeroMan := (hB1.block w.heap.size (by simp)).trans HB0.out
                 have B1 : Below w.heap.size w w1 := B0.trans (hB1.mono B0.size)
                 obtain ⟨x0, x1, x2, x3, x4, x5, x6⟩ := zero_seven b1
                 obtain ⟨f0, f1, f2, f3, f4, f5, f6⟩ := blk_free7 b1)
    refine bodyPost_ret (v := .tuple #[.agg #[.int .i64 0, .int .i64 0, .int .i64 0, .int .i64 0, .int .i64 0, .int .i64 0, .slice none 0 0], .int .i64 R.code]) (by simp [results, Tryz.results41, go_sem, x0, x1, x2, x3, x4, x5, x6]) rfl (Mf.zero_ret (c := R.code) (B1.trans (man7_below (Nat.le_refl _) _ _ _ _ _ _ _)))
  have e1 : ((R.code : Int) != 0) = false := by rw [bne_eq_false_iff_eq]; omega
  rw [if_pos h1] at hm
  rw [if_neg (not_not_intro h1)] at hD
  by_cases h2 : R.len = s.size
  rotate_left
  · rw [if_pos h2] at hD
    have e2 : ((m : Int) != (s.size : Int)) = true := by rw [bne_iff_ne]; omega
    subst hD
    clear h1 h2 hm
    go_wp2_with (go_at_call 75; refine (HPAR.out _).mono ?_; rintro e w1 ⟨rfl, hB1⟩
                 have b1 : Blk w1 w.heap.size 31 zeroMan := (hB1.block w.heap.size (by simp)).trans HB0.out
                 have B1 : Below w.heap.size w w1 := B0.trans (hB1.mono B0.size)
                 obtain ⟨x0, x1, x2, x3, x4, x5, x6⟩ := zero_seven b1
                 obtain ⟨f0, f1, f2, f3, f4, f5, f6⟩ := blk_free7 b1)
    refine bodyPost_ret (v := .tuple #[.agg #[.int .i64 0, .int .i64 0, .int .i64 0, .int .i64 0, .int .i64 0, .int .i64 0, .slice none 0 0], .int .i64 37]) (by simp [results, Tryz.results41, go_sem, x0, x1, x2, x3, x4, x5, x6]) rfl (Mf.zero_ret (c := 37) (B1.trans (man7_below (Nat.le_refl _) _ _ _ _ _ _ _)))
  have e2 : ((m : Int) != (s.size : Int)) = false := by rw [bne_eq_false_iff_eq]; omega
  rw [if_neg (not_not_intro h2)] at hD
  by_cases h3 : R.kind = 3
  rotate_left
  · rw [if_pos h3] at hD
    have e3 : ((R.kind : Int) != 3) = true := by rw [bne_iff_ne]; omega
    subst hD
    clear h1 h2 h3 hm
    go_wp2_with (go_at_call 75; refine (HPAR.out _).mono ?_; rintro e w1 ⟨rfl, hB1⟩
                 have b1 : Blk w1 w.heap.size 31 zeroMan := (hB1.block w.heap.size (by simp)).trans HB0.out
                 have B1 : Below w.heap.size w w1 := B0.trans (hB1.mono B0.size)
                 obtain ⟨x0, x1, x2, x3, x4, x5, x6⟩ := zero_seven b1
                 obtain ⟨f0, f1, f2, f3, f4, f5, f6⟩ := blk_free7 b1)
    refine bodyPost_ret (v := .tuple #[.agg #[.int .i64 0, .int .i64 0, .int .i64 0, .int .i64 0, .int .i64 0, .int .i64 0, .slice none 0 0], .int .i64 35]) (by simp [results, Tryz.results41, go_sem, x0, x1, x2, x3, x4, x5, x6]) rfl (Mf.zero_ret (c := 35) (B1.trans (man7_below (Nat.le_refl _) _ _ _ _ _ _ _)))
  have e3 : ((R.kind : Int) != 3) = false := by rw [bne_eq_false_iff_eq]; omega
  rw [if_neg (not_not_intro h3), ← hPd] at hD
  clear h1 h2 h3 hm
  go_wp2_with (go_at_call 75; refine (HPAR.out _).mono ?_; rintro e w1 ⟨rfl, hB1⟩
               have b1 : Blk w1 w.heap.size 31 zeroMan := (hB1.block w.heap.size (by simp)).trans HB0.out
               have B1 : Below w.heap.size w w1 := B0.trans (hB1.mono B0.size)
               obtain ⟨x0, x1, x2, x3, x4, x5, x6⟩ := zero_seven b1
               obtain ⟨f0, f1, f2, f3, f4, f5, f6⟩ := blk_free7 b1)
  have hPl : P.size ≤ 9223372036854775807 := by rw [hPs]; omega
  obtain ⟨T, hT⟩ : ∃ T, Mf.take P.data.toList 1152921504606846976 0 0 7 = T := ⟨_, rfl⟩
  obtain ⟨hT0, hT1⟩ := Mf.seven hT
  have HSV := Lib.hid (several_any P 0 7 w1 hPl (Nat.zero_le _) (by omega) T hT)
  have HD := Lib.hid hD
  clear hpl hPs hPd hD hB1
  by_cases hTc : T.code = 0
  rotate_left
  · have e4 : ((T.code : Int) != 0) = true := by rw [bne_iff_ne]; omega
    have hD1 : D = ⟨T.code, Mf.zero⟩ := by rw [← HD.out, Mf.decP_bad1 (by rw [hT0 hTc]; exact hTc), hT0 hTc]
    have HTC := Lib.hid hTc
    subst hD1
    clear hT0 hT1 hT hTc x0 x1 x2 x3 x4 x5 x6 f0 f1 f2 f3 f4 f5 f6 HD
    refine HSV.out.mono ?_
    rintro e w2 ⟨hB2, he, _⟩
    obtain rfl := he HTC.out
    have b2 : Blk w2 w.heap.size 31 zeroMan := (hB2.block _ b1.lt).trans b1
    have B2 : Below w.heap.size w w2 := B1.trans (hB2.mono B1.size)
    obtain ⟨x0, x1, x2, x3, x4, x5, x6⟩ := zero_seven b2
    obtain ⟨f0, f1, f2, f3, f4, f5, f6⟩ := blk_free7 b2
    go_wp2_with fail
    refine bodyPost_ret (v := .tuple #[.agg #[.int .i64 0, .int .i64 0, .int .i64 0, .int .i64 0, .int .i64 0, .int .i64 0, .slice none 0 0], .int .i64 T.code]) (by simp [results, Tryz.results41, go_sem, x0, x1, x2, x3, x4, x5, x6]) rfl (Mf.zero_ret (c := T.code) ((B2).trans (man7_below (Nat.le_refl _) _ _ _ _ _ _ _)))
  have e4 : ((T.code : Int) != 0) = false := by rw [bne_eq_false_iff_eq]; omega
  obtain ⟨h, n, hh, hTv, hh6, hbig, hsm⟩ := hT1 hTc
  obtain ⟨v0, v1, v2, v3, v4, v5, rfl⟩ := nats6 hh6
  have htat : T.at_ ≤ P.size := by
    have := (Mf.take_ok (l := P.data.toList) (most := 1152921504606846976) (c := 0) (a := 0) (Nat.zero_le _) (k := 7) (by rw [hT]; exact hTc)).2.2.2
    rw [hT] at this
    exact Nat.le_trans this (Nat.le_of_eq Array.length_toList)
  have hv60 : ∀ v ∈ T.vals, v ≤ 1152921504606846976 := by
    have := (Mf.take_ok (l := P.data.toList) (most := 1152921504606846976) (c := 0) (a := 0) (Nat.zero_le _) (k := 7) (by rw [hT]; exact hTc)).2.1
    rw [hT] at this
    exact this
  have HTV := Lib.hid hTv
  have HSM := Lib.hid hsm
  have HBG := Lib.hid hbig
  have HHH := Lib.hid hh
  have HTC := Lib.hid hTc
  have HV60 := Lib.hid hv60
  clear hT0 hT1 hT hTc hh6 hTv hsm hbig hh hv60 x0 x1 x2 x3 x4 x5 x6 f0 f1 f2 f3 f4 f5 f6
  refine HSV.out.mono ?_
  rintro e w2 ⟨hB2, left, he⟩
  obtain ⟨v, rfl, hown⟩ := he HTC.out
  have b2 : Blk w2 w.heap.size 31 zeroMan := (hB2.block _ b1.lt).trans b1
  have B2 : Below w.heap.size w w2 := B1.trans (hB2.mono B1.size)
  have hlt1 := b1.lt
  obtain ⟨g, cap, rfl, hg1, hg2⟩ := hown.form (by omega)
  have cc : ∀ j (u : Nat), T.vals[j]? = some u → w2.cell? ⟨g, j, none⟩ = some (.int .i64 (u : Int)) := fun j u hu => by
    have := World.ownsRow.cells hown (g := g) rfl j (.int .i64 (u : Int)) (by rw [Mf.cells_list, List.getElem?_map, hu]; rfl)
    rwa [addLit, Nat.zero_add] at this
  have c0 := cc 0 v0 (by rw [HTV.out]; rfl)
  have c1 := cc 1 v1 (by rw [HTV.out]; rfl)
  have c2 := cc 2 v2 (by rw [HTV.out]; rfl)
  have c3 := cc 3 v3 (by rw [HTV.out]; rfl)
  have c4 := cc 4 v4 (by rw [HTV.out]; rfl)
  have c5 := cc 5 v5 (by rw [HTV.out]; rfl)
  have c6 := cc 6 n (by rw [HTV.out]; rfl)
  clear cc hown
  by_cases hn24 : 24 < n
  · have e5 : decide ((24 : Int) < (n : Int)) = true := decide_eq_true (by omega)
    have hD1 : D = ⟨80, Mf.zero⟩ := by rw [← HD.out, Mf.decP_bad1 (by rw [HBG.out hn24]; decide), HBG.out hn24]
    subst hD1
    clear HD
    obtain ⟨x0, x1, x2, x3, x4, x5, x6⟩ := zero_seven b2
    obtain ⟨f0, f1, f2, f3, f4, f5, f6⟩ := blk_free7 b2
    go_wp2_with fail
    refine bodyPost_ret (v := .tuple #[.agg #[.int .i64 0, .int .i64 0, .int .i64 0, .int .i64 0, .int .i64 0, .int .i64 0, .slice none 0 0], .int .i64 80]) (by simp [results, Tryz.results41, go_sem, x0, x1, x2, x3, x4, x5, x6]) rfl (Mf.zero_ret (c := 80) ((B2).trans (man7_below (Nat.le_refl _) _ _ _ _ _ _ _)))
  have e5 : decide ((24 : Int) < (n : Int)) = false := decide_eq_false (by omega)
  obtain ⟨hN0, hNv, hNa⟩ := HSM.out (by omega)
  obtain ⟨V, hV⟩ : ∃ V, Mf.take P.data.toList 1152921504606846976 0 T.at_ (4 * n) = V := ⟨_, rfl⟩
  have hsv2 := several_any P T.at_ (4 * n) w2 hPl htat (by omega) V hV
  have hc4 : ((4 * n : Nat) : Int) = 4 * (n : Int) := by omega
  rw [hc4] at hsv2
  have HSV2 := Lib.hid hsv2
  have HN0 := Lib.hid hN0
  have HNV := Lib.hid hNv
  have HNA := Lib.hid hNa
  have HVV := Lib.hid hV
  clear hsv2 hN0 hNv hNa hV hc4
  go_wp2_with fail
  clear he left
  refine HSV2.out.mono ?_
  rintro e w3 ⟨hB3, he0, he1⟩
  have b3 : Blk w3 w.heap.size 31 zeroMan := (hB3.block _ b2.lt).trans b2
  have B3 : Below w.heap.size w w3 := B2.trans (hB3.mono B2.size)
  have d0 := (hB3.cell (p := ⟨g, 0, none⟩) hg2).trans c0
  have d1 := (hB3.cell (p := ⟨g, 1, none⟩) hg2).trans c1
  have d2 := (hB3.cell (p := ⟨g, 2, none⟩) hg2).trans c2
  have d3 := (hB3.cell (p := ⟨g, 3, none⟩) hg2).trans c3
  have d4 := (hB3.cell (p := ⟨g, 4, none⟩) hg2).trans c4
  have d5 := (hB3.cell (p := ⟨g, 5, none⟩) hg2).trans c5
  clear c0 c1 c2 c3 c4 c5 c6 b2 B2
  obtain ⟨x0, x1, x2, x3, x4, x5, x6⟩ := zero_seven b3
  obtain ⟨f0, f1, f2, f3, f4, f5, f6⟩ := blk_free7 b3
  by_cases hVc : V.code = 0
  rotate_left
  · have e6 : ((V.code : Int) != 0) = true := by rw [bne_iff_ne]; omega
    have hD1 : D = ⟨V.code, Mf.zero⟩ := by rw [← HD.out]; exact Mf.decP_bad2 HN0.out HNV.out (Nat.le_refl n) (by rw [HNA.out, HVV.out]) hVc
    obtain rfl := he0 hVc
    subst hD1
    clear HD hVc he0 he1
    go_wp2_with fail
    refine bodyPost_ret (v := .tuple #[.agg #[.int .i64 0, .int .i64 0, .int .i64 0, .int .i64 0, .int .i64 0, .int .i64 0, .slice none 0 0], .int .i64 V.code]) (by simp [results, Tryz.results41, go_sem, x0, x1, x2, x3, x4, x5, x6]) rfl (Mf.zero_ret (c := V.code) ((B3).trans (man7_below (Nat.le_refl _) _ _ _ _ _ _ _)))
  have e6 : ((V.code : Int) != 0) = false := by rw [bne_eq_false_iff_eq]; omega
  obtain ⟨l2, rfl, hown2⟩ := he1 hVc
  have hE := Mf.decP_end (X := V) HN0.out HNV.out (by rw [HNA.out]; exact HVV.out) hVc
  rw [HD.out, show P.data.toList.length = P.size from Array.length_toList, HHH.out] at hE
  by_cases hVa : V.at_ = P.size
  rotate_left
  · have e7 : ((V.at_ : Int) != (P.size : Int)) = true := by rw [bne_iff_ne]; omega
    rw [if_pos hVa] at hE
    subst hE
    clear HD hVc he0 he1 hVa
    go_wp2_with fail
    refine bodyPost_ret (v := .tuple #[.agg #[.int .i64 0, .int .i64 0, .int .i64 0, .int .i64 0, .int .i64 0, .int .i64 0, .slice none 0 0], .int .i64 37]) (by simp [results, Tryz.results41, go_sem, x0, x1, x2, x3, x4, x5, x6]) rfl (Mf.zero_ret (c := 37) ((B3).trans (man7_below (Nat.le_refl _) _ _ _ _ _ _ _)))
  have e7 : ((V.at_ : Int) != (P.size : Int)) = false := by rw [bne_eq_false_iff_eq]; omega
  rw [if_neg (not_not_intro hVa)] at hE
  have hok := Mf.take_ok (l := P.data.toList) (most := 1152921504606846976) (c := 0) (a := T.at_) (by rw [show P.data.toList.length = P.size from Array.length_toList]; exact htat) (k := 4 * n) (by rw [HVV.out]; exact hVc)
  rw [HVV.out] at hok
  obtain ⟨hVl, hV60, _, _⟩ := hok
  obtain ⟨A2, q2, rfl, hA2⟩ : ∃ A2 q2, l2 = .slice A2 (4 * n) q2 ∧ (0 < n → ∃ g2, A2 = some ⟨g2, 0, none⟩ ∧ w2.heap.size ≤ g2 ∧ g2 < w3.heap.size ∧ ∀ j (u : Nat), V.vals[j]? = some u → w3.cell? ⟨g2, j, none⟩ = some (.int .i64 (u : Int))) := by
    by_cases hn0 : 0 < n
    · obtain ⟨g2, q2, rfl, hg3, hg4⟩ := hown2.form (by omega)
      refine ⟨_, _, rfl, fun _ => ⟨g2, rfl, hg3, hg4, fun j u hu => ?_⟩⟩
      have := World.ownsRow.cells hown2 (g := g2) rfl j (.int .i64 (u : Int)) (by rw [Mf.cells_list, List.getElem?_map, hu]; rfl)
      rwa [addLit, Nat.zero_add] at this
    · obtain rfl : n = 0 := by omega
      rcases hown2.2 with ⟨h1, _⟩ | ⟨g2, q2, cur, h1, _⟩
      · exact ⟨none, 0, h1, fun h => absurd h (by omega)⟩
      · exact ⟨_, q2, h1, fun h => absurd h (by omega)⟩
  have HE := Lib.hid hE
  have HV6 := Lib.hid hV60
  have HVL := Lib.hid hVl
  have HA2 := Lib.hid hA2
  clear hE hV60 hVl hA2 hVa hVc he0 he1 HD hown2
  clear x0 x1 x2 x3 x4 x5 x6 f0 f1 f2 f3 f4 f5 f6
  have hg3 : g < w3.heap.size := Nat.lt_of_lt_of_le hg2 hB3.size
  have hbf : ∀ (o : Obj) (i : Nat), (w3.alloc o).cell? ⟨g, i, none⟩ = w3.cell? ⟨g, i, none⟩ := fun o i => World.cell?_of_block (Below.heap_alloc w3 o g hg3)
  have k0 : ∀ o : Obj, (w3.alloc o).cell? ⟨g, 0, none⟩ = some (.int .i64 (v0 : Int)) := fun o => (hbf o 0).trans d0
  have k1 : ∀ o : Obj, (w3.alloc o).cell? ⟨g, 1, none⟩ = some (.int .i64 (v1 : Int)) := fun o => (hbf o 1).trans d1
  have k2 : ∀ o : Obj, (w3.alloc o).cell? ⟨g, 2, none⟩ = some (.int .i64 (v2 : Int)) := fun o => (hbf o 2).trans d2
  have k3 : ∀ o : Obj, (w3.alloc o).cell? ⟨g, 3, none⟩ = some (.int .i64 (v3 : Int)) := fun o => (hbf o 3).trans d3
  have k4 : ∀ o : Obj, (w3.alloc o).cell? ⟨g, 4, none⟩ = some (.int .i64 (v4 : Int)) := fun o => (hbf o 4).trans d4
  have k5 : ∀ o : Obj, (w3.alloc o).cell? ⟨g, 5, none⟩ = some (.int .i64 (v5 : Int)) := fun o => (hbf o 5).trans d5
  clear hbf
  have S0 : w3.drew.cell? ⟨g, 0, none⟩ = some (.int .i64 (v0 : Int)) ∧ w3.drew.cell? ⟨g, 1, none⟩ = some (.int .i64 (v1 : Int)) ∧ w3.drew.cell? ⟨g, 2, none⟩ = some (.int .i64 (v2 : Int)) ∧ w3.drew.cell? ⟨g, 3, none⟩ = some (.int .i64 (v3 : Int)) ∧ w3.drew.cell? ⟨g, 4, none⟩ = some (.int .i64 (v4 : Int)) ∧ w3.drew.cell? ⟨g, 5, none⟩ = some (.int .i64 (v5 : Int)) := ⟨d0, d1, d2, d3, d4, d5⟩
  go_wp2_with fail
  go_region_held3 (fun W' => W'.cell? ⟨g, 0, none⟩ = some (.int .i64 (v0 : Int)) ∧ W'.cell? ⟨g, 1, none⟩ = some (.int .i64 (v1 : Int)) ∧ W'.cell? ⟨g, 2, none⟩ = some (.int .i64 (v2 : Int)) ∧ W'.cell? ⟨g, 3, none⟩ = some (.int .i64 (v3 : Int)) ∧ W'.cell? ⟨g, 4, none⟩ = some (.int .i64 (v4 : Int)) ∧ W'.cell? ⟨g, 5, none⟩ = some (.int .i64 (v5 : Int)))
    (first
      | with_reducible assumption
      | exact ⟨k0 _, k1 _, k2 _, k3 _, k4 _, k5 _⟩)
    (first
      | fail)
  all_goals (try go_wp2_with fail)
  obtain ⟨q, hq⟩ : ∃ q, w3.heap.size = q := ⟨_, rfl⟩
  obtain ⟨nn, hnn⟩ : ∃ nn, 4 * n = nn := ⟨_, rfl⟩
  have KS : RfSt 0 [v0, v1, v2, v3, v4, v5] V.vals q nn w3 0 none 0 [] (w3.alloc (.cells #[.int .i64 (v0 : Nat), .int .i64 (v1 : Nat), .int .i64 (v2 : Nat), .int .i64 (v3 : Nat), .int .i64 (v4 : Nat), .int .i64 (v5 : Nat), .slice none 0 0] 31)).drew := by
    refine ⟨⟨v0, v1, v2, v3, v4, v5, rfl, ?_⟩, Runs.nil _ _, ?_, ?_, Nat.zero_le _, ⟨0, rfl⟩, rfl⟩
    · rw [← hq]
      exact Blk.new w3 _ _
    · exact Below.drew_ ((Below.refl _ _).alloc (Nat.le_of_eq hq.symm) _)
    · show q + 1 ≤ (w3.alloc _).heap.size
      rw [World.size_alloc, hq]
      exact Nat.le_refl _
  rw [hnn, hq]
  have HQ := Lib.hid hq
  have HNN := Lib.hid hnn
  have hn96 : nn ≤ 96 := by omega
  clear hq hnn d0 d1 d2 d3 d4 d5 k0 k1 k2 k3 k4 k5 S0
  go_loopw [15] (fun i wr => ∃ (j : Nat) (A : Option Addr) (cp : Nat) (rs : List Run), i = .int .i64 j ∧ RfSt 0 [v0, v1, v2, v3, v4, v5] V.vals q nn w3 j A cp rs wr) (fun i _ => nn - (intOf i).toNat)
  case atStart => exact ⟨0, none, 0, [], rfl, KS⟩
  case round =>
    clear KS
    obtain ⟨j, A, cp, rs, rfl, K⟩ := hrel
    have hjn := K.le
    by_cases hlt : j < nn
    · obtain ⟨k, hk⟩ := K.four
      have hnn := HNN.out
      obtain ⟨g2, rfl, hgA, hgB, hcl⟩ := HA2.out (by omega)
      have hq := HQ.out
      have hul := HVL.out
      obtain ⟨u0, h0⟩ : ∃ u, V.vals[j]? = some u := ⟨_, List.getElem?_eq_getElem (by omega)⟩
      obtain ⟨j1, hj1⟩ : ∃ j1, j + 1 = j1 := ⟨_, rfl⟩
      obtain ⟨j2, hj2⟩ : ∃ j2, j + 2 = j2 := ⟨_, rfl⟩
      obtain ⟨j3, hj3⟩ : ∃ j3, j + 3 = j3 := ⟨_, rfl⟩
      obtain ⟨u1, h1⟩ : ∃ u, V.vals[j1]? = some u := ⟨_, List.getElem?_eq_getElem (by omega)⟩
      obtain ⟨u2, h2⟩ : ∃ u, V.vals[j2]? = some u := ⟨_, List.getElem?_eq_getElem (by omega)⟩
      obtain ⟨u3, h3⟩ : ∃ u, V.vals[j3]? = some u := ⟨_, List.getElem?_eq_getElem (by omega)⟩
      have hst := Lib.hid (show Mf.runsOf (V.vals.take (j + 4)) = rs ++ [⟨u0, u1, u2, u3⟩] by
        rw [K.runs]
        subst hk hj1 hj2 hj3
        exact Mf.runsOf_step h0 h1 h2 h3)
      have hbl : ∀ i, wr.cell? ⟨g2, i, none⟩ = w3.cell? ⟨g2, i, none⟩ := fun i => K.below.cell (p := ⟨g2, i, none⟩) (by show g2 < q; omega)
      have hrl : rs.length ≤ 96 := by
        obtain ⟨k, hk⟩ := K.four
        rw [K.runs, Mf.runsOf_len k _ (by rw [List.length_take]; omega)]
        omega
      obtain ⟨w0, y1, y2, y3, y4, y5, hvs, hmb⟩ := K.man
      have l6 : wr.cell? ⟨q, 6, none⟩ = some (.slice A rs.length cp) := hmb.cell 6
      have f6 : wr.frozen? ⟨q, 6, none⟩ = false := hmb.frozen 6
      have l0 := (hbl j).trans (hcl j u0 h0)
      have l1 := (hbl j1).trans (hcl j1 u1 h1)
      have l2 := (hbl j2).trans (hcl j2 u2 h2)
      have l3 := (hbl j3).trans (hcl j3 u3 h3)
      have S0 : wr.drew.frozen? ⟨q, 6, none⟩ = false ∧ wr.drew.cell? ⟨g2, j, none⟩ = some (.int .i64 (u0 : Int)) ∧ wr.drew.cell? ⟨g2, j1, none⟩ = some (.int .i64 (u1 : Int)) ∧ wr.drew.cell? ⟨g2, j2, none⟩ = some (.int .i64 (u2 : Int)) ∧ wr.drew.cell? ⟨g2, j3, none⟩ = some (.int .i64 (u3 : Int)) := ⟨f6, l0, l1, l2, l3⟩
      have hqw : q < wr.heap.size := K.size
      have SA := fun o => five_alloc (W := wr.drew) hqw o S0
      have A6 : ∀ o : Obj, (wr.alloc o).cell? ⟨q, 6, none⟩ = some (.slice A rs.length cp) := fun o => cell_alloc o l6
      have hgq : g2 ≠ q := by omega
      have HO := Lib.hid (show ((wr.drew).alloc (.cells #[.int .i64 (u0 : Int), .int .i64 (u1 : Int), .int .i64 (u2 : Int), .int .i64 (u3 : Int)] 42)).ownsRow (q + 1) 42 4 (.slice A rs.length cp) rs.length (cellsOf rs) from World.ownsRow.alloc (show (wr.drew).ownsRow _ _ _ _ _ _ from K.own) _)
      have hz4 := K.size
      have hbase : q + 1 ≤ ((wr.drew).alloc (.cells #[.int .i64 (u0 : Int), .int .i64 (u1 : Int), .int .i64 (u2 : Int), .int .i64 (u3 : Int)] 42)).heap.size := by
        rw [World.size_alloc]
        exact Nat.le_succ_of_le hz4
      have hb1 : rs.length + 1 ≤ maxLen := by unfold maxLen; omega
      have hb2 : (rs.length + 1) * 32 ≤ 140737488355328 := by omega
      have nq : some q ≠ (Value.slice A rs.length cp).ownBlock := fun e => by have := (HO.out.lt _ e.symm).1; omega
      have ng : some g2 ≠ (Value.slice A rs.length cp).ownBlock := fun e => by have := (HO.out.lt _ e.symm).1; omega
      have b1 : (j : Int) < (nn : Int) := by omega
      have b2 : (j1 : Int) < (nn : Int) := by omega
      have b3 : (j2 : Int) < (nn : Int) := by omega
      have b4 : (j3 : Int) < (nn : Int) := by omega
      have b5 : j1 < nn := by omega
      have b6 : j2 < nn := by omega
      have b7 : j3 < nn := by omega
      have wr1 : IntKind.i64.wrap ((j : Int) + 1) = (j1 : Int) := by unfold IntKind.wrap; simp [IntKind.bits, IntKind.signed]; omega
      have wr2 : IntKind.i64.wrap ((j : Int) + 2) = (j2 : Int) := by unfold IntKind.wrap; simp [IntKind.bits, IntKind.signed]; omega
      have wr3 : IntKind.i64.wrap ((j : Int) + 3) = (j3 : Int) := by unfold IntKind.wrap; simp [IntKind.bits, IntKind.signed]; omega
      have HK := Lib.hid hk
      have HCL := Lib.hid (And.intro hul (And.intro hbl (And.intro hcl (And.intro h0 (And.intro h1 (And.intro h2 h3))))))
      clear hj1 hj2 hj3 hk hul hbl hcl h0 h1 h2 h3 hq hnn
      go_wp2_with fail
      rw [show Op.load 29 (Operand.tmp 96) = Mf.o97 from rfl]
      go_region_held_law (fun W' => W'.frozen? ⟨q, 6, none⟩ = false ∧ W'.cell? ⟨g2, j, none⟩ = some (.int .i64 (u0 : Int)) ∧ W'.cell? ⟨g2, j1, none⟩ = some (.int .i64 (u1 : Int)) ∧ W'.cell? ⟨g2, j2, none⟩ = some (.int .i64 (u2 : Int)) ∧ W'.cell? ⟨g2, j3, none⟩ = some (.int .i64 (u3 : Int)))
        (first
          | with_reducible assumption
          | exact SA _
          | exact five_grown (by simp; omega) hgrow5 nq ng (SA _)
          | exact five_set hgq (by assumption))
        (first
          | (refine step_append_lies _ rfl (.tmp 97) (.tmp 118) 29 rfl (q + 1) 42 i0 (.agg #[.int .i64 0, .int .i64 0, .int .i64 0, .int .i64 0]) 4 32 Tryz.underlying29 hi hz0 hz1 hz2 rfl (by decide) (.slice A rs.length cp) rs.length (cellsOf rs) (by simp [Act.eval]) HO.out ⟨wr.heap.size, 0, none⟩ 1 1 (cellsOf [⟨u0, u1, u2, u3⟩]) (by simp [Act.eval]) rfl (run_cells wr.drew ⟨u0, u1, u2, u3⟩) (cellsOf_one _) (by omega) hb1 hb2 hbase _ rfl ?_; intro g' cp' w5 hown5 hgrow5 hat5 hlt5; have c65 : w5.cell? ⟨q, 6, none⟩ = some (.slice A rs.length cp) := cell_grown hgrow5 nq (A6 _)))
      all_goals (try go_wp2_with fail)
      all_goals
        refine ⟨⟨j + 4, some ⟨g', 0, none⟩, cp', rs ++ [⟨u0, u1, u2, u3⟩], by go_num, K.next (Below.drew_ ((Below.refl wr.heap.size wr).alloc (Nat.le_refl _) _)) hgrow5 nq (fun b hb => by have := (HO.out.lt b hb).1; omega) hown5 hst.out ?_⟩, ?_⟩
        · have := HK.out
          have := HNN.out
          omega
        · simp only [intOf]; omega
    · obtain rfl : j = nn := by omega
      obtain ⟨y0, y1, y2, y3, y4, y5, hvs, hmb⟩ := K.man
      simp only [List.cons.injEq, and_true] at hvs
      obtain ⟨rfl, rfl, rfl, rfl, rfl, rfl⟩ := hvs
      have hrs : rs = Mf.runsOf V.vals := by
        rw [K.runs, List.take_of_length_le (by rw [HVL.out, HNN.out]; exact Nat.le_refl _)]
      have hfit := Mf.fit_man (h := [v0, v1, v2, v3, v4, v5]) (v := V.vals) (fun x hx => HV60.out x (by rw [HTV.out]; exact List.mem_append_left _ hx)) HV6.out (by rw [Mf.runsOf_len n V.vals HVL.out]; omega)
      have hE := HE.out
      obtain ⟨M, hM⟩ : ∃ M, Mf.manOf [v0, v1, v2, v3, v4, v5] V.vals = M := ⟨_, rfl⟩
      rw [hM] at hE hfit
      obtain ⟨n', hn'⟩ : ∃ n', Mf.check M = n' := ⟨_, rfl⟩
      rw [hn'] at hE
      have hMr : M.runs = rs := by rw [← hM]; exact hrs.symm
      have s0 : wr.cell? ⟨q, 0, none⟩ = some (.int .i64 M.w) := by rw [← hM]; exact hmb.cell 0
      have s1 : wr.cell? ⟨q, 1, none⟩ = some (.int .i64 M.c) := by rw [← hM]; exact hmb.cell 1
      have s2 : wr.cell? ⟨q, 2, none⟩ = some (.int .i64 M.m) := by rw [← hM]; exact hmb.cell 2
      have s3 : wr.cell? ⟨q, 3, none⟩ = some (.int .i64 M.seq) := by rw [← hM]; exact hmb.cell 3
      have s4 : wr.cell? ⟨q, 4, none⟩ = some (.int .i64 M.next) := by rw [← hM]; exact hmb.cell 4
      have s5 : wr.cell? ⟨q, 5, none⟩ = some (.int .i64 M.jr) := by rw [← hM]; exact hmb.cell 5
      have s6 : wr.cell? ⟨q, 6, none⟩ = some (.slice A M.runs.length cp) := by rw [hMr]; exact hmb.cell 6
      have hRs : Rs wr wr.heap.size A M.runs := by rw [hMr]; exact K.own.rs
      have hRu : Runs wr (q + 1) A cp M.runs := by rw [hMr]; exact K.own
      have hwq : w.heap.size < q := by rw [← HQ.out]; exact b3.lt
      have KR : Blk wr w.heap.size 31 zeroMan := (K.below.block _ hwq).trans b3
      have BK : Below w.heap.size w wr := B3.trans (K.below.mono (Nat.le_of_lt hwq))
      have qlt : q < wr.heap.size := K.size
      have FIT := Lib.hid hfit
      have HE2 := Lib.hid hE
      have HN' := Lib.hid hn'
      clear hE hM hMr hrs hn' hfit hlt hmb K
      go_wp2_with fail
      refine (refCheck_any M A cp wr hRs FIT.out n' HN'.out).mono ?_
      rintro e X6 ⟨rfl, hB6⟩
      have hw0 : w.heap.size < wr.heap.size := by omega
      have KR6 : Blk X6 w.heap.size 31 zeroMan := (hB6.block _ hw0).trans KR
      have KU6 : Runs X6 (q + 1) A cp M.runs := own_keep hRu (Nat.le_refl _) fun b _ hb => hB6.block b hb
      have BK6 := BK.trans (hB6.mono BK.size)
      have w06 := (hB6.cell (p := ⟨q, 0, none⟩) qlt).trans s0
      have w16 := (hB6.cell (p := ⟨q, 1, none⟩) qlt).trans s1
      have w26 := (hB6.cell (p := ⟨q, 2, none⟩) qlt).trans s2
      have w36 := (hB6.cell (p := ⟨q, 3, none⟩) qlt).trans s3
      have w46 := (hB6.cell (p := ⟨q, 4, none⟩) qlt).trans s4
      have w56 := (hB6.cell (p := ⟨q, 5, none⟩) qlt).trans s5
      have w66 := (hB6.cell (p := ⟨q, 6, none⟩) qlt).trans s6
      clear s0 s1 s2 s3 s4 s5 s6 hB6 KR hRu hRs
      obtain ⟨x0, x1, x2, x3, x4, x5, x6⟩ := zero_seven KR6
      obtain ⟨f0, f1, f2, f3, f4, f5, f6⟩ := blk_free7 KR6
      by_cases hn0 : n' = 0
      · have b1 : ((n' : Int) != 0) = false := by rw [bne_eq_false_iff_eq]; omega
        have hD1 : D = ⟨0, M⟩ := by rw [HE2.out, if_neg (not_not_intro hn0)]
        subst hD1
        clear hn0
        go_wp2_with fail
        refine bodyPost_ret (v := .tuple #[.agg #[.int .i64 M.w, .int .i64 M.c, .int .i64 M.m, .int .i64 M.seq, .int .i64 M.next, .int .i64 M.jr, .slice A M.runs.length cp], .int .i64 0]) (by simp [results, Tryz.results41, go_sem, x0, x1, x2, x3, x4, x5, x6]) rfl ⟨⟨A, cp, rfl, ?_⟩, BK6.trans (man7_below (Nat.le_refl _) _ _ _ _ _ _ _)⟩
        refine World.ownsRow.lower (own_keep KU6 (Nat.le_refl _) fun b hb _ => ?_) (show w.heap.size ≤ q + 1 by omega)
        exact man7_heap (show b ≠ w.heap.size by omega) _ _ _ _ _ _ _
      · have b1 : ((n' : Int) != 0) = true := by rw [bne_iff_ne]; omega
        have hD1 : D = ⟨n', Mf.zero⟩ := by rw [HE2.out, if_pos hn0]
        subst hD1
        clear hn0
        go_wp2_with fail
        refine bodyPost_ret (v := .tuple #[.agg #[.int .i64 0, .int .i64 0, .int .i64 0, .int .i64 0, .int .i64 0, .int .i64 0, .slice none 0 0], .int .i64 n']) (by simp [results, Tryz.results41, go_sem, x0, x1, x2, x3, x4, x5, x6]) rfl (Mf.zero_ret (c := n') ((BK6).trans (man7_below (Nat.le_refl _) _ _ _ _ _ _ _)))
end Go.Proofs.YtdhnkcfmjibibaaGreatDoor
/- The law's helper other: the bytes of a manifest that goes, and that manifest. Conditions: each theorem's own hypotheses. -/
namespace Go.Proofs.YtdhnkcfmjibibaaGreatDoor
open Go.RowKit Go.Maps
set_option linter.unusedVariables false

theorem Rs.heap {W W' : World} {B B' : Nat} {A : Option Addr} {rs : List Run} (H : Rs W B A rs) (h : ∀ g off, A = some ⟨g, off, none⟩ → W'.heap[g]? = W.heap[g]? ∧ g < B') : Rs W' B' A rs := by
  intro h0
  obtain ⟨b, off, hA, hb, hc⟩ := H h0
  obtain ⟨h1, h2⟩ := h b off hA
  refine ⟨b, off, hA, h2, fun j r hj => ?_⟩
  obtain ⟨c0, c1, c2, c3⟩ := hc j r hj
  exact ⟨(World.cell?_of_block (a := ⟨b, _, none⟩) h1).trans c0, (World.cell?_of_block (a := ⟨b, _, none⟩) h1).trans c1, (World.cell?_of_block (a := ⟨b, _, none⟩) h1).trans c2, (World.cell?_of_block (a := ⟨b, _, none⟩) h1).trans c3⟩

theorem man7_size (W : World) (b : Nat) (v0 v1 v2 v3 v4 v5 v6 : Value) : (man7 W b v0 v1 v2 v3 v4 v5 v6).heap.size = W.heap.size := by
  unfold man7
  iterate 7 rw [World.size_setCell]
theorem Rs.drew_ {W : World} {B : Nat} {A : Option Addr} {rs : List Run} (H : Rs W B A rs) : Rs W.drew B A rs := H.keep fun _ _ => rfl
theorem Rs.over7 {w1 W' : World} {b g : Nat} {rs : List Run} {v0 v1 v2 v3 v4 v5 v6 : Value} (hW : man7 w1 b v0 v1 v2 v3 v4 v5 v6 = W') (H : Rs w1 w1.heap.size (some ⟨g, 0, none⟩) rs) (hne : g ≠ b) (hlt : g < w1.heap.size) :
    Rs W' W'.heap.size (some ⟨g, 0, none⟩) rs := by
  refine Rs.heap H fun g' off e => ?_
  injection e with e
  injection e with e1 _ _
  subst e1
  subst hW
  rw [man7_size]
  exact ⟨man7_heap hne v0 v1 v2 v3 v4 v5 v6, hlt⟩

theorem Rs.drew7 {W : World} {A : Option Addr} {rs : List Run} (H : Rs W W.heap.size A rs) : Rs W.drew W.drew.heap.size A rs := Rs.drew_ H

/-- The other manifest. -/
def Mf.oth : Man := ⟨64, 2, 1, 9, 9, 3, [⟨1, 0, 4, 2⟩, ⟨2, 4, 9, 1⟩]⟩
theorem Mf.oth_check : Mf.check Mf.oth = 0 := by
  unfold Mf.check
  rw [if_neg (by decide), if_pos]
  refine ⟨by unfold Mf.Front Mf.oth; decide, fun j r hj hr => ?_⟩
  match j, hj with
  | 0, _ =>
    obtain rfl := Option.some.inj hr
    refine ⟨by decide, by decide, by decide, ?_, ?_, ?_⟩ <;> simp [Mf.last, Mf.oth]
  | 1, _ =>
    obtain rfl := Option.some.inj hr
    refine ⟨by decide, by decide, by decide, ?_, ?_, ?_⟩ <;> simp [Mf.last, Mf.oth]
theorem Mf.oth_fit : Mf.Fit Mf.oth := ⟨by decide, by decide, by decide, by decide⟩

set_option maxRecDepth 100000 in
set_option maxHeartbeats 2000000 in
theorem other_any (w : World) :
    Calls Tryz.prog 47 #[] w fun e w' => (∃ (S : ByteArray) (A : Option Addr) (cap : Nat), e = .returned (.tuple #[.string S, manV Mf.oth A cap]) ∧ S.data.toList = Sl.frame 3 (Mf.body Mf.oth) ∧ S.size ≤ 1044 ∧ Rs w' w'.heap.size A Mf.oth.runs) ∧ Below w.heap.size w w' := by
  go_enter Tryz.func47, Tryz.ntmps47
  go_wp2_with fail
  obtain ⟨W, hW⟩ : ∃ W, (((w.alloc (.cells zeroMan 31)).alloc (.cells (manCells Mf.oth (some ⟨w.heap.size + 1 + 1, 0, none⟩) 2) 31)).alloc (.cells #[.int .i64 1, .int .i64 0, .int .i64 4, .int .i64 2, .int .i64 2, .int .i64 4, .int .i64 9, .int .i64 1] 42)) = W := ⟨_, rfl⟩
  have hz : W.heap.size = w.heap.size + 3 := by rw [← hW, World.size_alloc, World.size_alloc, World.size_alloc]
  have b0 : Blk W w.heap.size 31 zeroMan := by rw [← hW]; exact ((Blk.new w _ _).alloc _).alloc _
  have b1 : Blk W (w.heap.size + 1) 31 (manCells Mf.oth (some ⟨w.heap.size + 1 + 1, 0, none⟩) 2) := by
    rw [← hW]
    refine Blk.alloc ?_ _
    have := Blk.new (w.alloc (.cells zeroMan 31)) 31 (manCells Mf.oth (some ⟨w.heap.size + 1 + 1, 0, none⟩) 2)
    rwa [World.size_alloc] at this
  have b2 : Blk W (w.heap.size + 1 + 1) 42 #[.int .i64 1, .int .i64 0, .int .i64 4, .int .i64 2, .int .i64 2, .int .i64 4, .int .i64 9, .int .i64 1] := by
    rw [← hW]
    have := Blk.new ((w.alloc (.cells zeroMan 31)).alloc (.cells (manCells Mf.oth (some ⟨w.heap.size + 1 + 1, 0, none⟩) 2) 31)) 42 #[.int .i64 1, .int .i64 0, .int .i64 4, .int .i64 2, .int .i64 2, .int .i64 4, .int .i64 9, .int .i64 1]
    rwa [World.size_alloc, World.size_alloc] at this
  have BW : Below w.heap.size w W := by rw [← hW]; exact (((Below.refl _ _).alloc (Nat.le_refl _) _).alloc (by simp) _).alloc (by simp; omega) _
  have hrs : Rs W W.heap.size (some ⟨w.heap.size + 1 + 1, 0, none⟩) Mf.oth.runs := Rs.of_cells (by omega) fun j u hu => by
    have := b2.cell j
    rw [Nat.zero_add, this, List.getElem?_toArray]
    exact hu
  obtain ⟨S, hS, hSd, hSs⟩ := str_of (Sl.frame 3 (Mf.body Mf.oth))
  have hlen := Mf.body_len (Mf.good Mf.oth_check)
  have hen : encV Mf.oth 0 = .tuple #[.string S, .int .i64 0] := by rw [← hS]; rfl
  have henc := refEncode_any Mf.oth (some ⟨w.heap.size + 1 + 1, 0, none⟩) 2 W hrs Mf.oth_fit 0 Mf.oth_check
  rw [hen] at henc
  have HEN := Lib.hid henc
  have HW := Lib.hid hW
  have HZ := Lib.hid hz
  have HSD := Lib.hid hSd
  have hSl : S.size ≤ 1044 := by rw [hSs, Sl.frame_len]; omega
  clear henc hW hz hS hSd hSs hen hlen
  show Calls Tryz.prog 31 #[manV Mf.oth (some ⟨w.heap.size + 1 + 1, 0, none⟩) 2] (((w.alloc (.cells zeroMan 31)).alloc (.cells (manCells Mf.oth (some ⟨w.heap.size + 1 + 1, 0, none⟩) 2) 31)).alloc (.cells #[.int .i64 1, .int .i64 0, .int .i64 4, .int .i64 2, .int .i64 2, .int .i64 4, .int .i64 9, .int .i64 1] 42)) _
  rw [HW.out]
  refine HEN.out.mono ?_
  rintro e w1 ⟨rfl, hB⟩
  have c0 := (hB.block _ b0.lt).trans b0
  have c1 := (hB.block _ b1.lt).trans b1
  have c2 : Rs w1 w1.heap.size (some ⟨w.heap.size + 1 + 1, 0, none⟩) Mf.oth.runs := (hrs.below hB).more hB.size
  have B1 := BW.trans (hB.mono BW.size)
  obtain ⟨x0, x1, x2, x3, x4, x5, x6⟩ := zero_seven c0
  obtain ⟨f0, f1, f2, f3, f4, f5, f6⟩ := blk_free7 c0
  have t0 : w1.cell? ⟨w.heap.size + 1, 0, none⟩ = some (.int .i64 64) := Blk.cell c1 0
  have t1 : w1.cell? ⟨w.heap.size + 1, 1, none⟩ = some (.int .i64 2) := Blk.cell c1 1
  have t2 : w1.cell? ⟨w.heap.size + 1, 2, none⟩ = some (.int .i64 1) := Blk.cell c1 2
  have t3 : w1.cell? ⟨w.heap.size + 1, 3, none⟩ = some (.int .i64 9) := Blk.cell c1 3
  have t4 : w1.cell? ⟨w.heap.size + 1, 4, none⟩ = some (.int .i64 9) := Blk.cell c1 4
  have t5 : w1.cell? ⟨w.heap.size + 1, 5, none⟩ = some (.int .i64 3) := Blk.cell c1 5
  have t6 : w1.cell? ⟨w.heap.size + 1, 6, none⟩ = some (.slice (some ⟨w.heap.size + 1 + 1, 0, none⟩) 2 2) := Blk.cell c1 6
  have hlt1 : w.heap.size + 3 ≤ w1.heap.size := by have := hB.size; have := HZ.out; omega
  obtain ⟨W7, hW7⟩ : ∃ W7, (man7 w1 w.heap.size (.int .i64 64) (.int .i64 2) (.int .i64 1) (.int .i64 9) (.int .i64 9) (.int .i64 3) (.slice (some ⟨w.heap.size + 1 + 1, 0, none⟩) 2 2)) = W7 := ⟨_, rfl⟩
  have hR7 := Lib.hid (Rs.drew7 (Rs.over7 hW7 c2 (by omega) (by omega)))
  have HW7 := Lib.hid hW7
  clear hW7
  clear b0 b1 b2 c1 hB
  go_wp2_with fail
  go_region
  all_goals (try go_wp2_with fail)
  all_goals
    refine bodyPost_ret (v := .tuple #[.string S, .agg #[.int .i64 64, .int .i64 2, .int .i64 1, .int .i64 9, .int .i64 9, .int .i64 3, .slice (some ⟨w.heap.size + 1 + 1, 0, none⟩) 2 2]]) (by simp [results, Tryz.results47, go_sem, x0, x1, x2, x3, x4, x5, x6]) rfl ⟨⟨S, _, 2, rfl, HSD.out, hSl, ?_⟩, Below.drew_ (B1.trans (man7_below (Nat.le_refl _) _ _ _ _ _ _ _))⟩
    have hw7 := HW7.out
    unfold man7 at hw7
    rw [hw7]
    exact hR7.out
end Go.Proofs.YtdhnkcfmjibibaaGreatDoor
/- Several manifests in memory, one of them written over. Conditions: each theorem's own hypotheses. -/
namespace Go.Proofs.YtdhnkcfmjibibaaGreatDoor
open Go.RowKit Go.Maps
set_option linter.unusedVariables false

/-- A manifest in a block, its list anywhere. -/
structure It where
  b : Nat
  man : Man
  list : Option Addr
  cap : Nat
def Held (W : World) (x : It) : Prop := Blk W x.b 31 (manCells x.man x.list x.cap) ∧ Rs W W.heap.size x.list x.man.runs
/-- All of these. -/
def Sit (W : World) (l : List It) : Prop := ∀ x ∈ l, Held W x
theorem Sit.nil (W : World) : Sit W [] := fun x hx => by cases hx
theorem Held.later {W W' : World} {x : It} (h : Held W x) (hB : Below W.heap.size W W') : Held W' x := ⟨(hB.block _ h.1.lt).trans h.1, (h.2.below hB).more hB.size⟩
theorem Sit.later {W W' : World} {l : List It} (h : Sit W l) (hB : Below W.heap.size W W') : Sit W' l := fun x hx => (h x hx).later hB
theorem Sit.add {W W' : World} {l : List It} (h : Sit W l) (hB : Below W.heap.size W W') (M : Man) (A : Option Addr) (cap : Nat) (hr : Rs W' W'.heap.size A M.runs) :
    Sit (W'.alloc (.cells (manCells M A cap) 31)) (⟨W'.heap.size, M, A, cap⟩ :: l) := fun x hx => by
  rcases List.mem_cons.1 hx with rfl | hx
  · exact ⟨Blk.new _ _ _, (hr.below ((Below.refl _ _).alloc (Nat.le_refl _) _)).more (by simp)⟩
  · exact ((h x hx).later hB).later ((Below.refl _ _).alloc (Nat.le_refl _) _)
/-- Nothing of it lies in the blocks from lo to hi or from top on. -/
def Far (lo hi top : Nat) (x : It) : Prop := (x.b < lo ∨ hi ≤ x.b) ∧ x.b < top ∧ ∀ g off, x.list = some ⟨g, off, none⟩ → (g < lo ∨ hi ≤ g) ∧ g < top
/-- May the block be written? -/
def Mine (lo hi top g : Nat) : Prop := (lo ≤ g ∧ g < hi) ∨ top ≤ g
theorem Sit.keep {W W' : World} {l : List It} {lo hi top : Nat} (h : Sit W l) (hf : ∀ x ∈ l, Far lo hi top x) (hs : W.heap.size ≤ W'.heap.size) (hk : ∀ k, k < W.heap.size → ¬ Mine lo hi top k → W'.heap[k]? = W.heap[k]?) : Sit W' l := fun x hx => by
  obtain ⟨h1, h2⟩ := h x hx
  obtain ⟨f1, f2, f3⟩ := hf x hx
  refine ⟨(hk _ h1.lt (by unfold Mine; omega)).trans h1, fun h0 => ?_⟩
  obtain ⟨b, off, hA, hb, hc⟩ := h2 h0
  obtain ⟨f4, f5⟩ := f3 b off hA
  have hk2 := hk b hb (by unfold Mine; omega)
  refine ⟨b, off, hA, by omega, fun j r hj => ?_⟩
  obtain ⟨c0, c1, c2, c3⟩ := hc j r hj
  exact ⟨(World.cell?_of_block (a := ⟨b, _, none⟩) hk2).trans c0, (World.cell?_of_block (a := ⟨b, _, none⟩) hk2).trans c1, (World.cell?_of_block (a := ⟨b, _, none⟩) hk2).trans c2, (World.cell?_of_block (a := ⟨b, _, none⟩) hk2).trans c3⟩
theorem Sit.set_ {W : World} {l : List It} {lo hi top : Nat} (h : Sit W l) (hf : ∀ x ∈ l, Far lo hi top x) (p : Addr) (u : Value) (hp : Mine lo hi top p.block) : Sit (W.setCell p u) l :=
  h.keep hf (by rw [World.size_setCell]; exact Nat.le_refl _) fun k _ hk => Below.heap_setCell W p u k fun e => hk (e ▸ hp)
theorem Sit.grown {W W' : World} {l : List It} {lo hi top : Nat} {row : Option Nat} (h : Sit W l) (hf : ∀ x ∈ l, Far lo hi top x) (hg : W.grownBy W' row) (hr : ∀ g, row = some g → Mine lo hi top g) : Sit W' l :=
  h.keep hf hg.size fun k h1 hk => hg.block k h1 fun e => hk (hr k e.symm)
theorem Sit.seven {W : World} {l : List It} (h : Sit W l) {b : Nat} {M : Man} {A : Option Addr} {cap : Nat} (hx : It.mk b M A cap ∈ l) :
    W.cell? ⟨b, 0, none⟩ = some (.int .i64 M.w) ∧ W.cell? ⟨b, 1, none⟩ = some (.int .i64 M.c) ∧ W.cell? ⟨b, 2, none⟩ = some (.int .i64 M.m) ∧ W.cell? ⟨b, 3, none⟩ = some (.int .i64 M.seq) ∧ W.cell? ⟨b, 4, none⟩ = some (.int .i64 M.next) ∧ W.cell? ⟨b, 5, none⟩ = some (.int .i64 M.jr) ∧ W.cell? ⟨b, 6, none⟩ = some (.slice A M.runs.length cap) := by
  have h1 : Blk W b 31 (manCells M A cap) := (h _ hx).1
  exact ⟨h1.cell 0, h1.cell 1, h1.cell 2, h1.cell 3, h1.cell 4, h1.cell 5, h1.cell 6⟩
theorem Sit.rs {W : World} {l : List It} (h : Sit W l) {b : Nat} {M : Man} {A : Option Addr} {cap : Nat} (hx : It.mk b M A cap ∈ l) : Rs W W.heap.size A M.runs := (h _ hx).2

/-- A slice of runs of the call's own, whatever they are. -/
def Own4 (W : World) (lo hi top n : Nat) (v : Value) : Prop := (∃ xs, W.ownsRow lo 42 4 v n xs) ∧ ∀ g, v.ownBlock = some g → Mine lo hi top g
theorem Own4.keep {W W' : World} {lo hi top n : Nat} {v : Value} (h : Own4 W lo hi top n v) (hk : ∀ k, lo ≤ k → k < W.heap.size → W'.heap[k]? = W.heap[k]?) : Own4 W' lo hi top n v := by
  obtain ⟨⟨xs, h1⟩, h2⟩ := h
  exact ⟨⟨xs, own_keep h1 (Nat.le_refl _) hk⟩, h2⟩
/-- One of them: its four cells are there and may be written. -/
theorem Own4.open_ {W : World} {lo hi top n cap : Nat} {A : Option Addr} (h : Own4 W lo hi top n (.slice A n cap)) (h0 : 0 < n) : ∃ g cur, A = some ⟨g, 0, none⟩ ∧ Mine lo hi top g ∧ Blk W g 42 cur ∧ lo ≤ g ∧ n ≤ cap ∧ cap ≤ maxLen ∧ cur.size = cap * 4 := by
  obtain ⟨⟨xs, h1, h2⟩, h3⟩ := h
  rcases h2 with ⟨_, h2⟩ | ⟨g, c, cur, hv, hg, hh, hc1, hc2, hc3, _⟩
  · omega
  · injection hv with e1 _ e2
    subst e1 e2
    exact ⟨g, cur, rfl, h3 g rfl, hh, hg, hc1, hc2, hc3⟩
theorem Own4.shut {W : World} {lo hi top n cap g : Nat} {cur : Array Value} (hg : Mine lo hi top g) (hb : Blk W g 42 cur) (hl : lo ≤ g) (h1 : n ≤ cap) (h2 : cap ≤ maxLen) (h3 : cur.size = cap * 4) : Own4 W lo hi top n (.slice (some ⟨g, 0, none⟩) n cap) := by
  refine ⟨⟨cur.toList.take (n * 4), ?_, Or.inr ⟨g, cap, cur, rfl, hl, hb, h1, h2, h3, rfl⟩⟩, fun g' e => ?_⟩
  · rw [List.length_take, Array.length_toList, h3]
    omega
  · injection e with e
    exact e ▸ hg
theorem Runs.own4 {W : World} {lo cap : Nat} {A : Option Addr} {rs : List Run} (h : Runs W lo A cap rs) (top : Nat) : Own4 W lo W.heap.size top rs.length (.slice A rs.length cap) :=
  ⟨⟨_, h⟩, fun g e => Or.inl (World.ownsRow.lt h g e)⟩
theorem Runs.far {W : World} {base cap : Nat} {A : Option Addr} {rs : List Run} (h : Runs W base A cap rs) {lo hi top b : Nat} {M : Man} (h1 : hi ≤ base) (h2 : W.heap.size ≤ top) (hb : hi ≤ b) (hbt : b < top) : Far lo hi top ⟨b, M, A, cap⟩ := by
  refine ⟨Or.inr hb, hbt, fun g off e => ?_⟩
  have e' : A = some ⟨g, off, none⟩ := e
  have := World.ownsRow.lt h g (by rw [e']; rfl)
  exact ⟨Or.inr (by omega), by omega⟩
theorem Mf.decP_len (p : List UInt8) : (Mf.decP p).man.runs.length ≤ 24 := by
  by_cases h1 : (Mf.rdN p).code = 0
  rotate_left
  · rw [Mf.decP_bad1 h1]; exact Nat.zero_le _
  obtain ⟨n, hn, _⟩ := Mf.rd_facts h1
  obtain ⟨X, hX⟩ : ∃ X, Mf.take p 1152921504606846976 0 (Mf.rdN p).at_ (4 * n) = X := ⟨_, rfl⟩
  by_cases h2 : X.code = 0
  rotate_left
  · rw [Mf.decP_bad2 h1 hn (Nat.le_refl n) (by rw [hX]) h2]; exact Nat.zero_le _
  rw [Mf.decP_end h1 hn hX h2]
  obtain ⟨M, hM⟩ : ∃ M, Mf.manOf (Mf.rdH p).vals X.vals = M := ⟨_, rfl⟩
  rw [hM]
  by_cases h3 : X.at_ = p.length
  · rw [if_neg (not_not_intro h3)]
    by_cases h4 : Mf.check M = 0
    · rw [if_neg (not_not_intro h4)]; exact (Mf.good h4).len
    · rw [if_pos h4]; exact Nat.zero_le _
  · rw [if_pos h3]; exact Nat.zero_le _
theorem Mf.decode_len (l : List UInt8) : (Mf.decode l).man.runs.length ≤ 24 := by
  unfold Mf.decode
  by_cases h1 : (Sl.parse l).code = 0
  · rw [if_neg (not_not_intro h1)]
    by_cases h2 : (Sl.parse l).len = l.length
    · rw [if_neg (not_not_intro h2)]
      by_cases h3 : (Sl.parse l).kind = 3
      · rw [if_neg (not_not_intro h3)]; exact Mf.decP_len _
      · rw [if_pos h3]; exact Nat.zero_le _
    · rw [if_pos h2]; exact Nat.zero_le _
  · rw [if_pos h1]; exact Nat.zero_le _
end Go.Proofs.YtdhnkcfmjibibaaGreatDoor
