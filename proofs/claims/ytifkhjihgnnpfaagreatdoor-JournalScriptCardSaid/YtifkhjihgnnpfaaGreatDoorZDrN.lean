/- Disks in memory (the document's): what a crash leaves of a file. Conditions: each theorem's own hypotheses. -/
import Derived.Test.YtifkhjihgnnpfaaGreatDoorZDrL
import Derived.Test.YtifkhjihgnnpfaaGreatDoorDkDD
namespace Go.Proofs.YtifkhjihgnnpfaaGreatDoor
open Go.RowKit Go.Maps Go.Sort
set_option linter.unusedVariables false

theorem Dr.leave_data (c : Dk.Cut) (f : Dk.F) (kk : Nat) (h : Dk.kept c f = kk) : (Dk.leave c f).data = if 0 < kk then Dk.turn (f.data.take (f.sure + kk)) c.spoil else f.data.take (f.sure + kk) := by
  subst h; rfl
set_option maxRecDepth 100000 in
set_option maxHeartbeats 4000000 in
theorem Dr.left_any (W : World) (f : Dk.F) (c : Dk.Cut) {nb db : ByteArray} (hdb : db.data.toList = f.data) (hfs : f.sure ≤ f.data.length) (hfl : f.data.length ≤ 268435456) :
    Calls Tryz.prog 60 #[.agg #[.string nb, .string db, .int .i64 f.sure], .int .i64 c.keep, .int .u8 c.spoil.toNat] W fun e W' => ∃ xb : ByteArray, e = .returned (.agg #[.string nb, .string xb, .int .i64 xb.size]) ∧ xb.data.toList = (Dk.leave c f).data ∧ Below W.heap.size W W' := by
  have hds : db.size = f.data.length := by rw [Tx.size, hdb]
  obtain ⟨sure, hsure⟩ : ∃ z, f.sure = z := ⟨_, rfl⟩
  rw [hsure] at hfs ⊢
  obtain ⟨d, hd⟩ : ∃ d, d = db.size - sure := ⟨_, rfl⟩
  have w1 : IntKind.i64.wrap ((db.size : Int) - (sure : Int)) = (d : Int) := (IntWalk.i64_in _ (by omega)).trans (by omega)
  have hkept : Dk.kept c f = min (max c.keep 0).toNat d := by unfold Dk.kept; rw [hsure, hd, hds]
  obtain ⟨keep, hkeep⟩ : ∃ z, c.keep = z := ⟨_, rfl⟩
  obtain ⟨sp, hsp⟩ : ∃ z, c.spoil = z := ⟨_, rfl⟩
  have hleave := Dr.leave_data c f
  rw [hsure, hsp] at hleave
  rw [hkept] at hleave
  rw [hkeep] at hleave ⊢
  rw [hsp]
  have HDB := Lib.hid hdb
  have HL := Lib.hid hleave
  have hdl : d ≤ db.size := by omega
  have hsl : sure + d = db.size := by omega
  have hds2 : db.size ≤ 268435456 := by omega
  clear hkept hkeep hsp hleave hdb hsure hds hd hfs hfl
  have hq : ∀ n, n ≤ db.size → ∃ x0 : ByteArray, db.extract 0 n = x0 ∧ x0.size = n ∧ x0.data.toList = f.data.take n := fun n hn => by
    refine ⟨_, rfl, ?_, ?_⟩
    · rw [Tx.size, Tx.extract, List.drop_zero, Nat.sub_zero, List.length_take, ← Tx.size]; omega
    · rw [Tx.extract, List.drop_zero, Nat.sub_zero, HDB.out]
  by_cases h1 : keep < 0
  · have t1 : decide (keep < 0) = true := decide_eq_true h1
    have t2 : decide ((d : Int) < 0) = false := decide_eq_false (by omega)
    have hl := HL.out 0 (by omega)
    obtain ⟨n, hn⟩ : ∃ n, n = sure + 0 := ⟨_, rfl⟩
    have w5 : IntKind.i64.wrap ((sure : Int)) = (n : Int) := (IntWalk.i64_in _ (by omega)).trans (by omega)
    have w6 : (n : Int) ≤ (db.size : Int) := by omega
    obtain ⟨x0, hx0, hxs, hxd⟩ := hq n (by omega)
    have HX0 := Lib.hid hxs
    have HLL := Lib.hid hl
    clear hl
    have HXD := Lib.hid hxd
    have HN := Lib.hid hn
    have hn26 : n ≤ 268435456 := by omega
    have x0s : x0.size ≤ 268435456 := by omega
    clear hxs hxd hn hq hsl hdl
    go_enter Tryz.func60, Tryz.ntmps60
    go_upto_region 1 with fail
    have hp0 : Blk (W.alloc (.cells #[.string nb, .string db, .int .i64 sure] 83)) W.heap.size 83 #[.string nb, .string db, .int .i64 sure] := Blk.new _ _ _
    have hq0 : Blk ((W.alloc (.cells #[.string nb, .string db, .int .i64 sure] 83)).alloc (.cells #[.string ⟨#[]⟩, .string ⟨#[]⟩, .int .i64 0] 83)) (W.heap.size + 1) 83 #[.string ⟨#[]⟩, .string ⟨#[]⟩, .int .i64 0] := by
      have h := Blk.new (W.alloc (.cells #[.string nb, .string db, .int .i64 sure] 83)) 83 #[.string ⟨#[]⟩, .string ⟨#[]⟩, .int .i64 0]
      simpa using h
    have hp1 := hp0.alloc (.cells #[.string ⟨#[]⟩, .string ⟨#[]⟩, .int .i64 0] 83)
    have hB2 : Below W.heap.size W ((W.alloc (.cells #[.string nb, .string db, .int .i64 sure] 83)).alloc (.cells #[.string ⟨#[]⟩, .string ⟨#[]⟩, .int .i64 0] 83)) := ((Below.refl _ _).alloc (Nat.le_refl _) _).alloc (by simp) _
    obtain ⟨W2, hW2⟩ : ∃ W2, (W.alloc (.cells #[.string nb, .string db, .int .i64 sure] 83)).alloc (.cells #[.string ⟨#[]⟩, .string ⟨#[]⟩, .int .i64 0] 83) = W2 := ⟨_, rfl⟩
    rw [hW2] at hq0 hp1 hB2 ⊢
    obtain ⟨p, hp⟩ : ∃ p, W.heap.size = p := ⟨_, rfl⟩
    rw [hp] at hq0 hp1 ⊢
    have hpl := hq0.lt
    obtain ⟨gb, cap, w3, hcv, hrow, hvb, hB3, hs3⟩ := Dk.conv_bytes W2 x0 (by unfold maxLen; omega)
    have hgb : p + 1 < gb := by rw [hvb.out]; exact hpl
    have hP : Blk w3 p 83 #[.string nb, .string db, .int .i64 sure] := (hB3.block p (by omega)).trans hp1
    have hQ : Blk w3 (p + 1) 83 #[.string ⟨#[]⟩, .string ⟨#[]⟩, .int .i64 0] := (hB3.block (p + 1) hpl).trans hq0
    have hBf : Below W.heap.size W w3 := hB2.trans (hB3.mono hB2.size)
    have a0 := hp1.cell 0
    have a1 := hp1.cell 1
    have a2 := hp1.cell 2
    have b0 := hP.cell 0
    have e0 := hQ.cell 0
    have e1 := hQ.cell 1
    have e2 := hQ.cell 2
    have f0 := hQ.frozen 0
    have f1 := hQ.frozen 1
    have f2 := hQ.frozen 2
    simp only [List.getElem?_toArray, List.getElem?_cons_zero, List.getElem?_cons_succ] at a0 a1 a2 b0 e0 e1 e2
    have hc2 := hrow.conv 0 x0.size cap (by rw [← Tx.size]; omega)
    rw [List.drop_zero, Tx.size, List.take_length, ← Tx.size, Tx.v_eq (b := x0) rfl] at hc2
    have HF := Lib.hid (And.intro hQ hBf)
    have HPP := Lib.hid hp
    clear hp0 hq0 hp1 hB2 hW2 hpl hrow hvb hB3 hs3 hP hQ hBf hp
    go_wp2_with fail
    have hb1 := HF.out.2
    have hpp : W.heap.size ≤ p + 1 := by rw [HPP.out]; omega
    exact bodyPost_ret (v := .agg #[.string nb, .string x0, .int .i64 x0.size]) (by simp [results, Tryz.results60, go_sem, e0, e1, e2]) rfl ⟨x0, rfl, by rw [HLL.out, if_neg (by omega), HXD.out, HN.out], ((hb1.setCell (p := ⟨p + 1, 0, none⟩) hpp _).setCell (p := ⟨p + 1, 1, none⟩) hpp _).setCell (p := ⟨p + 1, 2, none⟩) hpp _⟩
    
  · have t1 : decide (keep < 0) = false := decide_eq_false h1
    obtain ⟨j, rfl⟩ := Int.eq_ofNat_of_zero_le (Int.not_lt.1 h1)
    by_cases h2 : d < j
    · have t2 : decide (d < j) = true := decide_eq_true h2
      have hl := HL.out d (by omega)
      by_cases h3 : 0 < d
      · have t3 : decide (0 < d) = true := decide_eq_true h3
        obtain ⟨n, hn⟩ : ∃ n, n = sure + d := ⟨_, rfl⟩
        have w5 : IntKind.i64.wrap ((sure : Int) + ((d : Nat) : Int)) = (n : Int) := (IntWalk.i64_in _ (by omega)).trans (by omega)
        have w6 : (n : Int) ≤ (db.size : Int) := by omega
        obtain ⟨x0, hx0, hxs, hxd⟩ := hq n (by omega)
        have HX0 := Lib.hid hxs
        have HLL := Lib.hid hl
        clear hl
        have HXD := Lib.hid hxd
        have HN := Lib.hid hn
        have hn26 : n ≤ 268435456 := by omega
        have x0s : x0.size ≤ 268435456 := by omega
        clear hxs hxd hn hq hsl hdl
        go_enter Tryz.func60, Tryz.ntmps60
        go_upto_region 1 with fail
        have hp0 : Blk (W.alloc (.cells #[.string nb, .string db, .int .i64 sure] 83)) W.heap.size 83 #[.string nb, .string db, .int .i64 sure] := Blk.new _ _ _
        have hq0 : Blk ((W.alloc (.cells #[.string nb, .string db, .int .i64 sure] 83)).alloc (.cells #[.string ⟨#[]⟩, .string ⟨#[]⟩, .int .i64 0] 83)) (W.heap.size + 1) 83 #[.string ⟨#[]⟩, .string ⟨#[]⟩, .int .i64 0] := by
          have h := Blk.new (W.alloc (.cells #[.string nb, .string db, .int .i64 sure] 83)) 83 #[.string ⟨#[]⟩, .string ⟨#[]⟩, .int .i64 0]
          simpa using h
        have hp1 := hp0.alloc (.cells #[.string ⟨#[]⟩, .string ⟨#[]⟩, .int .i64 0] 83)
        have hB2 : Below W.heap.size W ((W.alloc (.cells #[.string nb, .string db, .int .i64 sure] 83)).alloc (.cells #[.string ⟨#[]⟩, .string ⟨#[]⟩, .int .i64 0] 83)) := ((Below.refl _ _).alloc (Nat.le_refl _) _).alloc (by simp) _
        obtain ⟨W2, hW2⟩ : ∃ W2, (W.alloc (.cells #[.string nb, .string db, .int .i64 sure] 83)).alloc (.cells #[.string ⟨#[]⟩, .string ⟨#[]⟩, .int .i64 0] 83) = W2 := ⟨_, rfl⟩
        rw [hW2] at hq0 hp1 hB2 ⊢
        obtain ⟨p, hp⟩ : ∃ p, W.heap.size = p := ⟨_, rfl⟩
        rw [hp] at hq0 hp1 ⊢
        have hpl := hq0.lt
        obtain ⟨gb, cap, w3, hcv, hrow, hvb, hB3, hs3⟩ := Dk.conv_bytes W2 x0 (by unfold maxLen; omega)
        have hgb : p + 1 < gb := by rw [hvb.out]; exact hpl
        have hP : Blk w3 p 83 #[.string nb, .string db, .int .i64 sure] := (hB3.block p (by omega)).trans hp1
        have hQ : Blk w3 (p + 1) 83 #[.string ⟨#[]⟩, .string ⟨#[]⟩, .int .i64 0] := (hB3.block (p + 1) hpl).trans hq0
        have hBf : Below W.heap.size W w3 := hB2.trans (hB3.mono hB2.size)
        have a0 := hp1.cell 0
        have a1 := hp1.cell 1
        have a2 := hp1.cell 2
        have b0 := hP.cell 0
        have e0 := hQ.cell 0
        have e1 := hQ.cell 1
        have e2 := hQ.cell 2
        have f0 := hQ.frozen 0
        have f1 := hQ.frozen 1
        have f2 := hQ.frozen 2
        simp only [List.getElem?_toArray, List.getElem?_cons_zero, List.getElem?_cons_succ] at a0 a1 a2 b0 e0 e1 e2
        obtain ⟨n9, hn9⟩ : ∃ n9, x0.size - 1 = n9 := ⟨_, rfl⟩
        have hx0p : 0 < x0.size := by rw [HX0.out, HN.out]; omega
        have w9 : IntKind.i64.wrap ((x0.size : Int) - 1) = (n9 : Int) := (IntWalk.i64_in _ (by omega)).trans (by omega)
        have hlt9 : n9 < x0.size := by omega
        obtain ⟨bt, hbt⟩ : ∃ bt, x0.data.toList.getD n9 0 = bt := ⟨_, rfl⟩
        have hbt2 : x0.data.toList[n9]? = some bt := by
          rw [← hbt, List.getD_eq_getElem?_getD, List.getElem?_eq_getElem (by rw [← Tx.size]; exact hlt9)]; rfl
        obtain ⟨yy, hyy⟩ : ∃ yy, bt ^^^ sp = yy := ⟨_, rfl⟩
        have hxor : bits .xor .u8 (bt.toNat : Int) (sp.toNat : Int) = (yy.toNat : Int) := by rw [Dk.xor_u8, hyy]
        obtain ⟨g1, g2⟩ := hrow.turn hx0p yy
        have g3 := (hrow.cells).2 n9 bt hbt2
        rw [← Tx.size] at g2
        rw [hn9] at g1 g2
        obtain ⟨xb, hxb, hxbs⟩ := Tx.of (x0.data.toList.set n9 yy)
        rw [List.length_set, ← Tx.size] at hxbs
        have hc2 := g2.conv 0 x0.size cap (by rw [List.length_set, ← Tx.size]; omega)
        rw [List.drop_zero, List.take_of_length_le (by rw [List.length_set, ← Tx.size]; omega), Tx.v_eq hxb] at hc2
        have hB4 : Below W.heap.size W (w3.setCell ⟨gb, n9, none⟩ (.int .u8 yy.toNat)) := hBf.setCell (p := ⟨gb, n9, none⟩) (by show W.heap.size ≤ gb; omega) _
        have hP4 : Blk (w3.setCell ⟨gb, n9, none⟩ (.int .u8 yy.toNat)) p 83 #[.string nb, .string db, .int .i64 sure] := hP.far (p := ⟨gb, n9, none⟩) (by show p ≠ gb; omega) _
        have hQ4 : Blk (w3.setCell ⟨gb, n9, none⟩ (.int .u8 yy.toNat)) (p + 1) 83 #[.string ⟨#[]⟩, .string ⟨#[]⟩, .int .i64 0] := hQ.far (p := ⟨gb, n9, none⟩) (by show p + 1 ≠ gb; omega) _
        have HT := Lib.hid (show xb.data.toList = Dk.turn x0.data.toList sp by rw [hxb]; unfold Dk.turn; rw [← Tx.size, hn9, hbt, hyy])
        obtain ⟨w4, hw4⟩ : ∃ w4, w3.setCell ⟨gb, n9, none⟩ (.int .u8 yy.toNat) = w4 := ⟨_, rfl⟩
        rw [hw4] at hB4 hP4 hQ4 hc2
        have b40 := hP4.cell 0
        have e40 := hQ4.cell 0
        have e41 := hQ4.cell 1
        have e42 := hQ4.cell 2
        have f40 := hQ4.frozen 0
        have f41 := hQ4.frozen 1
        have f42 := hQ4.frozen 2
        simp only [List.getElem?_toArray, List.getElem?_cons_zero, List.getElem?_cons_succ] at b40 e40 e41 e42
        have HF := Lib.hid (And.intro hQ4 hB4)
        have HPP := Lib.hid hp
        have HXS := Lib.hid hxbs
        clear hp0 hq0 hp1 hB2 hW2 hpl hrow hvb hB3 hs3 hP hQ hBf hp hbt hbt2 hyy g2 hxb hxbs hB4 hP4 hQ4 hn9
        go_wp2_with fail
        have hb1 := HF.out.2
        have hpp : W.heap.size ≤ p + 1 := by rw [HPP.out]; omega
        exact bodyPost_ret (v := .agg #[.string nb, .string xb, .int .i64 x0.size]) (by simp [results, Tryz.results60, go_sem, e40, e41, e42]) rfl ⟨xb, by rw [HXS.out], by rw [HLL.out, if_pos (by omega), HT.out, HXD.out, HN.out], ((hb1.setCell (p := ⟨p + 1, 0, none⟩) hpp _).setCell (p := ⟨p + 1, 1, none⟩) hpp _).setCell (p := ⟨p + 1, 2, none⟩) hpp _⟩
        
      · have t3 : decide (0 < d) = false := decide_eq_false h3
        obtain ⟨n, hn⟩ : ∃ n, n = sure + d := ⟨_, rfl⟩
        have w5 : IntKind.i64.wrap ((sure : Int) + ((d : Nat) : Int)) = (n : Int) := (IntWalk.i64_in _ (by omega)).trans (by omega)
        have w6 : (n : Int) ≤ (db.size : Int) := by omega
        obtain ⟨x0, hx0, hxs, hxd⟩ := hq n (by omega)
        have HX0 := Lib.hid hxs
        have HLL := Lib.hid hl
        clear hl
        have HXD := Lib.hid hxd
        have HN := Lib.hid hn
        have hn26 : n ≤ 268435456 := by omega
        have x0s : x0.size ≤ 268435456 := by omega
        clear hxs hxd hn hq hsl hdl
        go_enter Tryz.func60, Tryz.ntmps60
        go_upto_region 1 with fail
        have hp0 : Blk (W.alloc (.cells #[.string nb, .string db, .int .i64 sure] 83)) W.heap.size 83 #[.string nb, .string db, .int .i64 sure] := Blk.new _ _ _
        have hq0 : Blk ((W.alloc (.cells #[.string nb, .string db, .int .i64 sure] 83)).alloc (.cells #[.string ⟨#[]⟩, .string ⟨#[]⟩, .int .i64 0] 83)) (W.heap.size + 1) 83 #[.string ⟨#[]⟩, .string ⟨#[]⟩, .int .i64 0] := by
          have h := Blk.new (W.alloc (.cells #[.string nb, .string db, .int .i64 sure] 83)) 83 #[.string ⟨#[]⟩, .string ⟨#[]⟩, .int .i64 0]
          simpa using h
        have hp1 := hp0.alloc (.cells #[.string ⟨#[]⟩, .string ⟨#[]⟩, .int .i64 0] 83)
        have hB2 : Below W.heap.size W ((W.alloc (.cells #[.string nb, .string db, .int .i64 sure] 83)).alloc (.cells #[.string ⟨#[]⟩, .string ⟨#[]⟩, .int .i64 0] 83)) := ((Below.refl _ _).alloc (Nat.le_refl _) _).alloc (by simp) _
        obtain ⟨W2, hW2⟩ : ∃ W2, (W.alloc (.cells #[.string nb, .string db, .int .i64 sure] 83)).alloc (.cells #[.string ⟨#[]⟩, .string ⟨#[]⟩, .int .i64 0] 83) = W2 := ⟨_, rfl⟩
        rw [hW2] at hq0 hp1 hB2 ⊢
        obtain ⟨p, hp⟩ : ∃ p, W.heap.size = p := ⟨_, rfl⟩
        rw [hp] at hq0 hp1 ⊢
        have hpl := hq0.lt
        obtain ⟨gb, cap, w3, hcv, hrow, hvb, hB3, hs3⟩ := Dk.conv_bytes W2 x0 (by unfold maxLen; omega)
        have hgb : p + 1 < gb := by rw [hvb.out]; exact hpl
        have hP : Blk w3 p 83 #[.string nb, .string db, .int .i64 sure] := (hB3.block p (by omega)).trans hp1
        have hQ : Blk w3 (p + 1) 83 #[.string ⟨#[]⟩, .string ⟨#[]⟩, .int .i64 0] := (hB3.block (p + 1) hpl).trans hq0
        have hBf : Below W.heap.size W w3 := hB2.trans (hB3.mono hB2.size)
        have a0 := hp1.cell 0
        have a1 := hp1.cell 1
        have a2 := hp1.cell 2
        have b0 := hP.cell 0
        have e0 := hQ.cell 0
        have e1 := hQ.cell 1
        have e2 := hQ.cell 2
        have f0 := hQ.frozen 0
        have f1 := hQ.frozen 1
        have f2 := hQ.frozen 2
        simp only [List.getElem?_toArray, List.getElem?_cons_zero, List.getElem?_cons_succ] at a0 a1 a2 b0 e0 e1 e2
        have hc2 := hrow.conv 0 x0.size cap (by rw [← Tx.size]; omega)
        rw [List.drop_zero, Tx.size, List.take_length, ← Tx.size, Tx.v_eq (b := x0) rfl] at hc2
        have HF := Lib.hid (And.intro hQ hBf)
        have HPP := Lib.hid hp
        clear hp0 hq0 hp1 hB2 hW2 hpl hrow hvb hB3 hs3 hP hQ hBf hp
        go_wp2_with fail
        have hb1 := HF.out.2
        have hpp : W.heap.size ≤ p + 1 := by rw [HPP.out]; omega
        exact bodyPost_ret (v := .agg #[.string nb, .string x0, .int .i64 x0.size]) (by simp [results, Tryz.results60, go_sem, e0, e1, e2]) rfl ⟨x0, rfl, by rw [HLL.out, if_neg (by omega), HXD.out, HN.out], ((hb1.setCell (p := ⟨p + 1, 0, none⟩) hpp _).setCell (p := ⟨p + 1, 1, none⟩) hpp _).setCell (p := ⟨p + 1, 2, none⟩) hpp _⟩
        
    · have t2 : decide (d < j) = false := decide_eq_false h2
      have hl := HL.out j (by omega)
      by_cases h3 : 0 < j
      · have t3 : decide (0 < j) = true := decide_eq_true h3
        obtain ⟨n, hn⟩ : ∃ n, n = sure + j := ⟨_, rfl⟩
        have w5 : IntKind.i64.wrap ((sure : Int) + ((j : Nat) : Int)) = (n : Int) := (IntWalk.i64_in _ (by omega)).trans (by omega)
        have w6 : (n : Int) ≤ (db.size : Int) := by omega
        obtain ⟨x0, hx0, hxs, hxd⟩ := hq n (by omega)
        have HX0 := Lib.hid hxs
        have HLL := Lib.hid hl
        clear hl
        have HXD := Lib.hid hxd
        have HN := Lib.hid hn
        have hn26 : n ≤ 268435456 := by omega
        have x0s : x0.size ≤ 268435456 := by omega
        clear hxs hxd hn hq hsl hdl
        go_enter Tryz.func60, Tryz.ntmps60
        go_upto_region 1 with fail
        have hp0 : Blk (W.alloc (.cells #[.string nb, .string db, .int .i64 sure] 83)) W.heap.size 83 #[.string nb, .string db, .int .i64 sure] := Blk.new _ _ _
        have hq0 : Blk ((W.alloc (.cells #[.string nb, .string db, .int .i64 sure] 83)).alloc (.cells #[.string ⟨#[]⟩, .string ⟨#[]⟩, .int .i64 0] 83)) (W.heap.size + 1) 83 #[.string ⟨#[]⟩, .string ⟨#[]⟩, .int .i64 0] := by
          have h := Blk.new (W.alloc (.cells #[.string nb, .string db, .int .i64 sure] 83)) 83 #[.string ⟨#[]⟩, .string ⟨#[]⟩, .int .i64 0]
          simpa using h
        have hp1 := hp0.alloc (.cells #[.string ⟨#[]⟩, .string ⟨#[]⟩, .int .i64 0] 83)
        have hB2 : Below W.heap.size W ((W.alloc (.cells #[.string nb, .string db, .int .i64 sure] 83)).alloc (.cells #[.string ⟨#[]⟩, .string ⟨#[]⟩, .int .i64 0] 83)) := ((Below.refl _ _).alloc (Nat.le_refl _) _).alloc (by simp) _
        obtain ⟨W2, hW2⟩ : ∃ W2, (W.alloc (.cells #[.string nb, .string db, .int .i64 sure] 83)).alloc (.cells #[.string ⟨#[]⟩, .string ⟨#[]⟩, .int .i64 0] 83) = W2 := ⟨_, rfl⟩
        rw [hW2] at hq0 hp1 hB2 ⊢
        obtain ⟨p, hp⟩ : ∃ p, W.heap.size = p := ⟨_, rfl⟩
        rw [hp] at hq0 hp1 ⊢
        have hpl := hq0.lt
        obtain ⟨gb, cap, w3, hcv, hrow, hvb, hB3, hs3⟩ := Dk.conv_bytes W2 x0 (by unfold maxLen; omega)
        have hgb : p + 1 < gb := by rw [hvb.out]; exact hpl
        have hP : Blk w3 p 83 #[.string nb, .string db, .int .i64 sure] := (hB3.block p (by omega)).trans hp1
        have hQ : Blk w3 (p + 1) 83 #[.string ⟨#[]⟩, .string ⟨#[]⟩, .int .i64 0] := (hB3.block (p + 1) hpl).trans hq0
        have hBf : Below W.heap.size W w3 := hB2.trans (hB3.mono hB2.size)
        have a0 := hp1.cell 0
        have a1 := hp1.cell 1
        have a2 := hp1.cell 2
        have b0 := hP.cell 0
        have e0 := hQ.cell 0
        have e1 := hQ.cell 1
        have e2 := hQ.cell 2
        have f0 := hQ.frozen 0
        have f1 := hQ.frozen 1
        have f2 := hQ.frozen 2
        simp only [List.getElem?_toArray, List.getElem?_cons_zero, List.getElem?_cons_succ] at a0 a1 a2 b0 e0 e1 e2
        obtain ⟨n9, hn9⟩ : ∃ n9, x0.size - 1 = n9 := ⟨_, rfl⟩
        have hx0p : 0 < x0.size := by rw [HX0.out, HN.out]; omega
        have w9 : IntKind.i64.wrap ((x0.size : Int) - 1) = (n9 : Int) := (IntWalk.i64_in _ (by omega)).trans (by omega)
        have hlt9 : n9 < x0.size := by omega
        obtain ⟨bt, hbt⟩ : ∃ bt, x0.data.toList.getD n9 0 = bt := ⟨_, rfl⟩
        have hbt2 : x0.data.toList[n9]? = some bt := by
          rw [← hbt, List.getD_eq_getElem?_getD, List.getElem?_eq_getElem (by rw [← Tx.size]; exact hlt9)]; rfl
        obtain ⟨yy, hyy⟩ : ∃ yy, bt ^^^ sp = yy := ⟨_, rfl⟩
        have hxor : bits .xor .u8 (bt.toNat : Int) (sp.toNat : Int) = (yy.toNat : Int) := by rw [Dk.xor_u8, hyy]
        obtain ⟨g1, g2⟩ := hrow.turn hx0p yy
        have g3 := (hrow.cells).2 n9 bt hbt2
        rw [← Tx.size] at g2
        rw [hn9] at g1 g2
        obtain ⟨xb, hxb, hxbs⟩ := Tx.of (x0.data.toList.set n9 yy)
        rw [List.length_set, ← Tx.size] at hxbs
        have hc2 := g2.conv 0 x0.size cap (by rw [List.length_set, ← Tx.size]; omega)
        rw [List.drop_zero, List.take_of_length_le (by rw [List.length_set, ← Tx.size]; omega), Tx.v_eq hxb] at hc2
        have hB4 : Below W.heap.size W (w3.setCell ⟨gb, n9, none⟩ (.int .u8 yy.toNat)) := hBf.setCell (p := ⟨gb, n9, none⟩) (by show W.heap.size ≤ gb; omega) _
        have hP4 : Blk (w3.setCell ⟨gb, n9, none⟩ (.int .u8 yy.toNat)) p 83 #[.string nb, .string db, .int .i64 sure] := hP.far (p := ⟨gb, n9, none⟩) (by show p ≠ gb; omega) _
        have hQ4 : Blk (w3.setCell ⟨gb, n9, none⟩ (.int .u8 yy.toNat)) (p + 1) 83 #[.string ⟨#[]⟩, .string ⟨#[]⟩, .int .i64 0] := hQ.far (p := ⟨gb, n9, none⟩) (by show p + 1 ≠ gb; omega) _
        have HT := Lib.hid (show xb.data.toList = Dk.turn x0.data.toList sp by rw [hxb]; unfold Dk.turn; rw [← Tx.size, hn9, hbt, hyy])
        obtain ⟨w4, hw4⟩ : ∃ w4, w3.setCell ⟨gb, n9, none⟩ (.int .u8 yy.toNat) = w4 := ⟨_, rfl⟩
        rw [hw4] at hB4 hP4 hQ4 hc2
        have b40 := hP4.cell 0
        have e40 := hQ4.cell 0
        have e41 := hQ4.cell 1
        have e42 := hQ4.cell 2
        have f40 := hQ4.frozen 0
        have f41 := hQ4.frozen 1
        have f42 := hQ4.frozen 2
        simp only [List.getElem?_toArray, List.getElem?_cons_zero, List.getElem?_cons_succ] at b40 e40 e41 e42
        have HF := Lib.hid (And.intro hQ4 hB4)
        have HPP := Lib.hid hp
        have HXS := Lib.hid hxbs
        clear hp0 hq0 hp1 hB2 hW2 hpl hrow hvb hB3 hs3 hP hQ hBf hp hbt hbt2 hyy g2 hxb hxbs hB4 hP4 hQ4 hn9
        go_wp2_with fail
        have hb1 := HF.out.2
        have hpp : W.heap.size ≤ p + 1 := by rw [HPP.out]; omega
        exact bodyPost_ret (v := .agg #[.string nb, .string xb, .int .i64 x0.size]) (by simp [results, Tryz.results60, go_sem, e40, e41, e42]) rfl ⟨xb, by rw [HXS.out], by rw [HLL.out, if_pos (by omega), HT.out, HXD.out, HN.out], ((hb1.setCell (p := ⟨p + 1, 0, none⟩) hpp _).setCell (p := ⟨p + 1, 1, none⟩) hpp _).setCell (p := ⟨p + 1, 2, none⟩) hpp _⟩
        
      · have t3 : decide (0 < j) = false := decide_eq_false h3
        obtain ⟨n, hn⟩ : ∃ n, n = sure + j := ⟨_, rfl⟩
        have w5 : IntKind.i64.wrap ((sure : Int) + ((j : Nat) : Int)) = (n : Int) := (IntWalk.i64_in _ (by omega)).trans (by omega)
        have w6 : (n : Int) ≤ (db.size : Int) := by omega
        obtain ⟨x0, hx0, hxs, hxd⟩ := hq n (by omega)
        have HX0 := Lib.hid hxs
        have HLL := Lib.hid hl
        clear hl
        have HXD := Lib.hid hxd
        have HN := Lib.hid hn
        have hn26 : n ≤ 268435456 := by omega
        have x0s : x0.size ≤ 268435456 := by omega
        clear hxs hxd hn hq hsl hdl
        go_enter Tryz.func60, Tryz.ntmps60
        go_upto_region 1 with fail
        have hp0 : Blk (W.alloc (.cells #[.string nb, .string db, .int .i64 sure] 83)) W.heap.size 83 #[.string nb, .string db, .int .i64 sure] := Blk.new _ _ _
        have hq0 : Blk ((W.alloc (.cells #[.string nb, .string db, .int .i64 sure] 83)).alloc (.cells #[.string ⟨#[]⟩, .string ⟨#[]⟩, .int .i64 0] 83)) (W.heap.size + 1) 83 #[.string ⟨#[]⟩, .string ⟨#[]⟩, .int .i64 0] := by
          have h := Blk.new (W.alloc (.cells #[.string nb, .string db, .int .i64 sure] 83)) 83 #[.string ⟨#[]⟩, .string ⟨#[]⟩, .int .i64 0]
          simpa using h
        have hp1 := hp0.alloc (.cells #[.string ⟨#[]⟩, .string ⟨#[]⟩, .int .i64 0] 83)
        have hB2 : Below W.heap.size W ((W.alloc (.cells #[.string nb, .string db, .int .i64 sure] 83)).alloc (.cells #[.string ⟨#[]⟩, .string ⟨#[]⟩, .int .i64 0] 83)) := ((Below.refl _ _).alloc (Nat.le_refl _) _).alloc (by simp) _
        obtain ⟨W2, hW2⟩ : ∃ W2, (W.alloc (.cells #[.string nb, .string db, .int .i64 sure] 83)).alloc (.cells #[.string ⟨#[]⟩, .string ⟨#[]⟩, .int .i64 0] 83) = W2 := ⟨_, rfl⟩
        rw [hW2] at hq0 hp1 hB2 ⊢
        obtain ⟨p, hp⟩ : ∃ p, W.heap.size = p := ⟨_, rfl⟩
        rw [hp] at hq0 hp1 ⊢
        have hpl := hq0.lt
        obtain ⟨gb, cap, w3, hcv, hrow, hvb, hB3, hs3⟩ := Dk.conv_bytes W2 x0 (by unfold maxLen; omega)
        have hgb : p + 1 < gb := by rw [hvb.out]; exact hpl
        have hP : Blk w3 p 83 #[.string nb, .string db, .int .i64 sure] := (hB3.block p (by omega)).trans hp1
        have hQ : Blk w3 (p + 1) 83 #[.string ⟨#[]⟩, .string ⟨#[]⟩, .int .i64 0] := (hB3.block (p + 1) hpl).trans hq0
        have hBf : Below W.heap.size W w3 := hB2.trans (hB3.mono hB2.size)
        have a0 := hp1.cell 0
        have a1 := hp1.cell 1
        have a2 := hp1.cell 2
        have b0 := hP.cell 0
        have e0 := hQ.cell 0
        have e1 := hQ.cell 1
        have e2 := hQ.cell 2
        have f0 := hQ.frozen 0
        have f1 := hQ.frozen 1
        have f2 := hQ.frozen 2
        simp only [List.getElem?_toArray, List.getElem?_cons_zero, List.getElem?_cons_succ] at a0 a1 a2 b0 e0 e1 e2
        have hc2 := hrow.conv 0 x0.size cap (by rw [← Tx.size]; omega)
        rw [List.drop_zero, Tx.size, List.take_length, ← Tx.size, Tx.v_eq (b := x0) rfl] at hc2
        have HF := Lib.hid (And.intro hQ hBf)
        have HPP := Lib.hid hp
        clear hp0 hq0 hp1 hB2 hW2 hpl hrow hvb hB3 hs3 hP hQ hBf hp
        go_wp2_with fail
        have hb1 := HF.out.2
        have hpp : W.heap.size ≤ p + 1 := by rw [HPP.out]; omega
        exact bodyPost_ret (v := .agg #[.string nb, .string x0, .int .i64 x0.size]) (by simp [results, Tryz.results60, go_sem, e0, e1, e2]) rfl ⟨x0, rfl, by rw [HLL.out, if_neg (by omega), HXD.out, HN.out], ((hb1.setCell (p := ⟨p + 1, 0, none⟩) hpp _).setCell (p := ⟨p + 1, 1, none⟩) hpp _).setCell (p := ⟨p + 1, 2, none⟩) hpp _⟩
        
#print axioms Dr.left_any
end Go.Proofs.YtifkhjihgnnpfaaGreatDoor
/- Disks in memory (the document's): Crash. Conditions: each theorem's own hypotheses. -/
namespace Go.Proofs.YtifkhjihgnnpfaaGreatDoor
open Go.RowKit Go.Maps Go.Sort
set_option linter.unusedVariables false

/-- The document's crash: what is armed with stays. -/
def Dr.crash (m : Dk.M) (cs : List Dk.Cut) : Dk.M := { Dk.crash m cs with done := m.done }
theorem Dr.cutOf_cons (x : Dk.Cut) (l : List Dk.Cut) (nm : List UInt8) : Dk.cutOf (x :: l) nm = if x.name = nm then x else Dk.cutOf l nm := by
  unfold Dk.cutOf
  rw [List.find?_cons]
  by_cases e : x.name = nm
  · rw [if_pos e, e, beq_self_eq_true]; rfl
  · have : (x.name == nm) = false := by simpa using e
    rw [if_neg e, this]
theorem Dr.left_eq {cs : List Dk.Cut} {f : Dk.F} {x : Dk.Cut} (hx : Dk.cutOf cs f.name = x) (hs : f.sure ≤ f.data.length) {xb : ByteArray} (h : xb.data.toList = (Dk.leave x f).data) : (⟨f.name, xb.data.toList, xb.size⟩ : Dk.F) = Dk.left cs f := by
  have h2 : xb.size = f.sure + Dk.kept x f := by rw [Tx.size, h, Dk.leave_len x f hs]
  unfold Dk.left
  rw [hx, h, h2]
  unfold Dk.leave
  rfl
/-- A cut's cells. -/
theorem Dr.cut_at {W : World} {a : Option Addr} {n c : Nat} {cs : List Dk.Cut} (h : Dk.Cts W (.slice a n c) cs) {j : Nat} {x : Dk.Cut} (hx : cs[j]? = some x) : ∃ g off, a = some ⟨g, off, none⟩ ∧ W.cell? ⟨g, off + j * 3, none⟩ = some (Tx.v x.name) ∧ W.cell? ⟨g, off + j * 3 + 1, none⟩ = some (.int .i64 x.keep) ∧ W.cell? ⟨g, off + j * 3 + 2, none⟩ = some (.int .u8 x.spoil.toNat) := by
  rcases h with ⟨_, h⟩ | ⟨g, off, c2, h1, _, h3⟩
  · rw [h] at hx; simp at hx
  · injection h1 with h1 _ _
    obtain ⟨q0, q1, q2⟩ := h3 j x hx
    exact ⟨g, off, h1, q0, q1, q2⟩
set_option maxRecDepth 100000 in
set_option maxHeartbeats 4000000 in
theorem Dr.crash_any {W : World} {r : Nat} {m : Dk.M} {F : Nat → Prop} (h : Dr.At W r m F) (hG : Dk.Good m) {cv : Value} {cs : List Dk.Cut} (hc : Dk.Cts W cv cs) (hcl : cs.length ≤ 140737488355328) :
    Calls Tryz.prog 34 #[.pointer (some ⟨r, 0, none⟩), cv] W fun e W' => e = .returned (.tuple #[]) ∧ Dr.Moved W W' r F (Dr.crash m cs) := by
  obtain ⟨v, hS, rfl⟩ := h
  obtain ⟨a, c, rfl⟩ := hS.row.form
  obtain ⟨ca, cc, rfl⟩ := hc.form
  obtain ⟨i0, hi, hz0, hz1, hz2⟩ := info_parts Dr.info
  have hmany := hG.many
  go_enter Tryz.func34, Tryz.ntmps34
  go_wp2_with fail
  go_loopw [4, 5] (fun o i wr => ∃ k : Nat, k ≤ m.files.length ∧ i = .int .i64 k ∧ Dr.Own wr W.heap.size o ((m.files.take k).map (Dk.left cs)) ∧ Below W.heap.size W wr) (fun _ i _ => m.files.length - (intOf i).toNat)
  case atStart => exact ⟨0, Nat.zero_le _, rfl, Dr.Own.nil _ _, Below.refl _ _⟩
  case round =>
    obtain ⟨k, hk, rfl, HO, hB⟩ := hrel
    have hSr := hS.later hB (Nat.le_refl _)
    have hcr := hc.keep hB.size fun g hg => hB.block g hg
    obtain ⟨d0, d1, d2, d3, d4, d5, d6⟩ := hSr.seven
    by_cases hlt : k < m.files.length
    · obtain ⟨f, hf⟩ : ∃ f, m.files[k]? = some f := ⟨_, List.getElem?_eq_getElem hlt⟩
      obtain ⟨g, c', nb, db, hv2, _, hnb, hdb, hds, c0, c1, c2⟩ := hSr.file hf
      injection hv2 with hv2 _ hcc
      subst hv2 hcc
      obtain ⟨_, hfl, hfs⟩ := hG.file f (List.mem_of_getElem? hf)
      have w0 : IntKind.i64.wrap ((cs.length : Int) - 1) = (cs.length : Int) - 1 := IntWalk.i64_in _ (by omega)
      have HNB := Lib.hid hnb
      have HDB := Lib.hid hdb
      have hmore := Lib.hid (show (m.files.take (k + 1)).map (Dk.left cs) = (m.files.take k).map (Dk.left cs) ++ [Dk.left cs f] by rw [Dk.take_more hf, List.map_append]; rfl)
      clear hnb hdb hds hf d0 d2 d3 d4 d5 d6
      obtain ⟨l0, hl0⟩ : ∃ l0, (m.files.take k).map (Dk.left cs) = l0 := ⟨_, rfl⟩
      have hll : l0.length ≤ 4096 := by rw [← hl0, List.length_map, List.length_take]; omega
      rw [hl0] at HO hmore
      clear hl0
      obtain ⟨oa, oc, rfl⟩ := HO.form
      go_wp2_with fail
      go_loopw [6, 7, 8] (fun kp sp q wi => ∃ (j n : Nat) (x : Dk.Cut) (z : Int), j ≤ cs.length ∧ q = .int .i64 z ∧ z = (j : Int) - 1 ∧ Hid (Dk.cutOf (cs.drop j) f.name = x) ∧ kp = .int .i64 x.keep ∧ sp = .int .u8 x.spoil.toNat ∧ wi = wr.drewN n) (fun _ _ q _ => (intOf q + 1).toNat)
      case atStart => exact ⟨cs.length, 0, Dk.cutZ, _, Nat.le_refl _, rfl, rfl, Lib.hid (by rw [List.drop_length]; rfl), rfl, rfl, rfl⟩
      case round =>
        obtain ⟨j, n, x, z, hj, rfl, hz, HX, rfl, rfl, rfl⟩ := hrel
        cases j with
        | succ j =>
          obtain rfl : z = (j : Int) := by omega
          clear hz
          obtain ⟨y, hy⟩ : ∃ y, cs[j]? = some y := ⟨_, List.getElem?_eq_getElem (by omega)⟩
          obtain ⟨g2, off, rfl, y0, y1, y2⟩ := Dr.cut_at hcr hy
          obtain ⟨yb, hyb, _⟩ := Tx.of y.name
          rw [Tx.v_eq hyb] at y0
          have hdr : cs.drop j = y :: cs.drop (j + 1) := by
            rw [List.drop_eq_getElem_cons (show j < cs.length by omega)]
            rw [List.getElem?_eq_getElem (show j < cs.length by omega)] at hy
            rw [Option.some.inj hy]
          have hlt2 : j < cs.length := by omega
          have w8 : IntKind.i64.wrap ((j : Int) - 1) = (j : Int) - 1 := IntWalk.i64_in _ (by omega)
          by_cases he : y.name = f.name
          · have t1 : (yb.toList == nb.toList) = true := by rw [Tx.beq, hyb, HNB.out]; exact decide_eq_true he
            have HX2 : Hid (Dk.cutOf (cs.drop j) f.name = y) := Lib.hid (by rw [hdr, Dr.cutOf_cons, if_pos he])
            clear hy hyb hdr he HX
            go_wp2_with fail
            go_quiet (fail)
            go_wp2_with fail
            go_roundw
            case rel => exact ⟨j, _, y, _, by omega, rfl, rfl, HX2, rfl, rfl, by first | rfl | rw [World.drewN_drewN]⟩
            case measure => first | (simp [intOf]; done) | (simp [intOf]; omega)
          · have t1 : (yb.toList == nb.toList) = false := by rw [Tx.beq, hyb, HNB.out]; exact decide_eq_false he
            have HX2 : Hid (Dk.cutOf (cs.drop j) f.name = x) := Lib.hid (by rw [hdr, Dr.cutOf_cons, if_neg he]; exact HX.out)
            clear hy hyb hdr he HX
            go_wp2_with fail
            go_quiet (fail)
            go_wp2_with fail
            go_roundw
            case rel => exact ⟨j, _, x, _, by omega, rfl, rfl, HX2, rfl, rfl, by first | rfl | rw [World.drewN_drewN]⟩
            case measure => first | (simp [intOf]; done) | (simp [intOf]; omega)
        | zero =>
          obtain rfl : z = -1 := by omega
          clear hz
          have hleft := Dr.left_any (wr.drewN n) f x (nb := nb) HDB.out hfs hfl
          have hone : ∀ (w : World) (xb : ByteArray), ∀ j u, (Dr.cellsOf [⟨f.name, xb.data.toList, xb.size⟩])[j]? = some u → ((w.alloc (.cells #[.string nb, .string xb, .int .i64 xb.size] 83)).alloc (.cells #[.string nb, .string xb, .int .i64 xb.size] 83)).cell? ((⟨w.heap.size + 1, 0, none⟩ : Addr).add j) = some u := fun w xb => by
            have h := Dr.one_cells (w.alloc (.cells #[.string nb, .string xb, .int .i64 xb.size] 83)) (nb := nb) (db := xb) (f := ⟨f.name, xb.data.toList, xb.size⟩) HNB.out rfl
            rw [show (w.alloc (.cells #[.string nb, .string xb, .int .i64 xb.size] 83)).heap.size = w.heap.size + 1 from by simp] at h
            exact h
          have HO1 : ∀ w2, Below (wr.drewN n).heap.size (wr.drewN n) w2 → Dr.Own w2 W.heap.size (.slice oa l0.length oc) l0 := fun w2 h2 => (HO.keep (W' := wr.drewN n) fun _ _ => rfl).below h2
          have hB1 : ∀ w2, Below (wr.drewN n).heap.size (wr.drewN n) w2 → Below W.heap.size W w2 := fun w2 h2 => (below_dn hB n).trans (h2.mono hB.size)
          have heq := fun {xb : ByteArray} => Dr.left_eq (xb := xb) (show Dk.cutOf cs f.name = x from HX.out) hfs
          go_wp2_with (first
            | (go_at_call 60; refine hleft.mono ?_; clear hleft; rintro e w2 ⟨xb, rfl, hxd, b2⟩; have HE := Lib.hid (heq hxd); have HO2 := HO1 w2 b2; have hB2 := hB1 w2 b2; have hs2 := hB2.size; clear hxd heq)
            | (at_builtin; refine wpList_append_own _ rfl (.tmp 60) (.tmp 62) 45 rfl W.heap.size 83 i0 (.agg #[.string ⟨#[]⟩, .string ⟨#[]⟩, .int .i64 0]) 3 40 Tryz.underlying45 hi hz0 hz1 hz2 rfl (by decide) _ _ _ rfl (World.ownsRow.alloc (World.ownsRow.alloc HO2 _) _) ⟨_, 0, none⟩ 1 1 (Dr.cellsOf [⟨f.name, xb.data.toList, xb.size⟩]) rfl rfl (hone _ xb) (Dr.cellsOf_one _) (by unfold maxLen; omega) (by omega) (by (try simp); omega) ?_; intro v3 w3 hown3 hgrow3 _))
          go_roundw
          case rel =>
            refine ⟨k + 1, hlt, by go_num, ?_, ((hB2.alloc hs2 _).alloc (by simp; omega) _).grown hgrow3 (by simp; omega) (fun q hq => (HO2.lt hq).1)⟩
            rw [hmore.out, ← HE.out]
            unfold Dr.Own
            rw [List.length_append, Dr.cellsOf_append]
            exact hown3
          case measure => simp [intOf]; omega
    · obtain rfl : k = m.files.length := by omega
      rw [List.take_length] at HO
      have f1 := hSr.blk.frozen 1
      have f2 := hSr.blk.frozen 2
      have f3 := hSr.blk.frozen 3
      have f5 := hSr.blk.frozen 5
      obtain ⟨ag, hag⟩ : ∃ ag, IntKind.i64.wrap (m.age + 1) = ag := ⟨_, rfl⟩
      obtain ⟨fs, hfs⟩ : ∃ fs, m.files.map (Dk.left cs) = fs := ⟨_, rfl⟩
      rw [hfs] at HO
      have s1 := hSr.files (HO.base fun _ _ => Nat.zero_le _)
      have s2 := s1.set 2 (.bool false) { m with files := fs, off := false } rfl rfl
      have s3 := s2.set 3 (.int .i64 0) { m with files := fs, off := false, left := 0 } rfl rfl
      have s5 := s3.set 5 (.int .i64 ag) { m with files := fs, off := false, left := 0, age := ag } rfl rfl
      have hfin : Dr.crash m cs = { m with files := fs, off := false, left := 0, age := ag } := by
        unfold Dr.crash Dk.crash
        rw [hfs, hag]
      have hmv : Dr.Moved W _ r _ _ := Dr.Moved.step (v := .slice a m.files.length c) hB HO s5 (((Dk.Only.setCell (F := fun k => k = r) (Dk.Only.setCell (F := fun k => k = r) (Dk.Only.setCell (F := fun k => k = r) (Dk.Only.setCell (F := fun k => k = r) (Dk.Only.refl _ _) (.inl rfl) _) (.inl rfl) _) (.inl rfl) _) (.inl rfl) _))) (.inl rfl)
      rw [← hfin] at hmv
      obtain ⟨oa, oc, rfl⟩ := HO.form
      clear s1 s2 s3 s5 hfin hcr hc hfs
      go_wp2_with fail
      go_end0
      exact ⟨rfl, hmv⟩
#print axioms Dr.crash_any
end Go.Proofs.YtifkhjihgnnpfaaGreatDoor
