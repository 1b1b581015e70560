/- Disks in memory (the document's): what a crash leaves of a file. Conditions: each theorem's own hypotheses. -/
import Derived.Test.YtgbeeghdoilmkaaDrL
import Derived.Test.YtgbeeghdoilmkaaDkDD
namespace Go.Proofs.Ytgbeeghdoilmkaa
open Go.RowKit Go.Maps Go.Sort
set_option linter.unusedVariables false

theorem Dr.leave_data (c : Dk.Cut) (f : Dk.F) (kk : Nat) (h : Dk.kept c f = kk) : (Dk.leave c f).data = if 0 < kk then Dk.turn (f.data.take (f.sure + kk)) c.spoil else f.data.take (f.sure + kk) := by
  subst h; rfl
set_option maxRecDepth 100000 in
set_option maxHeartbeats 4000000 in
theorem Dr.left_any (W : World) (f : Dk.F) (c : Dk.Cut) {nb db : ByteArray} (hdb : db.data.toList = f.data) (hfs : f.sure ≤ f.data.length) (hfl : f.data.length ≤ 268435456) :
    Calls Try.prog 77 #[.agg #[.string nb, .string db, .int .i64 f.sure], .int .i64 c.keep, .int .u8 c.spoil.toNat] W fun e W' => ∃ xb : ByteArray, e = .returned (.agg #[.string nb, .string xb, .int .i64 xb.size]) ∧ xb.data.toList = (Dk.leave c f).data ∧ Below W.heap.size W W' := by
  have hds : db.size = f.data.length := by rw [Tx.size, hdb]
  obtain ⟨sure, hsure⟩ : ∃ z, f.sure = z := ⟨_, rfl⟩
  rw [hsure] at hfs ⊢
  obtain ⟨d, hd⟩ : ∃ d, d = db.size - sure := ⟨_, rfl⟩
  have w1 : IntKind.i64.wrap ((db.size : Int) - (sure : Int)) = (d : Int) := (IntWalk.i64_in _ (by omega)).trans (by omega)
  have hkept : Dk.kept c f = min (max c.keep 0).toNat d := by unfold Dk.kept; rw [hsure, hd, hds]
  obtain ⟨keep, hkeep⟩ : ∃ z, c.keep = z := ⟨_, rfl⟩
  obtain ⟨sp, hsp⟩ : ∃ z, c.spoil = z := ⟨_, rfl⟩
  have hleave := Dr.leave_data c f
  rw [hsure, hsp] at hleave
  rw [hkept] at hleave
  rw [hkeep] at hleave ⊢
  rw [hsp]
  have HDB := Lib.hid hdb
  have HL := Lib.hid hleave
  have hdl : d ≤ db.size := by omega
  have hsl : sure + d = db.size := by omega
  have hds2 : db.size ≤ 268435456 := by omega
  clear hkept hkeep hsp hleave hdb hsure hds hd hfs hfl
  have hq : ∀ n, n ≤ db.size → ∃ x0 : ByteArray, db.extract 0 n = x0 ∧ x0.size = n ∧ x0.data.toList = f.data.take n := fun n hn => by
    refine ⟨_, rfl, ?_, ?_⟩
    · rw [Tx.size, Tx.extract, List.drop_zero, Nat.sub_zero, List.length_take, ← Tx.size]; omega
    · rw [Tx.extract, List.drop_zero, Nat.sub_zero, HDB.out]
  by_cases h1 : keep < 0
  · have t1 : decide (keep < 0) = true := decide_eq_true h1
    have t2 : decide ((d : Int) < 0) = false := decide_eq_false (by omega)
    have hl := HL.out 0 (by omega)
    obtain ⟨n, hn⟩ : ∃ n, n = sure + 0 := ⟨_, rfl⟩
    have w5 : IntKind.i64.wrap ((sure : Int)) = (n : Int) := (IntWalk.i64_in _ (by omega)).trans (by omega)
    have w6 : (n : Int) ≤ (db.size : Int) := by omega
    obtain ⟨x0, hx0, hxs, hxd⟩ := hq n (by omega)
    have HX0 := Lib.hid hxs
    have HLL := Lib.hid hl
    clear hl
    have HXD := Lib.hid hxd
    have HN := Lib.hid hn
    have hn26 : n ≤ 268435456 := by omega
    have x0s : x0.size ≤ 268435456 := by omega
    clear hxs hxd hn hq hsl hdl
    go_enter Try.func77, Try.ntmps77
    go_upto_region 1 with fail
    have hp0 : Blk (W.alloc (.cells #[.string nb, .string db, .int .i64 sure] 38)) W.heap.size 38 #[.string nb, .string db, .int .i64 sure] := Blk.new _ _ _
    have hq0 : Blk ((W.alloc (.cells #[.string nb, .string db, .int .i64 sure] 38)).alloc (.cells #[.string ⟨#[]⟩, .string ⟨#[]⟩, .int .i64 0] 38)) (W.heap.size + 1) 38 #[.string ⟨#[]⟩, .string ⟨#[]⟩, .int .i64 0] := by
      have h := Blk.new (W.alloc (.cells #[.string nb, .string db, .int .i64 sure] 38)) 38 #[.string ⟨#[]⟩, .string ⟨#[]⟩, .int .i64 0]
      simpa using h
    have hp1 := hp0.alloc (.cells #[.string ⟨#[]⟩, .string ⟨#[]⟩, .int .i64 0] 38)
    have hB2 : Below W.heap.size W ((W.alloc (.cells #[.string nb, .string db, .int .i64 sure] 38)).alloc (.cells #[.string ⟨#[]⟩, .string ⟨#[]⟩, .int .i64 0] 38)) := ((Below.refl _ _).alloc (Nat.le_refl _) _).alloc (by simp) _
    obtain ⟨W2, hW2⟩ : ∃ W2, (W.alloc (.cells #[.string nb, .string db, .int .i64 sure] 38)).alloc (.cells #[.string ⟨#[]⟩, .string ⟨#[]⟩, .int .i64 0] 38) = W2 := ⟨_, rfl⟩
    rw [hW2] at hq0 hp1 hB2 ⊢
    obtain ⟨p, hp⟩ : ∃ p, W.heap.size = p := ⟨_, rfl⟩
    rw [hp] at hq0 hp1 ⊢
    have hpl := hq0.lt
    obtain ⟨gb, cap, w3, hcv, hrow, hvb, hB3, hs3⟩ := Dk.conv_bytes W2 x0 (by unfold maxLen; omega)
    have hgb : p + 1 < gb := by rw [hvb.out]; exact hpl
    have hP : Blk w3 p 38 #[.string nb, .string db, .int .i64 sure] := (hB3.block p (by omega)).trans hp1
    have hQ : Blk w3 (p + 1) 38 #[.string ⟨#[]⟩, .string ⟨#[]⟩, .int .i64 0] := (hB3.block (p + 1) hpl).trans hq0
    have hBf : Below W.heap.size W w3 := hB2.trans (hB3.mono hB2.size)
    have a0 := hp1.cell 0
    have a1 := hp1.cell 1
    have a2 := hp1.cell 2
    have b0 := hP.cell 0
    have e0 := hQ.cell 0
    have e1 := hQ.cell 1
    have e2 := hQ.cell 2
    have f0 := hQ.frozen 0
    have f1 := hQ.frozen 1
    have f2 := hQ.frozen 2
    simp only [List.getElem?_toArray, List.getElem?_cons_zero, List.getElem?_cons_succ] at a0 a1 a2 b0 e0 e1 e2
    have hc2 := hrow.conv 0 x0.size cap (by rw [← Tx.size]; omega)
    rw [List.drop_zero, Tx.size, List.take_length, ← Tx.size, Tx.v_eq (b := x0) rfl] at hc2
    have HF := Lib.hid (And.intro hQ hBf)
    have HPP := Lib.hid hp
    clear hp0 hq0 hp1 hB2 hW2 hpl hrow hvb hB3 hs3 hP hQ hBf hp
    go_wp2_with fail
    have hb1 := HF.out.2
    have hpp : W.heap.size ≤ p + 1 := by rw [HPP.out]; omega
    exact bodyPost_ret (v := .agg #[.string nb, .string x0, .int .i64 x0.size]) (by simp [results, Try.results77, go_sem, e0, e1, e2]) rfl ⟨x0, rfl, by rw [HLL.out, if_neg (by omega), HXD.out, HN.out], ((hb1.setCell (p := ⟨p + 1, 0, none⟩) hpp _).setCell (p := ⟨p + 1, 1, none⟩) hpp _).setCell (p := ⟨p + 1, 2, none⟩) hpp _⟩
    
  · have t1 : decide (keep < 0) = false := decide_eq_false h1
    obtain ⟨j, rfl⟩ := Int.eq_ofNat_of_zero_le (Int.not_lt.1 h1)
    by_cases h2 : d < j
    · have t2 : decide (d < j) = true := decide_eq_true h2
      have hl := HL.out d (by omega)
      by_cases h3 : 0 < d
      · have t3 : decide (0 < d) = true := decide_eq_true h3
        obtain ⟨n, hn⟩ : ∃ n, n = sure + d := ⟨_, rfl⟩
        have w5 : IntKind.i64.wrap ((sure : Int) + ((d : Nat) : Int)) = (n : Int) := (IntWalk.i64_in _ (by omega)).trans (by omega)
        have w6 : (n : Int) ≤ (db.size : Int) := by omega
        obtain ⟨x0, hx0, hxs, hxd⟩ := hq n (by omega)
        have HX0 := Lib.hid hxs
        have HLL := Lib.hid hl
        clear hl
        have HXD := Lib.hid hxd
        have HN := Lib.hid hn
        have hn26 : n ≤ 268435456 := by omega
        have x0s : x0.size ≤ 268435456 := by omega
        clear hxs hxd hn hq hsl hdl
        go_enter Try.func77, Try.ntmps77
        go_upto_region 1 with fail
        have hp0 : Blk (W.alloc (.cells #[.string nb, .string db, .int .i64 sure] 38)) W.heap.size 38 #[.string nb, .string db, .int .i64 sure] := Blk.new _ _ _
        have hq0 : Blk ((W.alloc (.cells #[.string nb, .string db, .int .i64 sure] 38)).alloc (.cells #[.string ⟨#[]⟩, .string ⟨#[]⟩, .int .i64 0] 38)) (W.heap.size + 1) 38 #[.string ⟨#[]⟩, .string ⟨#[]⟩, .int .i64 0] := by
          have h := Blk.new (W.alloc (.cells #[.string nb, .string db, .int .i64 sure] 38)) 38 #[.string ⟨#[]⟩, .string ⟨#[]⟩, .int .i64 0]
          simpa using h
        have hp1 := hp0.alloc (.cells #[.string ⟨#[]⟩, .string ⟨#[]⟩, .int .i64 0] 38)
        have hB2 : Below W.heap.size W ((W.alloc (.cells #[.string nb, .string db, .int .i64 sure] 38)).alloc (.cells #[.string ⟨#[]⟩, .string ⟨#[]⟩, .int .i64 0] 38)) := ((Below.refl _ _).alloc (Nat.le_refl _) _).alloc (by simp) _
        obtain ⟨W2, hW2⟩ : ∃ W2, (W.alloc (.cells #[.string nb, .string db, .int .i64 sure] 38)).alloc (.cells #[.string ⟨#[]⟩, .string ⟨#[]⟩, .int .i64 0] 38) = W2 := ⟨_, rfl⟩
        rw [hW2] at hq0 hp1 hB2 ⊢
        obtain ⟨p, hp⟩ : ∃ p, W.heap.size = p := ⟨_, rfl⟩
        rw [hp] at hq0 hp1 ⊢
        have hpl := hq0.lt
        obtain ⟨gb, cap, w3, hcv, hrow, hvb, hB3, hs3⟩ := Dk.conv_bytes W2 x0 (by unfold maxLen; omega)
        have hgb : p + 1 < gb := by rw [hvb.out]; exact hpl
        have hP : Blk w3 p 38 #[.string nb, .string db, .int .i64 sure] := (hB3.block p (by omega)).trans hp1
        have hQ : Blk w3 (p + 1) 38 #[.string ⟨#[]⟩, .string ⟨#[]⟩, .int .i64 0] := (hB3.block (p + 1) hpl).trans hq0
        have hBf : Below W.heap.size W w3 := hB2.trans (hB3.mono hB2.size)
        have a0 := hp1.cell 0
        have a1 := hp1.cell 1
        have a2 := hp1.cell 2
        have b0 := hP.cell 0
        have e0 := hQ.cell 0
        have e1 := hQ.cell 1
        have e2 := hQ.cell 2
        have f0 := hQ.frozen 0
        have f1 := hQ.frozen 1
        have f2 := hQ.frozen 2
        simp only [List.getElem?_toArray, List.getElem?_cons_zero, List.getElem?_cons_succ] at a0 a1 a2 b0 e0 e1 e2
        obtain ⟨n9, hn9⟩ : ∃ n9, x0.size - 1 = n9 := ⟨_, rfl⟩
        have hx0p : 0 < x0.size := by rw [HX0.out, HN.out]; omega
        have w9 : IntKind.i64.wrap ((x0.size : Int) - 1) = (n9 : Int) := (IntWalk.i64_in _ (by omega)).trans (by omega)
        have hlt9 : n9 < x0.size := by omega
        obtain ⟨bt, hbt⟩ : ∃ bt, x0.data.toList.getD n9 0 = bt := ⟨_, rfl⟩
        have hbt2 : x0.data.toList[n9]? = some bt := by
          rw [← hbt, List.getD_eq_getElem?_getD, List.getElem?_eq_getElem (by rw [← Tx.size]; exact hlt9)]; rfl
        obtain ⟨yy, hyy⟩ : ∃ yy, bt ^^^ sp = yy := ⟨_, rfl⟩
        have hxor : bits .xor .u8 (bt.toNat : Int) (sp.toNat : Int) = (yy.toNat : Int) := by rw [Dk.xor_u8, hyy]
        obtain ⟨g1, g2⟩ := hrow.turn hx0p yy
        have g3 := (hrow.cells).2 n9 bt hbt2
        rw [← Tx.size] at g2
        rw [hn9] at g1 g2
        obtain ⟨xb, hxb, hxbs⟩ := Tx.of (x0.data.toList.set n9 yy)
        rw [List.length_set, ← Tx.size] at hxbs
        have hc2 := g2.conv 0 x0.size cap (by rw [List.length_set, ← Tx.size]; omega)
        rw [List.drop_zero, List.take_of_length_le (by rw [List.length_set, ← Tx.size]; omega), Tx.v_eq hxb] at hc2
        have hB4 : Below W.heap.size W (w3.setCell ⟨gb, n9, none⟩ (.int .u8 yy.toNat)) := hBf.setCell (p := ⟨gb, n9, none⟩) (by show W.heap.size ≤ gb; omega) _
        have hP4 : Blk (w3.setCell ⟨gb, n9, none⟩ (.int .u8 yy.toNat)) p 38 #[.string nb, .string db, .int .i64 sure] := hP.far (p := ⟨gb, n9, none⟩) (by show p ≠ gb; omega) _
        have hQ4 : Blk (w3.setCell ⟨gb, n9, none⟩ (.int .u8 yy.toNat)) (p + 1) 38 #[.string ⟨#[]⟩, .string ⟨#[]⟩, .int .i64 0] := hQ.far (p := ⟨gb, n9, none⟩) (by show p + 1 ≠ gb; omega) _
        have HT := Lib.hid (show xb.data.toList = Dk.turn x0.data.toList sp by rw [hxb]; unfold Dk.turn; rw [← Tx.size, hn9, hbt, hyy])
        obtain ⟨w4, hw4⟩ : ∃ w4, w3.setCell ⟨gb, n9, none⟩ (.int .u8 yy.toNat) = w4 := ⟨_, rfl⟩
        rw [hw4] at hB4 hP4 hQ4 hc2
        have b40 := hP4.cell 0
        have e40 := hQ4.cell 0
        have e41 := hQ4.cell 1
        have e42 := hQ4.cell 2
        have f40 := hQ4.frozen 0
        have f41 := hQ4.frozen 1
        have f42 := hQ4.frozen 2
        simp only [List.getElem?_toArray, List.getElem?_cons_zero, List.getElem?_cons_succ] at b40 e40 e41 e42
        have HF := Lib.hid (And.intro hQ4 hB4)
        have HPP := Lib.hid hp
        have HXS := Lib.hid hxbs
        clear hp0 hq0 hp1 hB2 hW2 hpl hrow hvb hB3 hs3 hP hQ hBf hp hbt hbt2 hyy g2 hxb hxbs hB4 hP4 hQ4 hn9
        go_wp2_with fail
        have hb1 := HF.out.2
        have hpp : W.heap.size ≤ p + 1 := by rw [HPP.out]; omega
        exact bodyPost_ret (v := .agg #[.string nb, .string xb, .int .i64 x0.size]) (by simp [results, Try.results77, go_sem, e40, e41, e42]) rfl ⟨xb, by rw [HXS.out], by rw [HLL.out, if_pos (by omega), HT.out, HXD.out, HN.out], ((hb1.setCell (p := ⟨p + 1, 0, none⟩) hpp _).setCell (p := ⟨p + 1, 1, none⟩) hpp _).setCell (p := ⟨p + 1, 2, none⟩) hpp _⟩
        
      · have t3 : decide (0 < d) = false := decide_eq_false h3
        obtain ⟨n, hn⟩ : ∃ n, n = sure + d := ⟨_, rfl⟩
        have w5 : IntKind.i64.wrap ((sure : Int) + ((d : Nat) : Int)) = (n : Int) := (IntWalk.i64_in _ (by omega)).trans (by omega)
        have w6 : (n : Int) ≤ (db.size : Int) := by omega
        obtain ⟨x0, hx0, hxs, hxd⟩ := hq n (by omega)
        have HX0 := Lib.hid hxs
        have HLL := Lib.hid hl
        clear hl
        have HXD := Lib.hid hxd
        have HN := Lib.hid hn
        have hn26 : n ≤ 268435456 := by omega
        have x0s : x0.size ≤ 268435456 := by omega
        clear hxs hxd hn hq hsl hdl
        go_enter Try.func77, Try.ntmps77
        go_upto_region 1 with fail
        have hp0 : Blk (W.alloc (.cells #[.string nb, .string db, .int .i64 sure] 38)) W.heap.size 38 #[.string nb, .string db, .int .i64 sure] := Blk.new _ _ _
        have hq0 : Blk ((W.alloc (.cells #[.string nb, .string db, .int .i64 sure] 38)).alloc (.cells #[.string ⟨#[]⟩, .string ⟨#[]⟩, .int .i64 0] 38)) (W.heap.size + 1) 38 #[.string ⟨#[]⟩, .string ⟨#[]⟩, .int .i64 0] := by
          have h := Blk.new (W.alloc (.cells #[.string nb, .string db, .int .i64 sure] 38)) 38 #[.string ⟨#[]⟩, .string ⟨#[]⟩, .int .i64 0]
          simpa using h
        have hp1 := hp0.alloc (.cells #[.string ⟨#[]⟩, .string ⟨#[]⟩, .int .i64 0] 38)
        have hB2 : Below W.heap.size W ((W.alloc (.cells #[.string nb, .string db, .int .i64 sure] 38)).alloc (.cells #[.string ⟨#[]⟩, .string ⟨#[]⟩, .int .i64 0] 38)) := ((Below.refl _ _).alloc (Nat.le_refl _) _).alloc (by simp) _
        obtain ⟨W2, hW2⟩ : ∃ W2, (W.alloc (.cells #[.string nb, .string db, .int .i64 sure] 38)).alloc (.cells #[.string ⟨#[]⟩, .string ⟨#[]⟩, .int .i64 0] 38) = W2 := ⟨_, rfl⟩
        rw [hW2] at hq0 hp1 hB2 ⊢
        obtain ⟨p, hp⟩ : ∃ p, W.heap.size = p := ⟨_, rfl⟩
        rw [hp] at hq0 hp1 ⊢
        have hpl := hq0.lt
        obtain ⟨gb, cap, w3, hcv, hrow, hvb, hB3, hs3⟩ := Dk.conv_bytes W2 x0 (by unfold maxLen; omega)
        have hgb : p + 1 < gb := by rw [hvb.out]; exact hpl
        have hP : Blk w3 p 38 #[.string nb, .string db, .int .i64 sure] := (hB3.block p (by omega)).trans hp1
        have hQ : Blk w3 (p + 1) 38 #[.string ⟨#[]⟩, .string ⟨#[]⟩, .int .i64 0] := (hB3.block (p + 1) hpl).trans hq0
        have hBf : Below W.heap.size W w3 := hB2.trans (hB3.mono hB2.size)
        have a0 := hp1.cell 0
        have a1 := hp1.cell 1
        have a2 := hp1.cell 2
        have b0 := hP.cell 0
        have e0 := hQ.cell 0
        have e1 := hQ.cell 1
        have e2 := hQ.cell 2
        have f0 := hQ.frozen 0
        have f1 := hQ.frozen 1
        have f2 := hQ.frozen 2
        simp only [List.getElem?_toArray, List.getElem?_cons_zero, List.getElem?_cons_succ] at a0 a1 a2 b0 e0 e1 e2
        have hc2 := hrow.conv 0 x0.size cap (by rw [← Tx.size]; omega)
        rw [List.drop_zero, Tx.size, List.take_length, ← Tx.size, Tx.v_eq (b := x0) rfl] at hc2
        have HF := Lib.hid (And.intro hQ hBf)
        have HPP := Lib.hid hp
        clear hp0 hq0 hp1 hB2 hW2 hpl hrow hvb hB3 hs3 hP hQ hBf hp
        go_wp2_with fail
        have hb1 := HF.out.2
        have hpp : W.heap.size ≤ p + 1 := by rw [HPP.out]; omega
        exact bodyPost_ret (v := .agg #[.string nb, .string x0, .int .i64 x0.size]) (by simp [results, Try.results77, go_sem, e0, e1, e2]) rfl ⟨x0, rfl, by rw [HLL.out, if_neg (by omega), HXD.out, HN.out], ((hb1.setCell (p := ⟨p + 1, 0, none⟩) hpp _).setCell (p := ⟨p + 1, 1, none⟩) hpp _).setCell (p := ⟨p + 1, 2, none⟩) hpp _⟩
        
    · have t2 : decide (d < j) = false := decide_eq_false h2
      have hl := HL.out j (by omega)
      by_cases h3 : 0 < j
      · have t3 : decide (0 < j) = true := decide_eq_true h3
        obtain ⟨n, hn⟩ : ∃ n, n = sure + j := ⟨_, rfl⟩
        have w5 : IntKind.i64.wrap ((sure : Int) + ((j : Nat) : Int)) = (n : Int) := (IntWalk.i64_in _ (by omega)).trans (by omega)
        have w6 : (n : Int) ≤ (db.size : Int) := by omega
        obtain ⟨x0, hx0, hxs, hxd⟩ := hq n (by omega)
        have HX0 := Lib.hid hxs
        have HLL := Lib.hid hl
        clear hl
        have HXD := Lib.hid hxd
        have HN := Lib.hid hn
        have hn26 : n ≤ 268435456 := by omega
        have x0s : x0.size ≤ 268435456 := by omega
        clear hxs hxd hn hq hsl hdl
        go_enter Try.func77, Try.ntmps77
        go_upto_region 1 with fail
        have hp0 : Blk (W.alloc (.cells #[.string nb, .string db, .int .i64 sure] 38)) W.heap.size 38 #[.string nb, .string db, .int .i64 sure] := Blk.new _ _ _
        have hq0 : Blk ((W.alloc (.cells #[.string nb, .string db, .int .i64 sure] 38)).alloc (.cells #[.string ⟨#[]⟩, .string ⟨#[]⟩, .int .i64 0] 38)) (W.heap.size + 1) 38 #[.string ⟨#[]⟩, .string ⟨#[]⟩, .int .i64 0] := by
          have h := Blk.new (W.alloc (.cells #[.string nb, .string db, .int .i64 sure] 38)) 38 #[.string ⟨#[]⟩, .string ⟨#[]⟩, .int .i64 0]
          simpa using h
        have hp1 := hp0.alloc (.cells #[.string ⟨#[]⟩, .string ⟨#[]⟩, .int .i64 0] 38)
        have hB2 : Below W.heap.size W ((W.alloc (.cells #[.string nb, .string db, .int .i64 sure] 38)).alloc (.cells #[.string ⟨#[]⟩, .string ⟨#[]⟩, .int .i64 0] 38)) := ((Below.refl _ _).alloc (Nat.le_refl _) _).alloc (by simp) _
        obtain ⟨W2, hW2⟩ : ∃ W2, (W.alloc (.cells #[.string nb, .string db, .int .i64 sure] 38)).alloc (.cells #[.string ⟨#[]⟩, .string ⟨#[]⟩, .int .i64 0] 38) = W2 := ⟨_, rfl⟩
        rw [hW2] at hq0 hp1 hB2 ⊢
        obtain ⟨p, hp⟩ : ∃ p, W.heap.size = p := ⟨_, rfl⟩
        rw [hp] at hq0 hp1 ⊢
        have hpl := hq0.lt
        obtain ⟨gb, cap, w3, hcv, hrow, hvb, hB3, hs3⟩ := Dk.conv_bytes W2 x0 (by unfold maxLen; omega)
        have hgb : p + 1 < gb := by rw [hvb.out]; exact hpl
        have hP : Blk w3 p 38 #[.string nb, .string db, .int .i64 sure] := (hB3.block p (by omega)).trans hp1
        have hQ : Blk w3 (p + 1) 38 #[.string ⟨#[]⟩, .string ⟨#[]⟩, .int .i64 0] := (hB3.block (p + 1) hpl).trans hq0
        have hBf : Below W.heap.size W w3 := hB2.trans (hB3.mono hB2.size)
        have a0 := hp1.cell 0
        have a1 := hp1.cell 1
        have a2 := hp1.cell 2
        have b0 := hP.cell 0
        have e0 := hQ.cell 0
        have e1 := hQ.cell 1
        have e2 := hQ.cell 2
        have f0 := hQ.frozen 0
        have f1 := hQ.frozen 1
        have f2 := hQ.frozen 2
        simp only [List.getElem?_toArray, List.getElem?_cons_zero, List.getElem?_cons_succ] at a0 a1 a2 b0 e0 e1 e2
        obtain ⟨n9, hn9⟩ : ∃ n9, x0.size - 1 = n9 := ⟨_, rfl⟩
        have hx0p : 0 < x0.size := by rw [HX0.out, HN.out]; omega
        have w9 : IntKind.i64.wrap ((x0.size : Int) - 1) = (n9 : Int) := (IntWalk.i64_in _ (by omega)).trans (by omega)
        have hlt9 : n9 < x0.size := by omega
        obtain ⟨bt, hbt⟩ : ∃ bt, x0.data.toList.getD n9 0 = bt := ⟨_, rfl⟩
        have hbt2 : x0.data.toList[n9]? = some bt := by
          rw [← hbt, List.getD_eq_getElem?_getD, List.getElem?_eq_getElem (by rw [← Tx.size]; exact hlt9)]; rfl
        obtain ⟨yy, hyy⟩ : ∃ yy, bt ^^^ sp = yy := ⟨_, rfl⟩
        have hxor : bits .xor .u8 (bt.toNat : Int) (sp.toNat : Int) = (yy.toNat : Int) := by rw [Dk.xor_u8, hyy]
        obtain ⟨g1, g2⟩ := hrow.turn hx0p yy
        have g3 := (hrow.cells).2 n9 bt hbt2
        rw [← Tx.size] at g2
        rw [hn9] at g1 g2
        obtain ⟨xb, hxb, hxbs⟩ := Tx.of (x0.data.toList.set n9 yy)
        rw [List.length_set, ← Tx.size] at hxbs
        have hc2 := g2.conv 0 x0.size cap (by rw [List.length_set, ← Tx.size]; omega)
        rw [List.drop_zero, List.take_of_length_le (by rw [List.length_set, ← Tx.size]; omega), Tx.v_eq hxb] at hc2
        have hB4 : Below W.heap.size W (w3.setCell ⟨gb, n9, none⟩ (.int .u8 yy.toNat)) := hBf.setCell (p := ⟨gb, n9, none⟩) (by show W.heap.size ≤ gb; omega) _
        have hP4 : Blk (w3.setCell ⟨gb, n9, none⟩ (.int .u8 yy.toNat)) p 38 #[.string nb, .string db, .int .i64 sure] := hP.far (p := ⟨gb, n9, none⟩) (by show p ≠ gb; omega) _
        have hQ4 : Blk (w3.setCell ⟨gb, n9, none⟩ (.int .u8 yy.toNat)) (p + 1) 38 #[.string ⟨#[]⟩, .string ⟨#[]⟩, .int .i64 0] := hQ.far (p := ⟨gb, n9, none⟩) (by show p + 1 ≠ gb; omega) _
        have HT := Lib.hid (show xb.data.toList = Dk.turn x0.data.toList sp by rw [hxb]; unfold Dk.turn; rw [← Tx.size, hn9, hbt, hyy])
        obtain ⟨w4, hw4⟩ : ∃ w4, w3.setCell ⟨gb, n9, none⟩ (.int .u8 yy.toNat) = w4 := ⟨_, rfl⟩
        rw [hw4] at hB4 hP4 hQ4 hc2
        have b40 := hP4.cell 0
        have e40 := hQ4.cell 0
        have e41 := hQ4.cell 1
        have e42 := hQ4.cell 2
        have f40 := hQ4.frozen 0
        have f41 := hQ4.frozen 1
        have f42 := hQ4.frozen 2
        simp only [List.getElem?_toArray, List.getElem?_cons_zero, List.getElem?_cons_succ] at b40 e40 e41 e42
        have HF := Lib.hid (And.intro hQ4 hB4)
        have HPP := Lib.hid hp
        have HXS := Lib.hid hxbs
        clear hp0 hq0 hp1 hB2 hW2 hpl hrow hvb hB3 hs3 hP hQ hBf hp hbt hbt2 hyy g2 hxb hxbs hB4 hP4 hQ4 hn9
        go_wp2_with fail
        have hb1 := HF.out.2
        have hpp : W.heap.size ≤ p + 1 := by rw [HPP.out]; omega
        exact bodyPost_ret (v := .agg #[.string nb, .string xb, .int .i64 x0.size]) (by simp [results, Try.results77, go_sem, e40, e41, e42]) rfl ⟨xb, by rw [HXS.out], by rw [HLL.out, if_pos (by omega), HT.out, HXD.out, HN.out], ((hb1.setCell (p := ⟨p + 1, 0, none⟩) hpp _).setCell (p := ⟨p + 1, 1, none⟩) hpp _).setCell (p := ⟨p + 1, 2, none⟩) hpp _⟩
        
      · have t3 : decide (0 < j) = false := decide_eq_false h3
        obtain ⟨n, hn⟩ : ∃ n, n = sure + j := ⟨_, rfl⟩
        have w5 : IntKind.i64.wrap ((sure : Int) + ((j : Nat) : Int)) = (n : Int) := (IntWalk.i64_in _ (by omega)).trans (by omega)
        have w6 : (n : Int) ≤ (db.size : Int) := by omega
        obtain ⟨x0, hx0, hxs, hxd⟩ := hq n (by omega)
        have HX0 := Lib.hid hxs
        have HLL := Lib.hid hl
        clear hl
        have HXD := Lib.hid hxd
        have HN := Lib.hid hn
        have hn26 : n ≤ 268435456 := by omega
        have x0s : x0.size ≤ 268435456 := by omega
        clear hxs hxd hn hq hsl hdl
        go_enter Try.func77, Try.ntmps77
        go_upto_region 1 with fail
        have hp0 : Blk (W.alloc (.cells #[.string nb, .string db, .int .i64 sure] 38)) W.heap.size 38 #[.string nb, .string db, .int .i64 sure] := Blk.new _ _ _
        have hq0 : Blk ((W.alloc (.cells #[.string nb, .string db, .int .i64 sure] 38)).alloc (.cells #[.string ⟨#[]⟩, .string ⟨#[]⟩, .int .i64 0] 38)) (W.heap.size + 1) 38 #[.string ⟨#[]⟩, .string ⟨#[]⟩, .int .i64 0] := by
          have h := Blk.new (W.alloc (.cells #[.string nb, .string db, .int .i64 sure] 38)) 38 #[.string ⟨#[]⟩, .string ⟨#[]⟩, .int .i64 0]
          simpa using h
        have hp1 := hp0.alloc (.cells #[.string ⟨#[]⟩, .string ⟨#[]⟩, .int .i64 0] 38)
        have hB2 : Below W.heap.size W ((W.alloc (.cells #[.string nb, .string db, .int .i64 sure] 38)).alloc (.cells #[.string ⟨#[]⟩, .string ⟨#[]⟩, .int .i64 0] 38)) := ((Below.refl _ _).alloc (Nat.le_refl _) _).alloc (by simp) _
        obtain ⟨W2, hW2⟩ : ∃ W2, (W.alloc (.cells #[.string nb, .string db, .int .i64 sure] 38)).alloc (.cells #[.string ⟨#[]⟩, .string ⟨#[]⟩, .int .i64 0] 38) = W2 := ⟨_, rfl⟩
        rw [hW2] at hq0 hp1 hB2 ⊢
        obtain ⟨p, hp⟩ : ∃ p, W.heap.size = p := ⟨_, rfl⟩
        rw [hp] at hq0 hp1 ⊢
        have hpl := hq0.lt
        obtain ⟨gb, cap, w3, hcv, hrow, hvb, hB3, hs3⟩ := Dk.conv_bytes W2 x0 (by unfold maxLen; omega)
        have hgb : p + 1 < gb := by rw [hvb.out]; exact hpl
        have hP : Blk w3 p 38 #[.string nb, .string db, .int .i64 sure] := (hB3.block p (by omega)).trans hp1
        have hQ : Blk w3 (p + 1) 38 #[.string ⟨#[]⟩, .string ⟨#[]⟩, .int .i64 0] := (hB3.block (p + 1) hpl).trans hq0
        have hBf : Below W.heap.size W w3 := hB2.trans (hB3.mono hB2.size)
        have a0 := hp1.cell 0
        have a1 := hp1.cell 1
        have a2 := hp1.cell 2
        have b0 := hP.cell 0
        have e0 := hQ.cell 0
        have e1 := hQ.cell 1
        have e2 := hQ.cell 2
        have f0 := hQ.frozen 0
        have f1 := hQ.frozen 1
        have f2 := hQ.frozen 2
        simp only [List.getElem?_toArray, List.getElem?_cons_zero, List.getElem?_cons_succ] at a0 a1 a2 b0 e0 e1 e2
        have hc2 := hrow.conv 0 x0.size cap (by rw [← Tx.size]; omega)
        rw [List.drop_zero, Tx.size, List.take_length, ← Tx.size, Tx.v_eq (b := x0) rfl] at hc2
        have HF := Lib.hid (And.intro hQ hBf)
        have HPP := Lib.hid hp
        clear hp0 hq0 hp1 hB2 hW2 hpl hrow hvb hB3 hs3 hP hQ hBf hp
        go_wp2_with fail
        have hb1 := HF.out.2
        have hpp : W.heap.size ≤ p + 1 := by rw [HPP.out]; omega
        exact bodyPost_ret (v := .agg #[.string nb, .string x0, .int .i64 x0.size]) (by simp [results, Try.results77, go_sem, e0, e1, e2]) rfl ⟨x0, rfl, by rw [HLL.out, if_neg (by omega), HXD.out, HN.out], ((hb1.setCell (p := ⟨p + 1, 0, none⟩) hpp _).setCell (p := ⟨p + 1, 1, none⟩) hpp _).setCell (p := ⟨p + 1, 2, none⟩) hpp _⟩
        
#print axioms Dr.left_any
end Go.Proofs.Ytgbeeghdoilmkaa
