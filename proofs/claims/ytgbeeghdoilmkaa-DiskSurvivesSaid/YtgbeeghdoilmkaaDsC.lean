/- What is known of files: what a crash leaves. Conditions: each theorem's own hypotheses. -/
import Derived.Test.YtgbeeghdoilmkaaDsB
import Derived.Test.YtgbeeghdoilmkaaDrN
namespace Go.Proofs.Ytgbeeghdoilmkaa
open Go.RowKit Go.Maps Go.Sort
set_option linter.unusedVariables false

set_option maxRecDepth 100000 in
set_option maxHeartbeats 4000000 in
theorem Ds.kept_any (W : World) (f : Dk.F) {nb db : ByteArray} (hnb : nb.data.toList = f.name) (hdb : db.data.toList = f.data) (hfs : f.sure ≤ f.data.length) (hfl : f.data.length ≤ 268435456) {cv : Value} {cs : List Dk.Cut} (hc : Dk.Cts W cv cs) (hcl : cs.length ≤ 140737488355328) :
    Calls Try.prog 19 #[.agg #[.string nb, .string db, .int .i64 f.sure], cv] W fun e W' => ∃ xb : ByteArray, e = .returned (.agg #[.string nb, .string xb, .int .i64 xb.size]) ∧ xb.data.toList = (Dk.left cs f).data ∧ Below W.heap.size W W' := by
  have HNB := Lib.hid hnb
  have HDB := Lib.hid hdb
  have hfs0 := hfs
  obtain ⟨ca, cc, rfl⟩ := hc.form
  have w0 : IntKind.i64.wrap ((cs.length : Int) - 1) = (cs.length : Int) - 1 := IntWalk.i64_in _ (by omega)
  have hds : db.size = f.data.length := by rw [Tx.size, hdb]
  obtain ⟨sure, hsure⟩ : ∃ z, f.sure = z := ⟨_, rfl⟩
  rw [hsure]
  obtain ⟨d, hd⟩ : ∃ d, d = db.size - sure := ⟨_, rfl⟩
  have w1 : IntKind.i64.wrap ((db.size : Int) - (sure : Int)) = (d : Int) := (IntWalk.i64_in _ (by omega)).trans (by omega)
  have hkept : ∀ c : Dk.Cut, Dk.kept c f = min (max c.keep 0).toNat d := fun c => by unfold Dk.kept; rw [hsure, hd, hds]
  have HSU := Lib.hid hsure
  have HK := Lib.hid hkept
  have hdl : d ≤ db.size := by omega
  have hsl : sure + d = db.size := by omega
  have hds2 : db.size ≤ 268435456 := by omega
  clear hkept hnb hdb hsure hds hd hfs hfl
  have hq : ∀ n, n ≤ db.size → ∃ x0 : ByteArray, db.extract 0 n = x0 ∧ x0.size = n ∧ x0.data.toList = f.data.take n := fun n hn => by
    refine ⟨_, rfl, ?_, ?_⟩
    · rw [Tx.size, Tx.extract, List.drop_zero, Nat.sub_zero, List.length_take, ← Tx.size]; omega
    · rw [Tx.extract, List.drop_zero, Nat.sub_zero, HDB.out]
  go_enter Try.func19, Try.ntmps19
  go_upto_region 1 with fail
  have hp0 : Blk (W.alloc (.cells #[.string nb, .string db, .int .i64 sure] 50)) W.heap.size 50 #[.string nb, .string db, .int .i64 sure] := Blk.new _ _ _
  have hq0 : Blk ((W.alloc (.cells #[.string nb, .string db, .int .i64 sure] 50)).alloc (.cells #[.string ⟨#[]⟩, .string ⟨#[]⟩, .int .i64 0] 50)) (W.heap.size + 1) 50 #[.string ⟨#[]⟩, .string ⟨#[]⟩, .int .i64 0] := by
    have h := Blk.new (W.alloc (.cells #[.string nb, .string db, .int .i64 sure] 50)) 50 #[.string ⟨#[]⟩, .string ⟨#[]⟩, .int .i64 0]
    simpa using h
  have hp1 := hp0.alloc (.cells #[.string ⟨#[]⟩, .string ⟨#[]⟩, .int .i64 0] 50)
  have hB2 : Below W.heap.size W ((W.alloc (.cells #[.string nb, .string db, .int .i64 sure] 50)).alloc (.cells #[.string ⟨#[]⟩, .string ⟨#[]⟩, .int .i64 0] 50)) := ((Below.refl _ _).alloc (Nat.le_refl _) _).alloc (by simp) _
  obtain ⟨W2, hW2⟩ : ∃ W2, (W.alloc (.cells #[.string nb, .string db, .int .i64 sure] 50)).alloc (.cells #[.string ⟨#[]⟩, .string ⟨#[]⟩, .int .i64 0] 50) = W2 := ⟨_, rfl⟩
  rw [hW2] at hq0 hp1 hB2 ⊢
  have hcr := hc.keep hB2.size fun k hk => hB2.block k hk
  obtain ⟨p, hp⟩ : ∃ p, W.heap.size = p := ⟨_, rfl⟩
  rw [hp] at hq0 hp1 ⊢
  have HPP := Lib.hid hp
  have hpl := hq0.lt
  have z0 := hp1.cell 0
  simp only [List.getElem?_toArray, List.getElem?_cons_zero] at z0
  clear hp0 hW2 hp
  go_wp2_with fail
  go_loopw [5, 6, 7] (fun kp sp q wi => ∃ (j n : Nat) (x : Dk.Cut) (z : Int), j ≤ cs.length ∧ q = .int .i64 z ∧ z = (j : Int) - 1 ∧ Hid (Dk.cutOf (cs.drop j) f.name = x) ∧ kp = .int .i64 x.keep ∧ sp = .int .u8 x.spoil.toNat ∧ wi = W2.drewN n) (fun _ _ q _ => (intOf q + 1).toNat)
  case atStart => exact ⟨cs.length, 0, Dk.cutZ, _, Nat.le_refl _, rfl, rfl, Lib.hid (by rw [List.drop_length]; rfl), rfl, rfl, rfl⟩
  case round =>
    obtain ⟨j, n, x, z, hj, rfl, hz, HX, rfl, rfl, rfl⟩ := hrel
    cases j with
    | succ j =>
      obtain rfl : z = (j : Int) := by omega
      clear hz hq
      obtain ⟨y, hy⟩ : ∃ y, cs[j]? = some y := ⟨_, List.getElem?_eq_getElem (by omega)⟩
      obtain ⟨g2, off, rfl, y0, y1, y2⟩ := Dr.cut_at hcr hy
      obtain ⟨yb, hyb, _⟩ := Tx.of y.name
      rw [Tx.v_eq hyb] at y0
      have hdr : cs.drop j = y :: cs.drop (j + 1) := by
        rw [List.drop_eq_getElem_cons (show j < cs.length by omega)]
        rw [List.getElem?_eq_getElem (show j < cs.length by omega)] at hy
        rw [Option.some.inj hy]
      have hlt2 : j < cs.length := by omega
      have w8 : IntKind.i64.wrap ((j : Int) - 1) = (j : Int) - 1 := IntWalk.i64_in _ (by omega)
      by_cases he : y.name = f.name
      · have t1 : (yb.toList == nb.toList) = true := by rw [Tx.beq, hyb, HNB.out]; exact decide_eq_true he
        have HX2 : Hid (Dk.cutOf (cs.drop j) f.name = y) := Lib.hid (by rw [hdr, Dr.cutOf_cons, if_pos he])
        clear hy hyb hdr he HX
        go_wp2_with fail
        go_quiet (fail)
        go_wp2_with fail
        go_roundw
        case rel => exact ⟨j, _, y, _, by omega, rfl, rfl, HX2, rfl, rfl, by first | rfl | rw [World.drewN_drewN]⟩
        case measure => first | (simp [intOf]; done) | (simp [intOf]; omega)
      · have t1 : (yb.toList == nb.toList) = false := by rw [Tx.beq, hyb, HNB.out]; exact decide_eq_false he
        have HX2 : Hid (Dk.cutOf (cs.drop j) f.name = x) := Lib.hid (by rw [hdr, Dr.cutOf_cons, if_neg he]; exact HX.out)
        clear hy hyb hdr he HX
        go_wp2_with fail
        go_quiet (fail)
        go_wp2_with fail
        go_roundw
        case rel => exact ⟨j, _, x, _, by omega, rfl, rfl, HX2, rfl, rfl, by first | rfl | rw [World.drewN_drewN]⟩
        case measure => first | (simp [intOf]; done) | (simp [intOf]; omega)
    | zero =>
      obtain rfl : z = -1 := by omega
      clear hz
      have hpd : Blk (W2.drewN n) p 50 #[.string nb, .string db, .int .i64 sure] := hp1
      have hqd : Blk (W2.drewN n) (p + 1) 50 #[.string ⟨#[]⟩, .string ⟨#[]⟩, .int .i64 0] := hq0
      have hBd : Below W.heap.size W (W2.drewN n) := below_dn hB2 n
      obtain ⟨W3, hW3⟩ : ∃ W3, W2.drewN n = W3 := ⟨_, rfl⟩
      rw [hW3] at hpd hqd hBd ⊢
      have hpl3 := hqd.lt
      have hleave := Dr.leave_data x f
      rw [HSU.out, HK.out] at hleave
      have hlx : (Dk.left cs f).data = (Dk.leave x f).data := by unfold Dk.left; rw [show Dk.cutOf cs f.name = x from HX.out]
      rw [← hlx] at hleave
      obtain ⟨keep, hkeep⟩ : ∃ z, x.keep = z := ⟨_, rfl⟩
      obtain ⟨sp, hsp⟩ : ∃ z, x.spoil = z := ⟨_, rfl⟩
      rw [hkeep, hsp] at hleave
      rw [hkeep, hsp]
      have HL := Lib.hid hleave
      clear hleave hkeep hsp hlx hW3 hpl z0 hcr hc hq0 hp1 hB2 HX w0 hj
      by_cases h1 : keep < 0
      · have t1 : decide (keep < 0) = true := decide_eq_true h1
        have t2 : decide ((d : Int) < 0) = false := decide_eq_false (by omega)
        have hl := HL.out 0 (by omega)
        obtain ⟨n, hn⟩ : ∃ n, n = sure + 0 := ⟨_, rfl⟩
        have w5 : IntKind.i64.wrap ((sure : Int)) = (n : Int) := (IntWalk.i64_in _ (by omega)).trans (by omega)
        have w6 : (n : Int) ≤ (db.size : Int) := by omega
        obtain ⟨x0, hx0, hxs, hxd⟩ := hq n (by omega)
        have HX0 := Lib.hid hxs
        have HLL := Lib.hid hl
        clear hl
        have HXD := Lib.hid hxd
        have HN := Lib.hid hn
        have hn26 : n ≤ 268435456 := by omega
        have x0s : x0.size ≤ 268435456 := by omega
        clear hxs hxd hn hq hsl hdl
        obtain ⟨gb, cap, w3, hcv, hrow, hvb, hB3, hs3⟩ := Dk.conv_bytes W3 x0 (by unfold maxLen; omega)
        have hgb : p + 1 < gb := by rw [hvb.out]; exact hpl3
        have hP : Blk w3 p 50 #[.string nb, .string db, .int .i64 sure] := (hB3.block p (by omega)).trans hpd
        have hQ : Blk w3 (p + 1) 50 #[.string ⟨#[]⟩, .string ⟨#[]⟩, .int .i64 0] := (hB3.block (p + 1) hpl3).trans hqd
        have hBf : Below W.heap.size W w3 := hBd.trans (hB3.mono hBd.size)
        have a0 := hpd.cell 0
        have a1 := hpd.cell 1
        have a2 := hpd.cell 2
        have b0 := hP.cell 0
        have e0 := hQ.cell 0
        have e1 := hQ.cell 1
        have e2 := hQ.cell 2
        have f0 := hQ.frozen 0
        have f1 := hQ.frozen 1
        have f2 := hQ.frozen 2
        simp only [List.getElem?_toArray, List.getElem?_cons_zero, List.getElem?_cons_succ] at a0 a1 a2 b0 e0 e1 e2
        have hc2 := hrow.conv 0 x0.size cap (by rw [← Tx.size]; omega)
        rw [List.drop_zero, Tx.size, List.take_length, ← Tx.size, Tx.v_eq (b := x0) rfl] at hc2
        have HF := Lib.hid (And.intro hQ hBf)
        clear hqd hpd hBd hpl3 hrow hvb hB3 hs3 hP hQ hBf
        go_wp2_with fail
        have hb1 := HF.out.2
        have hpp : W.heap.size ≤ p + 1 := by rw [HPP.out]; omega
        exact bodyPost_ret (v := .agg #[.string nb, .string x0, .int .i64 x0.size]) (by simp [results, Try.results19, go_sem, e0, e1, e2]) rfl ⟨x0, rfl, by rw [HLL.out, if_neg (by omega), HXD.out, HN.out], ((hb1.setCell (p := ⟨p + 1, 0, none⟩) hpp _).setCell (p := ⟨p + 1, 1, none⟩) hpp _).setCell (p := ⟨p + 1, 2, none⟩) hpp _⟩
        
      · have t1 : decide (keep < 0) = false := decide_eq_false h1
        obtain ⟨j, rfl⟩ := Int.eq_ofNat_of_zero_le (Int.not_lt.1 h1)
        by_cases h2 : d < j
        · have t2 : decide (d < j) = true := decide_eq_true h2
          have hl := HL.out d (by omega)
          by_cases h3 : 0 < d
          · have t3 : decide (0 < d) = true := decide_eq_true h3
            obtain ⟨n, hn⟩ : ∃ n, n = sure + d := ⟨_, rfl⟩
            have w5 : IntKind.i64.wrap ((sure : Int) + ((d : Nat) : Int)) = (n : Int) := (IntWalk.i64_in _ (by omega)).trans (by omega)
            have w6 : (n : Int) ≤ (db.size : Int) := by omega
            obtain ⟨x0, hx0, hxs, hxd⟩ := hq n (by omega)
            have HX0 := Lib.hid hxs
            have HLL := Lib.hid hl
            clear hl
            have HXD := Lib.hid hxd
            have HN := Lib.hid hn
            have hn26 : n ≤ 268435456 := by omega
            have x0s : x0.size ≤ 268435456 := by omega
            clear hxs hxd hn hq hsl hdl
            obtain ⟨gb, cap, w3, hcv, hrow, hvb, hB3, hs3⟩ := Dk.conv_bytes W3 x0 (by unfold maxLen; omega)
            have hgb : p + 1 < gb := by rw [hvb.out]; exact hpl3
            have hP : Blk w3 p 50 #[.string nb, .string db, .int .i64 sure] := (hB3.block p (by omega)).trans hpd
            have hQ : Blk w3 (p + 1) 50 #[.string ⟨#[]⟩, .string ⟨#[]⟩, .int .i64 0] := (hB3.block (p + 1) hpl3).trans hqd
            have hBf : Below W.heap.size W w3 := hBd.trans (hB3.mono hBd.size)
            have a0 := hpd.cell 0
            have a1 := hpd.cell 1
            have a2 := hpd.cell 2
            have b0 := hP.cell 0
            have e0 := hQ.cell 0
            have e1 := hQ.cell 1
            have e2 := hQ.cell 2
            have f0 := hQ.frozen 0
            have f1 := hQ.frozen 1
            have f2 := hQ.frozen 2
            simp only [List.getElem?_toArray, List.getElem?_cons_zero, List.getElem?_cons_succ] at a0 a1 a2 b0 e0 e1 e2
            obtain ⟨n9, hn9⟩ : ∃ n9, x0.size - 1 = n9 := ⟨_, rfl⟩
            have hx0p : 0 < x0.size := by rw [HX0.out, HN.out]; omega
            have w9 : IntKind.i64.wrap ((x0.size : Int) - 1) = (n9 : Int) := (IntWalk.i64_in _ (by omega)).trans (by omega)
            have hlt9 : n9 < x0.size := by omega
            obtain ⟨bt, hbt⟩ : ∃ bt, x0.data.toList.getD n9 0 = bt := ⟨_, rfl⟩
            have hbt2 : x0.data.toList[n9]? = some bt := by
              rw [← hbt, List.getD_eq_getElem?_getD, List.getElem?_eq_getElem (by rw [← Tx.size]; exact hlt9)]; rfl
            obtain ⟨yy, hyy⟩ : ∃ yy, bt ^^^ sp = yy := ⟨_, rfl⟩
            have hxor : bits .xor .u8 (bt.toNat : Int) (sp.toNat : Int) = (yy.toNat : Int) := by rw [Dk.xor_u8, hyy]
            obtain ⟨g1, g2⟩ := hrow.turn hx0p yy
            have g3 := (hrow.cells).2 n9 bt hbt2
            rw [← Tx.size] at g2
            rw [hn9] at g1 g2
            obtain ⟨xb, hxb, hxbs⟩ := Tx.of (x0.data.toList.set n9 yy)
            rw [List.length_set, ← Tx.size] at hxbs
            have hc2 := g2.conv 0 x0.size cap (by rw [List.length_set, ← Tx.size]; omega)
            rw [List.drop_zero, List.take_of_length_le (by rw [List.length_set, ← Tx.size]; omega), Tx.v_eq hxb] at hc2
            have hB4 : Below W.heap.size W (w3.setCell ⟨gb, n9, none⟩ (.int .u8 yy.toNat)) := hBf.setCell (p := ⟨gb, n9, none⟩) (by show W.heap.size ≤ gb; rw [HPP.out]; omega) _
            have hP4 : Blk (w3.setCell ⟨gb, n9, none⟩ (.int .u8 yy.toNat)) p 50 #[.string nb, .string db, .int .i64 sure] := hP.far (p := ⟨gb, n9, none⟩) (by show p ≠ gb; omega) _
            have hQ4 : Blk (w3.setCell ⟨gb, n9, none⟩ (.int .u8 yy.toNat)) (p + 1) 50 #[.string ⟨#[]⟩, .string ⟨#[]⟩, .int .i64 0] := hQ.far (p := ⟨gb, n9, none⟩) (by show p + 1 ≠ gb; omega) _
            have HT := Lib.hid (show xb.data.toList = Dk.turn x0.data.toList sp by rw [hxb]; unfold Dk.turn; rw [← Tx.size, hn9, hbt, hyy])
            obtain ⟨w4, hw4⟩ : ∃ w4, w3.setCell ⟨gb, n9, none⟩ (.int .u8 yy.toNat) = w4 := ⟨_, rfl⟩
            rw [hw4] at hB4 hP4 hQ4 hc2
            have b40 := hP4.cell 0
            have e40 := hQ4.cell 0
            have e41 := hQ4.cell 1
            have e42 := hQ4.cell 2
            have f40 := hQ4.frozen 0
            have f41 := hQ4.frozen 1
            have f42 := hQ4.frozen 2
            simp only [List.getElem?_toArray, List.getElem?_cons_zero, List.getElem?_cons_succ] at b40 e40 e41 e42
            have HF := Lib.hid (And.intro hQ4 hB4)
            have HXS := Lib.hid hxbs
            clear hqd hpd hBd hpl3 hrow hvb hB3 hs3 hP hQ hBf hbt hbt2 hyy g2 hxb hxbs hB4 hP4 hQ4 hn9
            go_wp2_with fail
            have hb1 := HF.out.2
            have hpp : W.heap.size ≤ p + 1 := by rw [HPP.out]; omega
            exact bodyPost_ret (v := .agg #[.string nb, .string xb, .int .i64 x0.size]) (by simp [results, Try.results19, go_sem, e40, e41, e42]) rfl ⟨xb, by rw [HXS.out], by rw [HLL.out, if_pos (by omega), HT.out, HXD.out, HN.out], ((hb1.setCell (p := ⟨p + 1, 0, none⟩) hpp _).setCell (p := ⟨p + 1, 1, none⟩) hpp _).setCell (p := ⟨p + 1, 2, none⟩) hpp _⟩
            
          · have t3 : decide (0 < d) = false := decide_eq_false h3
            obtain ⟨n, hn⟩ : ∃ n, n = sure + d := ⟨_, rfl⟩
            have w5 : IntKind.i64.wrap ((sure : Int) + ((d : Nat) : Int)) = (n : Int) := (IntWalk.i64_in _ (by omega)).trans (by omega)
            have w6 : (n : Int) ≤ (db.size : Int) := by omega
            obtain ⟨x0, hx0, hxs, hxd⟩ := hq n (by omega)
            have HX0 := Lib.hid hxs
            have HLL := Lib.hid hl
            clear hl
            have HXD := Lib.hid hxd
            have HN := Lib.hid hn
            have hn26 : n ≤ 268435456 := by omega
            have x0s : x0.size ≤ 268435456 := by omega
            clear hxs hxd hn hq hsl hdl
            obtain ⟨gb, cap, w3, hcv, hrow, hvb, hB3, hs3⟩ := Dk.conv_bytes W3 x0 (by unfold maxLen; omega)
            have hgb : p + 1 < gb := by rw [hvb.out]; exact hpl3
            have hP : Blk w3 p 50 #[.string nb, .string db, .int .i64 sure] := (hB3.block p (by omega)).trans hpd
            have hQ : Blk w3 (p + 1) 50 #[.string ⟨#[]⟩, .string ⟨#[]⟩, .int .i64 0] := (hB3.block (p + 1) hpl3).trans hqd
            have hBf : Below W.heap.size W w3 := hBd.trans (hB3.mono hBd.size)
            have a0 := hpd.cell 0
            have a1 := hpd.cell 1
            have a2 := hpd.cell 2
            have b0 := hP.cell 0
            have e0 := hQ.cell 0
            have e1 := hQ.cell 1
            have e2 := hQ.cell 2
            have f0 := hQ.frozen 0
            have f1 := hQ.frozen 1
            have f2 := hQ.frozen 2
            simp only [List.getElem?_toArray, List.getElem?_cons_zero, List.getElem?_cons_succ] at a0 a1 a2 b0 e0 e1 e2
            have hc2 := hrow.conv 0 x0.size cap (by rw [← Tx.size]; omega)
            rw [List.drop_zero, Tx.size, List.take_length, ← Tx.size, Tx.v_eq (b := x0) rfl] at hc2
            have HF := Lib.hid (And.intro hQ hBf)
            clear hqd hpd hBd hpl3 hrow hvb hB3 hs3 hP hQ hBf
            go_wp2_with fail
            have hb1 := HF.out.2
            have hpp : W.heap.size ≤ p + 1 := by rw [HPP.out]; omega
            exact bodyPost_ret (v := .agg #[.string nb, .string x0, .int .i64 x0.size]) (by simp [results, Try.results19, go_sem, e0, e1, e2]) rfl ⟨x0, rfl, by rw [HLL.out, if_neg (by omega), HXD.out, HN.out], ((hb1.setCell (p := ⟨p + 1, 0, none⟩) hpp _).setCell (p := ⟨p + 1, 1, none⟩) hpp _).setCell (p := ⟨p + 1, 2, none⟩) hpp _⟩
            
        · have t2 : decide (d < j) = false := decide_eq_false h2
          have hl := HL.out j (by omega)
          by_cases h3 : 0 < j
          · have t3 : decide (0 < j) = true := decide_eq_true h3
            obtain ⟨n, hn⟩ : ∃ n, n = sure + j := ⟨_, rfl⟩
            have w5 : IntKind.i64.wrap ((sure : Int) + ((j : Nat) : Int)) = (n : Int) := (IntWalk.i64_in _ (by omega)).trans (by omega)
            have w6 : (n : Int) ≤ (db.size : Int) := by omega
            obtain ⟨x0, hx0, hxs, hxd⟩ := hq n (by omega)
            have HX0 := Lib.hid hxs
            have HLL := Lib.hid hl
            clear hl
            have HXD := Lib.hid hxd
            have HN := Lib.hid hn
            have hn26 : n ≤ 268435456 := by omega
            have x0s : x0.size ≤ 268435456 := by omega
            clear hxs hxd hn hq hsl hdl
            obtain ⟨gb, cap, w3, hcv, hrow, hvb, hB3, hs3⟩ := Dk.conv_bytes W3 x0 (by unfold maxLen; omega)
            have hgb : p + 1 < gb := by rw [hvb.out]; exact hpl3
            have hP : Blk w3 p 50 #[.string nb, .string db, .int .i64 sure] := (hB3.block p (by omega)).trans hpd
            have hQ : Blk w3 (p + 1) 50 #[.string ⟨#[]⟩, .string ⟨#[]⟩, .int .i64 0] := (hB3.block (p + 1) hpl3).trans hqd
            have hBf : Below W.heap.size W w3 := hBd.trans (hB3.mono hBd.size)
            have a0 := hpd.cell 0
            have a1 := hpd.cell 1
            have a2 := hpd.cell 2
            have b0 := hP.cell 0
            have e0 := hQ.cell 0
            have e1 := hQ.cell 1
            have e2 := hQ.cell 2
            have f0 := hQ.frozen 0
            have f1 := hQ.frozen 1
            have f2 := hQ.frozen 2
            simp only [List.getElem?_toArray, List.getElem?_cons_zero, List.getElem?_cons_succ] at a0 a1 a2 b0 e0 e1 e2
            obtain ⟨n9, hn9⟩ : ∃ n9, x0.size - 1 = n9 := ⟨_, rfl⟩
            have hx0p : 0 < x0.size := by rw [HX0.out, HN.out]; omega
            have w9 : IntKind.i64.wrap ((x0.size : Int) - 1) = (n9 : Int) := (IntWalk.i64_in _ (by omega)).trans (by omega)
            have hlt9 : n9 < x0.size := by omega
            obtain ⟨bt, hbt⟩ : ∃ bt, x0.data.toList.getD n9 0 = bt := ⟨_, rfl⟩
            have hbt2 : x0.data.toList[n9]? = some bt := by
              rw [← hbt, List.getD_eq_getElem?_getD, List.getElem?_eq_getElem (by rw [← Tx.size]; exact hlt9)]; rfl
            obtain ⟨yy, hyy⟩ : ∃ yy, bt ^^^ sp = yy := ⟨_, rfl⟩
            have hxor : bits .xor .u8 (bt.toNat : Int) (sp.toNat : Int) = (yy.toNat : Int) := by rw [Dk.xor_u8, hyy]
            obtain ⟨g1, g2⟩ := hrow.turn hx0p yy
            have g3 := (hrow.cells).2 n9 bt hbt2
            rw [← Tx.size] at g2
            rw [hn9] at g1 g2
            obtain ⟨xb, hxb, hxbs⟩ := Tx.of (x0.data.toList.set n9 yy)
            rw [List.length_set, ← Tx.size] at hxbs
            have hc2 := g2.conv 0 x0.size cap (by rw [List.length_set, ← Tx.size]; omega)
            rw [List.drop_zero, List.take_of_length_le (by rw [List.length_set, ← Tx.size]; omega), Tx.v_eq hxb] at hc2
            have hB4 : Below W.heap.size W (w3.setCell ⟨gb, n9, none⟩ (.int .u8 yy.toNat)) := hBf.setCell (p := ⟨gb, n9, none⟩) (by show W.heap.size ≤ gb; rw [HPP.out]; omega) _
            have hP4 : Blk (w3.setCell ⟨gb, n9, none⟩ (.int .u8 yy.toNat)) p 50 #[.string nb, .string db, .int .i64 sure] := hP.far (p := ⟨gb, n9, none⟩) (by show p ≠ gb; omega) _
            have hQ4 : Blk (w3.setCell ⟨gb, n9, none⟩ (.int .u8 yy.toNat)) (p + 1) 50 #[.string ⟨#[]⟩, .string ⟨#[]⟩, .int .i64 0] := hQ.far (p := ⟨gb, n9, none⟩) (by show p + 1 ≠ gb; omega) _
            have HT := Lib.hid (show xb.data.toList = Dk.turn x0.data.toList sp by rw [hxb]; unfold Dk.turn; rw [← Tx.size, hn9, hbt, hyy])
            obtain ⟨w4, hw4⟩ : ∃ w4, w3.setCell ⟨gb, n9, none⟩ (.int .u8 yy.toNat) = w4 := ⟨_, rfl⟩
            rw [hw4] at hB4 hP4 hQ4 hc2
            have b40 := hP4.cell 0
            have e40 := hQ4.cell 0
            have e41 := hQ4.cell 1
            have e42 := hQ4.cell 2
            have f40 := hQ4.frozen 0
            have f41 := hQ4.frozen 1
            have f42 := hQ4.frozen 2
            simp only [List.getElem?_toArray, List.getElem?_cons_zero, List.getElem?_cons_succ] at b40 e40 e41 e42
            have HF := Lib.hid (And.intro hQ4 hB4)
            have HXS := Lib.hid hxbs
            clear hqd hpd hBd hpl3 hrow hvb hB3 hs3 hP hQ hBf hbt hbt2 hyy g2 hxb hxbs hB4 hP4 hQ4 hn9
            go_wp2_with fail
            have hb1 := HF.out.2
            have hpp : W.heap.size ≤ p + 1 := by rw [HPP.out]; omega
            exact bodyPost_ret (v := .agg #[.string nb, .string xb, .int .i64 x0.size]) (by simp [results, Try.results19, go_sem, e40, e41, e42]) rfl ⟨xb, by rw [HXS.out], by rw [HLL.out, if_pos (by omega), HT.out, HXD.out, HN.out], ((hb1.setCell (p := ⟨p + 1, 0, none⟩) hpp _).setCell (p := ⟨p + 1, 1, none⟩) hpp _).setCell (p := ⟨p + 1, 2, none⟩) hpp _⟩
            
          · have t3 : decide (0 < j) = false := decide_eq_false h3
            obtain ⟨n, hn⟩ : ∃ n, n = sure + j := ⟨_, rfl⟩
            have w5 : IntKind.i64.wrap ((sure : Int) + ((j : Nat) : Int)) = (n : Int) := (IntWalk.i64_in _ (by omega)).trans (by omega)
            have w6 : (n : Int) ≤ (db.size : Int) := by omega
            obtain ⟨x0, hx0, hxs, hxd⟩ := hq n (by omega)
            have HX0 := Lib.hid hxs
            have HLL := Lib.hid hl
            clear hl
            have HXD := Lib.hid hxd
            have HN := Lib.hid hn
            have hn26 : n ≤ 268435456 := by omega
            have x0s : x0.size ≤ 268435456 := by omega
            clear hxs hxd hn hq hsl hdl
            obtain ⟨gb, cap, w3, hcv, hrow, hvb, hB3, hs3⟩ := Dk.conv_bytes W3 x0 (by unfold maxLen; omega)
            have hgb : p + 1 < gb := by rw [hvb.out]; exact hpl3
            have hP : Blk w3 p 50 #[.string nb, .string db, .int .i64 sure] := (hB3.block p (by omega)).trans hpd
            have hQ : Blk w3 (p + 1) 50 #[.string ⟨#[]⟩, .string ⟨#[]⟩, .int .i64 0] := (hB3.block (p + 1) hpl3).trans hqd
            have hBf : Below W.heap.size W w3 := hBd.trans (hB3.mono hBd.size)
            have a0 := hpd.cell 0
            have a1 := hpd.cell 1
            have a2 := hpd.cell 2
            have b0 := hP.cell 0
            have e0 := hQ.cell 0
            have e1 := hQ.cell 1
            have e2 := hQ.cell 2
            have f0 := hQ.frozen 0
            have f1 := hQ.frozen 1
            have f2 := hQ.frozen 2
            simp only [List.getElem?_toArray, List.getElem?_cons_zero, List.getElem?_cons_succ] at a0 a1 a2 b0 e0 e1 e2
            have hc2 := hrow.conv 0 x0.size cap (by rw [← Tx.size]; omega)
            rw [List.drop_zero, Tx.size, List.take_length, ← Tx.size, Tx.v_eq (b := x0) rfl] at hc2
            have HF := Lib.hid (And.intro hQ hBf)
            clear hqd hpd hBd hpl3 hrow hvb hB3 hs3 hP hQ hBf
            go_wp2_with fail
            have hb1 := HF.out.2
            have hpp : W.heap.size ≤ p + 1 := by rw [HPP.out]; omega
            exact bodyPost_ret (v := .agg #[.string nb, .string x0, .int .i64 x0.size]) (by simp [results, Try.results19, go_sem, e0, e1, e2]) rfl ⟨x0, rfl, by rw [HLL.out, if_neg (by omega), HXD.out, HN.out], ((hb1.setCell (p := ⟨p + 1, 0, none⟩) hpp _).setCell (p := ⟨p + 1, 1, none⟩) hpp _).setCell (p := ⟨p + 1, 2, none⟩) hpp _⟩
            
#print axioms Ds.kept_any
end Go.Proofs.Ytgbeeghdoilmkaa
