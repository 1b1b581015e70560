/- The law ManifestFull: its walk. Conditions: each theorem's own hypotheses. -/
import Derived.Test.YtknemjnlcghafaaDoorMsC
namespace Go.Proofs.YtknemjnlcghafaaDoor
open Go.RowKit
set_option linter.unusedVariables false

theorem Ms.num_q (e : Int) (w : World) : Calls Tryd.prog 7 #[.int .i64 e] w fun r w' => r = .returned (.int .i64 e) ∧ w = w' := (num_any e w).mono fun e w' ⟨a, b⟩ => ⟨a, b.symm⟩
set_option maxRecDepth 100000 in
set_option maxHeartbeats 20000000 in
theorem Ms.full_walk (M1 : Man) (A1 : Option Addr) (c1 : Nat) (M2 : Man) (A2 : Option Addr) (c2 : Nat) (room : Int) (W : World) (R1 : Rs W W.heap.size A1 M1.runs) (R2 : Rs W W.heap.size A2 M2.runs) (l1 : M1.runs.length ≤ 4398046511104) (l2 : M2.runs.length ≤ 4398046511104) (hT : TabS W) :
    Calls Tryd.prog 3 #[.agg #[.int .i64 M1.w, .int .i64 M1.c, .int .i64 M1.m, .int .i64 M1.seq, .int .i64 M1.next, .int .i64 M1.jr, .slice A1 M1.runs.length c1], .agg #[.int .i64 M2.w, .int .i64 M2.c, .int .i64 M2.m, .int .i64 M2.seq, .int .i64 M2.next, .int .i64 M2.jr, .slice A2 M2.runs.length c2], .int .i64 room] W fun e w' => e = .returned (.bool true) ∧ Below W.heap.size W w' := by
  have hTB : ∀ {w : World}, Below W.heap.size W w → TabS w := fun hB => hT.below hB
  obtain ⟨X, hX⟩ : ∃ X, Mf.goes M1 = X := ⟨_, rfl⟩
  obtain ⟨Y, hY⟩ : ∃ Y, Mf.goes M2 = Y := ⟨_, rfl⟩
  have hcX : Mf.check X = 0 := by rw [← hX]; exact Mf.goes_check M1
  have hcY : Mf.check Y = 0 := by rw [← hY]; exact Mf.goes_check M2
  have kg1 := fun {w : World} (h : Below W.heap.size W w) => goes_any M1 A1 c1 w ((R1.below h).more h.size) l1
  have kg2 := fun {w : World} (h : Below W.heap.size W w) => goes_any M2 A2 c2 w ((R2.below h).more h.size) l2
  rw [hX] at kg1
  rw [hY] at kg2
  unfold manV at kg1 kg2
  obtain ⟨Sb, hSb, hSbd, hSbs⟩ := str_of (Sl.frame 3 (Mf.body X))
  obtain ⟨Sc, hSc, hScd, hScs⟩ := str_of (Sl.frame 3 (Mf.body Y))
  have hbl := Ms.frame_nm hcX
  have hcl := Ms.frame_nm hcY
  have ke1 := fun {w : World} {A : Option Addr} {c : Nat} (hr : Rs w w.heap.size A X.runs) (h : Below W.heap.size W w) => encode_any X A c w hr (Ms.fit_good hcX) (hTB h) 0 hcX
  have ke2 := fun {w : World} {A : Option Addr} {c : Nat} (hr : Rs w w.heap.size A Y.runs) (h : Below W.heap.size W w) => encode_any Y A c w hr (Ms.fit_good hcY) (hTB h) 0 hcY
  rw [show encV X 0 = .tuple #[.string Sb, .int .i64 0] from by rw [← hSb]; rfl] at ke1
  rw [show encV Y 0 = .tuple #[.string Sc, .int .i64 0] from by rw [← hSc]; rfl] at ke2
  unfold manV at ke1 ke2
  obtain ⟨q20, hq20⟩ : ∃ q, Sc.size + 20 = q := ⟨_, rfl⟩
  have hpi := Mf.pick_in room (q20 : Int) (by omega)
  obtain ⟨sp, hsp⟩ : ∃ sp : Nat, Mf.pick room (q20 : Int) = sp := ⟨(Mf.pick room (q20 : Int)).toNat, by omega⟩
  rw [hsp] at hpi
  have kpk := fun w => pick8_any room (q20 : Int) w (by omega) (by omega)
  rw [hsp] at kpk
  obtain ⟨cp, hcp⟩ : ∃ q, Sb.size + sp = q := ⟨_, rfl⟩
  have wq : IntKind.i64.wrap ((Sc.size : Int) + 20) = (q20 : Int) := by rw [IntWalk.i64_in _ (by omega)]; omega
  have wc : IntKind.i64.wrap ((Sb.size : Int) + (sp : Int)) = (cp : Int) := by rw [IntWalk.i64_in _ (by omega)]; omega
  have tb0 : ((Sb.size : Int) == 0) = false := by rw [beq_eq_false_iff_ne]; omega
  have hcpl : cp ≤ 1073741824 := by omega
  obtain ⟨m1, e1, o1, f1, k1, s1⟩ := Ms.inv_last (m := Dk.fresh cp) (cap := cp) (o := none) (x := none) (c := Sl.frame 3 (Mf.body X)) rfl rfl rfl Ms.fr_none rfl (by omega) (by show _ + 0 ≤ cp; omega)
  have hs1 : Ms.store (Dk.fresh cp) X 0 = (m1, 0) := by unfold Ms.store; rw [if_neg (show ¬ (Dk.fresh cp).off = true from Bool.false_ne_true), if_pos rfl]; exact e1
  obtain ⟨m2, g2, Z, hs2, o2, s2, hZ⟩ : ∃ m2 g2 Z, Ms.store m1 Y 0 = (m2, g2) ∧ m2.off = false ∧ m2.files = Ms.fs (some (Sl.frame 3 (Mf.body Z), (Sl.frame 3 (Mf.body Z)).length)) none ∧ ((Z = Y ∧ g2 = 0 ∧ Sc.size ≤ sp) ∨ (Z = X ∧ g2 = 44 ∧ ¬ Sc.size ≤ sp ∧ m2.files = m1.files)) := by
    have hst : Ms.store m1 Y 0 = Ms.storeD m1 (Sl.frame 3 (Mf.body Y)) := by unfold Ms.store; rw [o1, if_neg (by decide), if_pos rfl]
    by_cases hge : Sc.size ≤ sp
    · obtain ⟨m2, e2, o2, f2, k2, s2⟩ := Ms.inv_last (c := Sl.frame 3 (Mf.body Y)) o1 f1 k1 Ms.fr_none s1 (by omega) (by rw [Ms.used_one]; omega)
      exact ⟨m2, 0, Y, by rw [hst, e2], o2, s2, .inl ⟨rfl, rfl, hge⟩⟩
    · obtain ⟨m2, e2, o2, f2, k2, s2⟩ := Ms.store_full (c := Sl.frame 3 (Mf.body Y)) o1 s1 f1 (by omega) (fun e => by rw [e] at hcl; simp at hcl) (by rw [Ms.used_one, k1]; omega)
      exact ⟨m2, 44, X, by rw [hst, e2], o2, s2, .inr ⟨rfl, rfl, hge, s2.trans s1.symm⟩⟩
  have hcZ : Mf.check Z = 0 := by rcases hZ with ⟨h, _⟩ | ⟨h, _⟩ <;> rw [h] <;> assumption
  have hs3 : Ms.store m2 { Y with next := 1 } 80 = (m2, 80) := by unfold Ms.store; rw [o2, if_neg (by decide), if_neg (by decide)]; rfl
  obtain ⟨ib, hib⟩ : ∃ ib : ByteArray, ib.data.toList = Dk.image m1 := ⟨⟨(Dk.image m1).toArray⟩, rfl⟩
  have HN := Lib.hid (And.intro hcX (And.intro hcY (And.intro hcZ (And.intro hs1 (And.intro hs2 (And.intro hs3 (And.intro o2 (And.intro s2 (And.intro hZ hib)))))))))
  have HL := Lib.hid (And.intro hcpl (And.intro hbl (And.intro hcl (And.intro hSbs hScs))))
  clear hX hY hcX hcY hcZ hSb hSbd hSbs hSc hScd hScs hbl hcl hpi hsp hq20 hcp e1 o1 f1 k1 s1 hs1 hs2 hs3 o2 s2 hZ hib hcpl R1 R2 l1 l2 hT
  go_enter Tryd.func3, Tryd.ntmps3
  have B0 : Below W.heap.size W ((W.alloc (.cells (manCells M1 A1 c1) 26)).alloc (.cells (manCells M2 A2 c2) 26)) := ((Below.refl _ _).alloc (Nat.le_refl _) _).alloc (by simp) _
  have P4 : Blk ((W.alloc (.cells (manCells M1 A1 c1) 26)).alloc (.cells (manCells M2 A2 c2) 26)) (W.heap.size + 1) 26 (manCells M2 A2 c2) := by
    have := Blk.new (W.alloc (.cells (manCells M1 A1 c1) 26)) 26 (manCells M2 A2 c2)
    rw [World.size_alloc] at this
    exact this
  go_upto_region 2 with (go_at_call 5; refine (kg1 B0).mono ?_; clear kg1; rintro e w1 ⟨⟨A3, c3, rfl, hr3⟩, b1⟩)
  have P7 := Ms.Mb.fresh B0.size hr3 b1
  have hA1 : Below w1.heap.size w1 (w1.alloc (.cells (manCells X A3 c3) 26)) := (Below.refl _ _).alloc (Nat.le_refl _) _
  have B1 := B0.trans ((b1.trans (hA1.mono b1.size)).mono B0.size)
  have P4' : Blk (w1.alloc (.cells (manCells X A3 c3) 26)) (W.heap.size + 1) 26 (manCells M2 A2 c2) := Blk.alloc (show Blk w1 (W.heap.size + 1) 26 (manCells M2 A2 c2) from (b1.block _ P4.lt).trans P4) _
  obtain ⟨x1, hx1⟩ : ∃ x, w1.alloc (.cells (manCells X A3 c3) 26) = x := ⟨_, rfl⟩
  rw [show (.cells #[.int .i64 X.w, .int .i64 X.c, .int .i64 X.m, .int .i64 X.seq, .int .i64 X.next, .int .i64 X.jr, .slice A3 X.runs.length c3] 26 : Obj) = .cells (manCells X A3 c3) 26 from rfl, hx1]
  rw [hx1] at P7 B1 P4'
  obtain ⟨b7, hb7⟩ : ∃ b, w1.heap.size = b := ⟨_, rfl⟩
  rw [hb7] at P7 ⊢
  clear hx1 hA1 hr3 b1 P4 hb7 B0 w1
  obtain ⟨a0, a1, a2, a3, a4, a5, a6⟩ := P7.seven
  go_upto_region 3 with (go_at_call 6; refine (ke1 P7.rs B1).mono ?_; clear ke1; rintro e w2 ⟨rfl, b2⟩)
  have B2 := B1.trans (b2.mono B1.size)
  have P72 := P7.later b2
  have P42 : Blk w2 (W.heap.size + 1) 26 (manCells M2 A2 c2) := (b2.block _ P4'.lt).trans P4'
  clear a0 a1 a2 a3 a4 a5 a6 P7 B1 P4' b2
  obtain ⟨a0, a1, a2, a3, a4, a5, a6⟩ : w2.cell? ⟨W.heap.size + 1, 0, none⟩ = some (.int .i64 M2.w) ∧ w2.cell? ⟨W.heap.size + 1, 1, none⟩ = some (.int .i64 M2.c) ∧ w2.cell? ⟨W.heap.size + 1, 2, none⟩ = some (.int .i64 M2.m) ∧ w2.cell? ⟨W.heap.size + 1, 3, none⟩ = some (.int .i64 M2.seq) ∧ w2.cell? ⟨W.heap.size + 1, 4, none⟩ = some (.int .i64 M2.next) ∧ w2.cell? ⟨W.heap.size + 1, 5, none⟩ = some (.int .i64 M2.jr) ∧ w2.cell? ⟨W.heap.size + 1, 6, none⟩ = some (.slice A2 M2.runs.length c2) := ⟨P42.cell 0, P42.cell 1, P42.cell 2, P42.cell 3, P42.cell 4, P42.cell 5, P42.cell 6⟩
  go_upto_region 4 with (go_at_call 5; refine (kg2 B2).mono ?_; clear kg2; rintro e w3 ⟨⟨A4, c4, rfl, hr4⟩, b3⟩)
  have P10 := Ms.Mb.fresh B2.size hr4 b3
  have hA3 : Below w3.heap.size w3 (w3.alloc (.cells (manCells Y A4 c4) 26)) := (Below.refl _ _).alloc (Nat.le_refl _) _
  have b33 := b3.trans (hA3.mono b3.size)
  have B3 := B2.trans (b33.mono B2.size)
  have P73 := P72.later b33
  obtain ⟨x3, hx3⟩ : ∃ x, w3.alloc (.cells (manCells Y A4 c4) 26) = x := ⟨_, rfl⟩
  rw [show (.cells #[.int .i64 Y.w, .int .i64 Y.c, .int .i64 Y.m, .int .i64 Y.seq, .int .i64 Y.next, .int .i64 Y.jr, .slice A4 Y.runs.length c4] 26 : Obj) = .cells (manCells Y A4 c4) 26 from rfl, hx3]
  rw [hx3] at P10 P73 B3
  obtain ⟨b10, hb10⟩ : ∃ b, w3.heap.size = b := ⟨_, rfl⟩
  rw [hb10] at P10 ⊢
  clear hx3 hA3 b33 hr4 b3 hb10 P72 P42 B2 a0 a1 a2 a3 a4 a5 a6 w3
  obtain ⟨a0, a1, a2, a3, a4, a5, a6⟩ := P10.seven
  go_upto_region 5 with (go_at_call 6; refine (ke2 P10.rs B3).mono ?_; clear ke2; rintro e w4 ⟨rfl, b4⟩)
  have B4 := B3.trans (b4.mono B3.size)
  have P74 := P73.later b4
  have P104 := P10.later b4
  clear a0 a1 a2 a3 a4 a5 a6 P10 P73 B3 b4
  have kne := Ms.new_at (n := cp) HL.out.1 B4 B4.size
  go_upto_region 9 with (first
    | (go_at_call 7; refine (Ms.num_q _ _).mono ?_; rintro e w4 ⟨rfl, rfl⟩)
    | (go_at_call 8; refine (kpk _).mono ?_; clear kpk; rintro e w4 ⟨rfl, rfl⟩)
    | (go_at_call 9; refine kne.mono ?_; clear kne; rintro e w5 ⟨d, rfl, S5, b5⟩))
  have P75 := (P74.to (K' := fun k => W.heap.size ≤ k ∧ k < w4.heap.size) fun k h1 h2 => ⟨h1, h2⟩).later b5
  have P105 := (P104.to (K' := fun k => W.heap.size ≤ k ∧ k < w4.heap.size) fun k h1 h2 => ⟨h1, h2⟩).later b5
  clear P74 P104 B4 b5
  obtain ⟨K, hK⟩ : ∃ K, (fun k => W.heap.size ≤ k ∧ k < w4.heap.size) = K := ⟨_, rfl⟩
  rw [hK] at S5 P75 P105
  clear hK
  obtain ⟨a0, a1, a2, a3, a4, a5, a6⟩ := P75.seven
  have kst := Ms.store_arm S5 P75 (Ms.fit_good HN.out.1) (hTB S5.below) HN.out.1 HN.out.2.2.2.1
  go_upto_region 11 with (first
    | (go_at_call 7; refine (Ms.num_q _ _).mono ?_; rintro e w6 ⟨rfl, rfl⟩)
    | (go_at_call 10; refine kst.mono ?_; clear kst; rintro e w6 ⟨rfl, S6, q6⟩))
  have P76 := P75.kept q6
  have P106 := P105.kept q6
  clear a0 a1 a2 a3 a4 a5 a6 P75 P105 q6 S5
  go_upto_region 12 with (go_at_call 11; refine (Ms.image_at S6 HN.out.2.2.2.2.2.2.2.2.2).mono ?_; rintro e w7 ⟨rfl, b7'⟩)
  have S7 := S6.later b7'
  have P77 := P76.later b7'
  have P107 := P106.later b7'
  clear S6 P76 P106 b7'
  obtain ⟨a0, a1, a2, a3, a4, a5, a6⟩ := P107.seven
  have kst := Ms.store_arm S7 P107 (Ms.fit_good HN.out.2.1) (hTB S7.below) HN.out.2.1 HN.out.2.2.2.2.1
  go_upto_region 13 with (go_at_call 10; refine kst.mono ?_; clear kst; rintro e w8 ⟨rfl, S8, q8⟩)
  have P78 := P77.kept q8
  have P108 := P107.kept q8
  clear a0 a1 a2 a3 a4 a5 a6 P77 P107 q8 S7
  obtain ⟨a0, a1, a2, a3, a4, a5, a6⟩ := P108.seven
  go_upto_region 15 with fail
  have hbb : Blk (w8.alloc (.cells (manCells { Y with next := 1 } A4 c4) 26)) w8.heap.size 26 (manCells { Y with next := 1 } A4 c4) := Blk.new w8 26 _
  have b9 : Below w8.heap.size w8 (w8.alloc (.cells (manCells { Y with next := 1 } A4 c4) 26)) := (Below.refl _ _).alloc (Nat.le_refl _) _
  have P79 := P78.later b9
  have P109 := P108.later b9
  have S9 := S8.later b9
  obtain ⟨w9, hw9⟩ : ∃ x, w8.alloc (.cells (manCells { Y with next := 1 } A4 c4) 26) = x := ⟨_, rfl⟩
  rw [show (.cells #[.int .i64 Y.w, .int .i64 Y.c, .int .i64 Y.m, .int .i64 Y.seq, .int .i64 1, .int .i64 Y.jr, .slice A4 Y.runs.length c4] 26 : Obj) = .cells (manCells { Y with next := 1 } A4 c4) 26 from rfl, hw9]
  rw [hw9] at P79 P109 S9 hbb
  obtain ⟨bb, hbe⟩ : ∃ b, w8.heap.size = b := ⟨_, rfl⟩
  rw [hbe] at hbb ⊢
  clear a0 a1 a2 a3 a4 a5 a6 P78 P108 b9 hw9 S8 hbe w8
  obtain ⟨a0, a1, a2, a3, a4, a5, a6⟩ : w9.cell? ⟨bb, 0, none⟩ = some (.int .i64 Y.w) ∧ w9.cell? ⟨bb, 1, none⟩ = some (.int .i64 Y.c) ∧ w9.cell? ⟨bb, 2, none⟩ = some (.int .i64 Y.m) ∧ w9.cell? ⟨bb, 3, none⟩ = some (.int .i64 Y.seq) ∧ w9.cell? ⟨bb, 4, none⟩ = some (.int .i64 1) ∧ w9.cell? ⟨bb, 5, none⟩ = some (.int .i64 Y.jr) ∧ w9.cell? ⟨bb, 6, none⟩ = some (.slice A4 Y.runs.length c4) := ⟨hbb.cell 0, hbb.cell 1, hbb.cell 2, hbb.cell 3, hbb.cell 4, hbb.cell 5, hbb.cell 6⟩
  have kst := Ms.store_any (cap := c4) (X := { Y with next := 1 }) (A := A4) S9 P109.rs ⟨(Ms.fit_good HN.out.2.1).1, (Ms.fit_good HN.out.2.1).2, (Ms.fit_good HN.out.2.1).3, (Ms.fit_good HN.out.2.1).4⟩ (hTB S9.below) (Ms.bad_check HN.out.2.1)
  rw [HN.out.2.2.2.2.2.1] at kst
  unfold manV at kst
  go_upto_region 16 with (go_at_call 10; refine kst.mono ?_; clear kst; rintro e w10 ⟨rfl, S10, q10⟩)
  have P710 := P79.kept q10
  have P1010 := P109.kept q10
  clear a0 a1 a2 a3 a4 a5 a6 P79 P109 q10 S9 hbb
  have kld := Ms.load_good S10 hTB HN.out.2.2.1 HN.out.2.2.2.2.2.2.1 HN.out.2.2.2.2.2.2.2.1
  go_upto_region 17 with (go_at_call 12; refine kld.mono ?_; clear kld; rintro e w11 ⟨⟨A5, c5, rfl, hr5⟩, b11⟩)
  have hA11 : Below w11.heap.size w11 (w11.alloc (.cells (manCells Z A5 c5) 26)) := (Below.refl _ _).alloc (Nat.le_refl _) _
  have b12 := b11.trans (hA11.mono b11.size)
  have P5 := Ms.Mb.fresh S10.size hr5 b11
  have P712 := P710.later b12
  have P1012 := P1010.later b12
  have S12 := S10.later b12
  obtain ⟨w12, hw12⟩ : ∃ x, w11.alloc (.cells (manCells Z A5 c5) 26) = x := ⟨_, rfl⟩
  rw [show (.cells #[.int .i64 Z.w, .int .i64 Z.c, .int .i64 Z.m, .int .i64 Z.seq, .int .i64 Z.next, .int .i64 Z.jr, .slice A5 Z.runs.length c5] 26 : Obj) = .cells (manCells Z A5 c5) 26 from rfl, hw12]
  rw [hw12] at P5 P712 P1012 S12
  obtain ⟨bm, hbm⟩ : ∃ b, w11.heap.size = b := ⟨_, rfl⟩
  rw [hbm] at P5 ⊢
  clear P710 P1010 S10 hr5 b11 hA11 b12 hw12 hbm w11
  have knm := Ms.names_at S12 HN.out.2.2.2.2.2.2.1 HN.out.2.2.2.2.2.2.2.1
  go_upto_region 18 with (go_at_call 13; refine knm.mono ?_; clear knm; rintro e w13 ⟨⟨gn, cn, rfl, hc0⟩, b13⟩)
  have P513 := P5.later b13
  have P713 := P712.later b13
  have P1013 := P1012.later b13
  have S13 := S12.later b13
  clear P5 P712 P1012 S12 b13
  go_upto_region 20 with (go_at_call 7; refine (Ms.num_q _ _).mono ?_; rintro e w13 ⟨rfl, rfl⟩)
  obtain ⟨d0, d1, d2, d3, d4, d5, d6⟩ := P513.seven
  have hlz : ∀ {V : Man}, Mf.check V = 0 → V.runs.length ≤ 4398046511104 := fun h => by have := (Mf.good h).len; omega
  rcases HN.out.2.2.2.2.2.2.2.2.1 with ⟨rfl, rfl, hge⟩ | ⟨rfl, rfl, hge, hfs⟩
  · have t1 : decide ((sp : Int) ≥ (Sc.size : Int)) = true := decide_eq_true (by omega)
    have t2 : decide (sp ≥ Sc.size) = true := decide_eq_true hge
    have t3 : decide (Sc.size ≤ sp) = true := decide_eq_true hge
    obtain ⟨a0, a1, a2, a3, a4, a5, a6⟩ := P1013.seven
    have ksm := same_any Z A5 A4 c5 c4 w13 P513.rs P1013.rs (hlz HN.out.2.2.1)
    unfold manV at ksm
    have SB := S13.below
    clear hlz P513 P713 P1013 S13 hge
    go_wp2_with (first
      | (go_at_call 7; refine (Ms.num_q _ _).mono ?_; rintro e w13 ⟨rfl, rfl⟩)
      | (go_at_call 14; refine ksm.mono ?_; rintro e w14 ⟨rfl, b14⟩))
    go_ret
    exact ⟨rfl, SB.trans (b14.mono SB.size)⟩
  · have t1 : decide ((sp : Int) ≥ (Sc.size : Int)) = false := decide_eq_false (by omega)
    have t2 : decide (sp ≥ Sc.size) = false := decide_eq_false hge
    have t3 : decide (Sc.size ≤ sp) = false := decide_eq_false hge
    have SB := S13.below
    have kim := Ms.image_at S13 (show ib.data.toList = Dk.image m2 by rw [HN.out.2.2.2.2.2.2.2.2.2]; unfold Dk.image; rw [hfs])
    have hll := hlz HN.out.2.2.1
    clear hlz S13 hge hfs
    clear d0 d1 d2 d3 d4 d5 d6
    go_wp2_with (first
      | (go_at_call 7; refine (Ms.num_q _ _).mono ?_; rintro e w13 ⟨rfl, rfl⟩)
      | (go_at_call 11; refine kim.mono ?_; clear kim; rintro e w14 ⟨rfl, b14⟩; have P514 := P513.later b14; have P714 := P713.later b14; obtain ⟨d0, d1, d2, d3, d4, d5, d6⟩ := P514.seven; obtain ⟨a0, a1, a2, a3, a4, a5, a6⟩ := P714.seven; have ksm := same_any Z A5 A3 c5 c3 w14 P514.rs P714.rs hll; unfold manV at ksm; have SB2 := SB.trans (b14.mono SB.size); clear P513 P713)
      | (go_at_call 14; refine ksm.mono ?_; rintro e w15 ⟨rfl, b15⟩))
    go_ret
    exact ⟨rfl, SB2.trans (b15.mono SB2.size)⟩
#print axioms Ms.full_walk
/-- .. as the card wants it. -/
theorem Ms.full_card (M1 : Man) (A1 : Option Addr) (c1 : Nat) (M2 : Man) (A2 : Option Addr) (c2 : Nat) (room : Int) (W : World) (R1 : Rs W W.heap.size A1 M1.runs) (nA1 : A1 = none → c1 = 0 ∧ M1.runs = []) (F1 : Mf.Fit M1) (l1 : (M1.runs.length + 1) * 32 ≤ 140737488355328) (R2 : Rs W W.heap.size A2 M2.runs) (nA2 : A2 = none → c2 = 0 ∧ M2.runs = []) (F2 : Mf.Fit M2) (l2 : (M2.runs.length + 1) * 32 ≤ 140737488355328) (hT : TabS W) :
    Calls Tryd.prog 3 #[manV M1 A1 c1, manV M2 A2 c2, .int .i64 room] W fun e w' => e = .returned (.bool true) ∧ Below W.heap.size W w' :=
  Ms.full_walk M1 A1 c1 M2 A2 c2 room W R1 R2 (by omega) (by omega) hT
end Go.Proofs.YtknemjnlcghafaaDoor
