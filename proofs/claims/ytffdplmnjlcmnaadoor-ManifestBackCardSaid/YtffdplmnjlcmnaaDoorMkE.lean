/- The walk of the law ManifestBack. Conditions: each theorem's own hypotheses. -/
import Derived.Test.YtffdplmnjlcmnaaDoorMkD
import Derived.Test.YtffdplmnjlcmnaaDoorMkB
import Derived.Test.YtffdplmnjlcmnaaDoorMdH
import Derived.Test.YtffdplmnjlcmnaaDoorMfH
import Derived.Test.YtffdplmnjlcmnaaDoorMfM
import Derived.Test.YtffdplmnjlcmnaaDoorSealL
import Derived.Laws.BitsAllLaws
namespace Go.Proofs.YtffdplmnjlcmnaaDoor
open Go.RowKit Go.Maps
set_option linter.unusedVariables false

theorem fit_good {X : Man} (h : Mf.check X = 0) : Mf.Fit X := by
  have g := Mf.good h
  have hw := g.w
  have hj := g.jr
  refine ⟨⟨by omega, by omega⟩, ?_, fun r hr => ?_, by have := g.len; omega⟩
  · simp [Lit.wf, IntKind.min, IntKind.max, IntKind.bits, IntKind.signed]; omega
  · have := (g.runs r hr).1
    simp [Lit.wf, IntKind.min, IntKind.max, IntKind.bits, IntKind.signed]; omega


/-- 'string([]byte{c})' of a cell of one byte. -/
theorem conv_cell (W : World) (g b0 : Nat) (h0 : b0 < 256) (h : W.cell? ⟨g, 0, none⟩ = some (.int .u8 (b0 : Int))) :
    (convert 58 9 (.slice (some ⟨g, 0, none⟩) 1 1)).run Tryd.prog W = .ok (.string ⟨#[UInt8.ofNat b0]⟩) W := by
  refine run_convert_bytes_back W 58 9 5 ⟨g, 0, none⟩ 1 [UInt8.ofNat b0] Tryd.underlying58 Tryd.underlying5 Tryd.underlying9 fun j hj => ?_
  obtain rfl : j = 0 := by simpa using hj
  rw [show (⟨g, 0, none⟩ : Addr).add 0 = ⟨g, 0, none⟩ from rfl, h]
  simp [u8_ofNat b0 h0]

theorem below_ad {a w : World} (o : Obj) (h : Below a.heap.size a w.drew) : Below a.heap.size a (w.alloc o).drew := h.alloc h.size o
theorem below_on {a X x1 : World} (k : Below X.heap.size X x1) (h : Below a.heap.size a X) : Below a.heap.size a x1 := h.trans (k.mono h.size)
theorem below_set7 {a x : World} {n : Nat} (h : Below a.heap.size a x) (hn : a.heap.size ≤ n) (v0 v1 v2 v3 v4 v5 v6 : Value) :
    Below a.heap.size a (((((((x.setCell ⟨n, 0, none⟩ v0).setCell ⟨n, 1, none⟩ v1).setCell ⟨n, 2, none⟩ v2).setCell ⟨n, 3, none⟩ v3).setCell ⟨n, 4, none⟩ v4).setCell ⟨n, 5, none⟩ v5).setCell ⟨n, 6, none⟩ v6) :=
  ((((((h.setCell (p := ⟨n, 0, none⟩) hn _).setCell (p := ⟨n, 1, none⟩) hn _).setCell (p := ⟨n, 2, none⟩) hn _).setCell (p := ⟨n, 3, none⟩) hn _).setCell (p := ⟨n, 4, none⟩) hn _).setCell (p := ⟨n, 5, none⟩) hn _).setCell (p := ⟨n, 6, none⟩) hn _
/-- A new manifest's cells. -/
def Fresh7 (x1 : World) (n : Nat) : Prop :=
    (x1.cell? ⟨n, 0, none⟩ = some (.int .i64 0) ∧ x1.cell? ⟨n, 1, none⟩ = some (.int .i64 0) ∧ x1.cell? ⟨n, 2, none⟩ = some (.int .i64 0) ∧ x1.cell? ⟨n, 3, none⟩ = some (.int .i64 0) ∧ x1.cell? ⟨n, 4, none⟩ = some (.int .i64 0) ∧ x1.cell? ⟨n, 5, none⟩ = some (.int .i64 0) ∧ x1.cell? ⟨n, 6, none⟩ = some (.slice none 0 0)) ∧
    (x1.frozen? ⟨n, 0, none⟩ = false ∧ x1.frozen? ⟨n, 1, none⟩ = false ∧ x1.frozen? ⟨n, 2, none⟩ = false ∧ x1.frozen? ⟨n, 3, none⟩ = false ∧ x1.frozen? ⟨n, 4, none⟩ = false ∧ x1.frozen? ⟨n, 5, none⟩ = false ∧ x1.frozen? ⟨n, 6, none⟩ = false)
theorem fresh7 {X x1 : World} {n : Nat} {cs : Array Value} (h : Blk X n 26 cs) (k : Below X.drew.heap.size X.drew x1) (hc : cs = zeroMan) : Fresh7 x1 n := by
  subst hc
  have hb : Blk x1 n 26 zeroMan := (k.block _ h.lt).trans h
  exact ⟨⟨hb.cell 0, hb.cell 1, hb.cell 2, hb.cell 3, hb.cell 4, hb.cell 5, hb.cell 6⟩, hb.frozen 0, hb.frozen 1, hb.frozen 2, hb.frozen 3, hb.frozen 4, hb.frozen 5, hb.frozen 6⟩
theorem fresh7b {X x1 : World} (o : Obj) {cs : Array Value} (k : Below ((X.alloc o).alloc (.cells cs 26)).drew.heap.size ((X.alloc o).alloc (.cells cs 26)).drew x1) (hc : cs = zeroMan) : Fresh7 x1 (X.heap.size + 1) := fresh7 (n := X.heap.size + 1) (by have h := Blk.new (X.alloc o) 26 cs; rwa [World.size_alloc] at h) k hc
theorem fresh7c {X x1 : World} (o : Obj) {cs : Array Value} (k : Below ((X.alloc (.cells cs 26)).alloc o).drew.heap.size ((X.alloc (.cells cs 26)).alloc o).drew x1) (hc : cs = zeroMan) : Fresh7 x1 X.heap.size := fresh7 (n := X.heap.size) ((Blk.new X 26 cs).alloc o) k hc
/-- The conversion of the region's new byte, under a name: the walk of the drawn region is to branch over it without a word. -/
def Mk.o80 : Op := Op.convert 58 9 (Operand.tmp 79)
attribute [go_sem] Mk.o80

set_option maxRecDepth 100000 in
set_option maxHeartbeats 4000000 in
theorem back_law (M : Man) (A : Option Addr) (c : Nat) (b : ByteArray) (pos byt : Int) (w : World) (HR : Rs w w.heap.size A M.runs) (nA : A = none → c = 0 ∧ M.runs = []) (F : Mf.Fit M) (hl : (M.runs.length + 1) * 32 ≤ 140737488355328) (hb : b.size ≤ 140737488355328) (hby : 0 ≤ byt ∧ byt < 256) (hT : TabS w) :
    Calls Tryd.prog 7 #[manV M A c, .string b, .int .i64 pos, .int .u8 byt] w fun e w' => e = .returned (.bool true) ∧ Below w.heap.size w w' := by
  obtain ⟨yb, rfl⟩ : ∃ yb : Nat, byt = yb := ⟨byt.toNat, by omega⟩
  obtain ⟨X, hX⟩ : ∃ X, Mf.goes M = X := ⟨_, rfl⟩
  have hck : Mf.check X = 0 := by rw [← hX]; exact Mf.goes_check M
  have hlM : M.runs.length ≤ 4398046511104 := by omega
  have hlX : X.runs.length ≤ 4398046511104 := by have := (Mf.good hck).len; omega
  obtain ⟨S, hS, hSd, hSs⟩ := str_of (Sl.frame 3 (Mf.body X))
  have hgo : ∀ W, Rs W W.heap.size A M.runs → Calls Tryd.prog 28 #[.agg #[.int .i64 M.w, .int .i64 M.c, .int .i64 M.m, .int .i64 M.seq, .int .i64 M.next, .int .i64 M.jr, .slice A M.runs.length c]] W fun e w' => (∃ A' c', e = .returned (.agg #[.int .i64 X.w, .int .i64 X.c, .int .i64 X.m, .int .i64 X.seq, .int .i64 X.next, .int .i64 X.jr, .slice A' X.runs.length c']) ∧ Runs w' W.heap.size A' c' X.runs) ∧ Below W.heap.size W w' := fun W h => by
    rw [← hX]; exact goes_any M A c W h hlM
  have hen : encV X 0 = .tuple #[.string S, .int .i64 0] := by rw [← hS]; rfl
  have hdx : ∀ W, TabS W → Calls Tryd.prog 26 #[.string S] W fun e w' => (∃ A' c', e = .returned (.tuple #[.agg #[.int .i64 X.w, .int .i64 X.c, .int .i64 X.m, .int .i64 X.seq, .int .i64 X.next, .int .i64 X.jr, .slice A' X.runs.length c'], .int .i64 (0 : Nat)]) ∧ Runs w' W.heap.size A' c' X.runs) ∧ Below W.heap.size W w' := fun W hT =>
    decode_any S ⟨0, X⟩ W (by have := Mf.body_small hck; rw [hSs, Sl.frame_len]; omega) hT (by rw [hSd]; exact Mf.decode_frame hck (Mf.body_small hck))
  have HGO := Lib.hid hgo
  have HEN := Lib.hid hen
  have HDX := Lib.hid hdx
  have HCK := Lib.hid hck
  have HSD := Lib.hid hSd
  have HSS := Lib.hid hSs
  have HT := Lib.hid hT
  clear hgo hen hdx hck hSd hSs hT hS hX
  unfold manV
  go_enter Tryd.func7, Tryd.ntmps7
  have B0 : Below w.heap.size w (w.alloc (.cells (manCells M A c) 26)) := (Below.refl _ _).alloc (Nat.le_refl _) _
  go_wp2_with fail
  refine (HGO.out _ ((HR.below B0).more B0.size)).mono ?_
  rintro e w1 ⟨⟨A1, c1, rfl, hr1⟩, hB1⟩
  go_upto_region 2 with fail
  obtain ⟨X1, hX1⟩ : ∃ X1, w1.alloc (.cells #[.int .i64 X.w, .int .i64 X.c, .int .i64 X.m, .int .i64 X.seq, .int .i64 X.next, .int .i64 X.jr, .slice A1 X.runs.length c1] 26) = X1 := ⟨_, rfl⟩
  have L1 : Sit X1 [⟨w1.heap.size, X, A1, c1⟩] := by rw [← hX1]; exact (Sit.nil w1).add (Below.refl _ _) X A1 c1 hr1.rs
  have B1 : Below w.heap.size w X1 := by rw [← hX1]; exact (B0.trans (hB1.mono B0.size)).alloc (Nat.le_trans B0.size hB1.size) _
  rw [hX1]
  clear hX1 hB1 hr1 B0
  obtain ⟨s0, s1, s2, s3, s4, s5, s6⟩ := L1.seven (b := w1.heap.size) (M := X) (A := A1) (cap := c1) (by simp)
  go_wp2_with fail
  refine (encode_any X A1 c1 _ (L1.rs (b := w1.heap.size) (cap := c1) (by simp)) (fit_good HCK.out) (HT.out.below B1) 0 HCK.out).mono ?_
  rintro e w2 ⟨rfl, hB2⟩
  rw [HEN.out]
  have L2 := L1.later hB2
  have B2 : Below w.heap.size w w2 := B1.trans (hB2.mono B1.size)
  clear s0 s1 s2 s3 s4 s5 s6 L1 B1 hB2
  go_wp2_with fail
  refine (HDX.out _ (HT.out.below B2)).mono ?_
  rintro e w3 ⟨⟨A3, c3, rfl, hr3⟩, hB3⟩
  have L3a := L2.add hB3 X A3 c3 hr3.rs
  have B3a : Below w.heap.size w (w3.alloc (.cells (manCells X A3 c3) 26)) := (B2.trans (hB3.mono B2.size)).alloc (Nat.le_trans B2.size hB3.size) _
  clear L2 B2 hB3 hr3
  go_upto_region 4 with fail
  obtain ⟨X3, hX3⟩ : ∃ X3, w3.alloc (.cells #[.int .i64 X.w, .int .i64 X.c, .int .i64 X.m, .int .i64 X.seq, .int .i64 X.next, .int .i64 X.jr, .slice A3 X.runs.length c3] 26) = X3 := ⟨_, rfl⟩
  have L3 : Sit X3 [⟨w3.heap.size, X, A3, c3⟩, ⟨w1.heap.size, X, A1, c1⟩] := by rw [← hX3]; exact L3a
  have B3 : Below w.heap.size w X3 := by rw [← hX3]; exact B3a
  rw [hX3]
  clear hX3 L3a B3a
  obtain ⟨s0, s1, s2, s3, s4, s5, s6⟩ := L3.seven (b := w1.heap.size) (M := X) (A := A1) (cap := c1) (by simp)
  obtain ⟨t0, t1, t2, t3, t4, t5, t6⟩ := L3.seven (b := w3.heap.size) (M := X) (A := A3) (cap := c3) (by simp)
  go_wp2_with fail
  refine (same_any X A1 A3 c1 c3 _ (L3.rs (b := w1.heap.size) (cap := c1) (by simp)) (L3.rs (b := w3.heap.size) (cap := c3) (by simp)) hlX).mono ?_
  rintro e w4 ⟨rfl, hB4⟩
  have B4 : Below w.heap.size w w4 := B3.trans (hB4.mono B3.size)
  clear s0 s1 s2 s3 s4 s5 s6 t0 t1 t2 t3 t4 t5 t6 L3 B3 hB4
  have hSl : 14 ≤ S.size := by rw [HSS.out, Sl.frame_len]; omega
  have hSl2 : S.size ≤ 65550 := by have := Mf.body_small HCK.out; rw [HSS.out, Sl.frame_len]; omega
  obtain ⟨kk, hkk⟩ : ∃ kk : Nat, Mf.pick pos (S.size : Int) = kk := ⟨(Mf.pick pos (S.size : Int)).toNat, by have := Mf.pick_in pos (S.size : Int) (by omega); omega⟩
  have hkl : kk < S.size := by have := Mf.pick_in pos (S.size : Int) (by omega); omega
  have hpk : ∀ W, Calls Tryd.prog 29 #[.int .i64 pos, .int .i64 (S.size : Int)] W fun e W' => e = .returned (.int .i64 (kk : Int)) ∧ W = W' := fun W => by rw [← hkk]; exact pick8_any _ _ W (by omega) (by omega)
  have HPK := Lib.hid hpk
  clear hpk hkk
  go_wp2_with (first
    | (go_at_call 16; refine (num_any _ _).mono ?_; rintro e z1 ⟨rfl, rfl⟩)
    | (go_at_call 29; refine (HPK.out _).mono ?_; rintro e z1 ⟨rfl, rfl⟩))
  have hcu : (S.extract 0 kk).data.toList = (Sl.frame 3 (Mf.body X)).take kk := by rw [ext_data, HSD.out, List.drop_zero, Nat.sub_zero]
  have hcs : (S.extract 0 kk).size ≤ 9223372036854775807 := by rw [size_data, hcu, List.length_take]; have := Nat.min_le_left kk (Sl.frame 3 (Mf.body X)).length; omega
  obtain ⟨D1, hD1⟩ : ∃ D1, Mf.decode (S.extract 0 kk).data.toList = D1 := ⟨_, rfl⟩
  have hc1 : D1.code ≠ 0 := by rw [← hD1, hcu]; exact Mf.decode_cut HCK.out (by have := HSS.out; omega)
  have hd1 := decode_any (S.extract 0 kk) D1 z1 hcs (HT.out.below B4) hD1
  unfold decV manV at hd1
  refine hd1.mono ?_
  rintro e w5 ⟨⟨A5, c5, rfl, _⟩, hB5⟩
  clear hd1 hD1
  go_upto_region 9 with fail
  obtain ⟨Y5, hY5⟩ : ∃ Y5, w5.alloc (.cells #[.int .i64 D1.man.w, .int .i64 D1.man.c, .int .i64 D1.man.m, .int .i64 D1.man.seq, .int .i64 D1.man.next, .int .i64 D1.man.jr, .slice A5 D1.man.runs.length c5] 26) = Y5 := ⟨_, rfl⟩
  have B5 : Below w.heap.size w Y5 := by rw [← hY5]; exact (B4.trans (hB5.mono B4.size)).alloc (Nat.le_trans B4.size hB5.size) _
  rw [hY5]
  clear hY5 hB5 B4 hcu hcs
  obtain ⟨Sx, hSx⟩ : ∃ Sx : ByteArray, S ++ (⟨#[120]⟩ : ByteArray) = Sx := ⟨_, rfl⟩
  have hxd : Sx.data.toList = Sl.frame 3 (Mf.body X) ++ [120] := by rw [← hSx, ← HSD.out, data_append]
  have hxs : Sx.size ≤ 9223372036854775807 := by
    rw [size_data, hxd, List.length_append, List.length_singleton]
    have := HSS.out
    omega
  obtain ⟨D2, hD2⟩ : ∃ D2, Mf.decode Sx.data.toList = D2 := ⟨_, rfl⟩
  have hc2 : D2.code = 37 := by rw [← hD2, hxd]; exact Mf.decode_more HCK.out 120
  have hd2 := decode_any Sx D2 Y5 hxs (HT.out.below B5) hD2
  unfold decV manV at hd2
  have HD2 := Lib.hid hd2
  have HSX := Lib.hid hSx
  clear hd2 hD2 hxd hxs hSx
  go_wp2_with fail
  rw [HSX.out]
  refine HD2.out.mono ?_
  rintro e w6 ⟨⟨A6, c6, rfl, _⟩, hB6⟩
  clear HD2
  go_upto_region 10 with fail
  obtain ⟨Y6, hY6⟩ : ∃ Y6, w6.alloc (.cells #[.int .i64 D2.man.w, .int .i64 D2.man.c, .int .i64 D2.man.m, .int .i64 D2.man.seq, .int .i64 D2.man.next, .int .i64 D2.man.jr, .slice A6 D2.man.runs.length c6] 26) = Y6 := ⟨_, rfl⟩
  have B6 : Below w.heap.size w Y6 := by rw [← hY6]; exact (B5.trans (hB6.mono B5.size)).alloc (Nat.le_trans B5.size hB6.size) _
  rw [hY6]
  clear hY6 hB6 B5
  obtain ⟨k1, hk1⟩ : ∃ k1, kk + 1 = k1 := ⟨_, rfl⟩
  have wk1 : IntKind.i64.wrap ((kk : Int) + 1) = (k1 : Int) := by unfold IntKind.wrap; simp [IntKind.bits, IntKind.signed]; omega
  obtain ⟨cx, hcx, hcx2, hcx3⟩ : ∃ cx : Nat, bits .xor .u8 (S[kk].toNat : Int) (yb : Int) = (cx : Int) ∧ cx < 256 ∧ (UInt8.ofNat cx = S[kk] ↔ yb = 0) := by
    have hs := S[kk].toNat_lt
    have hlt : S[kk].toNat ^^^ yb < 256 := Nat.xor_lt_two_pow (n := 8) hs (by omega)
    refine ⟨S[kk].toNat ^^^ yb, u8_xor_nat _ _ hs (by omega), hlt, ?_, ?_⟩
    · intro e
      have e2 := congrArg UInt8.toNat e
      rw [u8_ofNat _ hlt] at e2
      have e3 : S[kk].toNat ^^^ (S[kk].toNat ^^^ yb) = 0 := by rw [e2, Nat.xor_self]
      rw [← Nat.xor_assoc, Nat.xor_self, Nat.zero_xor] at e3
      exact e3
    · rintro rfl
      rw [Nat.xor_zero]
      simp
  have hcv := fun W g => conv_cell W g cx hcx2
  have g1 : (kk : Int) < (S.size : Int) := by omega
  have g2 : (k1 : Int) ≤ (S.size : Int) := by omega
  have g3 : k1 ≤ S.size := by omega
  have g4 : (0 : Int) ≤ (kk : Int) := by omega
  have g5 : (0 : Int) ≤ (k1 : Int) := by omega
  have g6 : (kk : Int) ≤ (S.size : Int) := by omega
  have g7 : kk ≤ S.size := by omega
  obtain ⟨Za, hZa⟩ : ∃ Za : ByteArray, S.extract 0 kk ++ (⟨#[UInt8.ofNat cx]⟩ : ByteArray) = Za := ⟨_, rfl⟩
  obtain ⟨Z, hZ⟩ : ∃ Z : ByteArray, Za ++ S.extract k1 S.size = Z := ⟨_, rfl⟩
  have hza : Za.data.toList = (Sl.frame 3 (Mf.body X)).take kk ++ [UInt8.ofNat cx] := by
    rw [← hZa, data_append, ext_data, HSD.out, List.drop_zero, Nat.sub_zero]
  have hzs : Za.size = kk + 1 := by
    have := HSS.out
    rw [size_data, hza, List.length_append, List.length_take, List.length_singleton]; omega
  have hzd : Z.data.toList = (Sl.frame 3 (Mf.body X)).take kk ++ [UInt8.ofNat cx] ++ (Sl.frame 3 (Mf.body X)).drop k1 := by
    rw [← hZ, data_append, hza, ext_data, HSD.out, List.take_of_length_le (l := List.drop k1 (Sl.frame 3 (Mf.body X))) (by rw [List.length_drop, ← HSS.out]; exact Nat.le_refl _)]
  have hzz : Z.size = S.size := by
    have := HSS.out
    rw [size_data, hzd, List.length_append, List.length_append, List.length_take, List.length_singleton, List.length_drop]; omega
  have hadd1 : ∀ W, (Op.stringOp .add (S.extract 0 kk) (⟨#[UInt8.ofNat cx]⟩ : ByteArray)).run Tryd.prog W = .ok (.string Za) W := fun W => by
    rw [← hZa]; refine run_string_add_sum W _ _ ?_
    rw [ByteArray.size_extract]; show _ + 1 ≤ _; omega
  have hadd2 : ∀ W, (Op.stringOp .add Za (S.extract k1 S.size)).run Tryd.prog W = .ok (.string Z) W := fun W => by
    rw [← hZ]; refine run_string_add_sum W _ _ ?_
    rw [ByteArray.size_extract, hzs]; omega
  obtain ⟨D3, hD3⟩ : ∃ D3, Mf.decode Z.data.toList = D3 := ⟨_, rfl⟩
  have hd3 := fun W hT => decode_any Z D3 W (by rw [hzz]; omega) hT hD3
  unfold decV manV at hd3
  have HD3 := Lib.hid hd3
  have hsp : Sl.frame 3 (Mf.body X) = (Sl.frame 3 (Mf.body X)).take kk ++ S[kk] :: (Sl.frame 3 (Mf.body X)).drop k1 := by
    have hlk : kk < S.data.toList.length := by rw [← size_data]; exact hkl
    have e1 : S.data.toList[kk] = S[kk] := rfl
    rw [← HSD.out, ← hk1, ← e1, ← List.drop_eq_getElem_cons hlk, List.take_append_drop]
  have hc3 : ∃ q : Bool, ((D3.code : Int) == 0) = q ∧ ((yb : Int) == 0) = q := by
    by_cases h0 : yb = 0
    · have e := hcx3.2 h0
      have : D3.code = 0 := by
        rw [← hD3, hzd, e, List.append_assoc, List.singleton_append, ← hsp, Mf.decode_frame HCK.out (Mf.body_small HCK.out)]
      exact ⟨true, by rw [this]; rfl, by rw [h0]; rfl⟩
    · have : D3.code ≠ 0 := by
        rw [← hD3, hzd, List.append_assoc, List.singleton_append]
        exact Mf.decode_one HCK.out hsp (fun e => h0 (hcx3.1 e.symm))
      exact ⟨false, by rw [beq_eq_false_iff_ne]; omega, by rw [beq_eq_false_iff_ne]; omega⟩
  have HC3 := Lib.hid hc3
  clear hd3 hD3 hza hzs hzd hzz hZ hZa hsp hc3 hcx3
  go_upto_region 10 with fail
  have hy6 : w.heap.size ≤ Y6.heap.size := B6.size
  have hy7 : w.heap.size ≤ Y6.heap.size + 1 := by omega
  rw [show Op.convert 58 9 (Operand.tmp 79) = Mk.o80 from rfl]
  go_cut [21] (fun p W => p = .int .i64 (D3.code : Int) ∧ Below w.heap.size w W)
  case first =>
    go_region_held3 (fun W' => Below w.heap.size w W')
      (first
        | with_reducible assumption
        | with_reducible exact below_ad _ (by with_reducible assumption)
        | (with_reducible exact Below.alloc (by with_reducible assumption) (Below.size (by with_reducible assumption)) _)
        | (with_reducible exact below_set7 (by with_reducible assumption) (by with_reducible assumption) _ _ _ _ _ _ _)
        | with_reducible exact Below.drew (by with_reducible assumption))
      (first
        | (go_at_call 26; refine (HD3.out _ (HT.out.below (by with_reducible assumption))).mono ?_; rintro e w7 ⟨⟨A7, c7, rfl, _⟩, hB7⟩; have hS7 := below_on (a := w) hB7 (by with_reducible assumption); (try ((first | have kk := fresh7b _ hB7 rfl | have kk := fresh7c _ hB7 rfl); obtain ⟨⟨k0, k1, k2, k3, k4, k5, k6⟩, f0, f1, f2, f3, f4, f5, f6⟩ := kk))))
    all_goals
      go_wp2_with fail
      go_meet
      with_reducible exact ⟨rfl, by with_reducible assumption⟩
  case rest =>
    obtain ⟨rfl, B7⟩ := hcut
    obtain ⟨q, q1, q2⟩ := HC3.out
    have hb1 : ((D1.code : Int) == 0) = false := by rw [beq_eq_false_iff_ne]; omega
    clear hadd1 hadd2 hcv hcx hc1 hc2 g1 g2 g3 g4 g5 g6 g7 wk1 hk1
    obtain ⟨D4, hD4⟩ : ∃ D4, Mf.decode b.data.toList = D4 := ⟨_, rfl⟩
    have hcase : (∃ k : Nat, k ≠ 0 ∧ D4 = ⟨k, Mf.zero⟩) ∨ (∃ N : Man, D4 = ⟨0, N⟩) := by
      obtain ⟨k, N⟩ := D4
      by_cases h0 : k = 0
      · exact .inr ⟨N, by rw [h0]⟩
      · have := Mf.decode_zero (b := b.data.toList) (by rw [hD4]; exact h0)
        rw [hD4] at this
        exact .inl ⟨k, h0, by rw [show N = Mf.zero from this]⟩
    have hT7 := Lib.hid (HT.out.below B7)
    rcases hcase with ⟨k, hk0, rfl⟩ | ⟨N, rfl⟩
    · have hd4 : ∀ W, TabS W → Calls Tryd.prog 26 #[.string b] W fun e w' => (∃ A' c', e = .returned (.tuple #[.agg #[.int .i64 0, .int .i64 0, .int .i64 0, .int .i64 0, .int .i64 0, .int .i64 0, .slice A' 0 c'], .int .i64 (k : Int)]) ∧ Runs w' W.heap.size A' c' []) ∧ Below W.heap.size W w' := fun W hT =>
        decode_any b ⟨k, Mf.zero⟩ W (by omega) hT hD4
      have HD4 := Lib.hid hd4
      have hk1 : ((k : Int) != 0) = true := by rw [bne_iff_ne]; omega
      clear hd4 hD4
      go_wp2_with (go_at_call 16; refine (num_any _ _).mono ?_; rintro e z2 ⟨rfl, rfl⟩)
      refine (HD4.out _ hT7.out).mono ?_
      rintro e w8 ⟨⟨A8, c8, rfl, hr8⟩, hB8⟩
      have B8 := below_on hB8 B7
      go_wp2_with (go_at_call 16; refine (num_any _ _).mono ?_; rintro e z3 ⟨rfl, rfl⟩)
      have B9 : Below w.heap.size w (w8.alloc (.cells #[.int .i64 0, .int .i64 0, .int .i64 0, .int .i64 0, .int .i64 0, .int .i64 0, .slice A8 0 c8] 26)) := B8.alloc B8.size _
      have R9 : Rs (w8.alloc (.cells #[.int .i64 0, .int .i64 0, .int .i64 0, .int .i64 0, .int .i64 0, .int .i64 0, .slice A8 0 c8] 26)) (w8.alloc (.cells #[.int .i64 0, .int .i64 0, .int .i64 0, .int .i64 0, .int .i64 0, .int .i64 0, .slice A8 0 c8] 26)).heap.size A8 Mf.zero.runs := (hr8.rs.below ((Below.refl _ _).alloc (Nat.le_refl _) _)).more (by simp)
      refine (same_any Mf.zero A8 none c8 0 _ R9 (Runs.nil _ 0).rs (by decide)).mono ?_
      rintro e w9 ⟨rfl, hB9⟩
      have B10 := below_on hB9 B9
      clear R9 B9 hB9
      go_wp2_with fail
      go_ret
      exact ⟨rfl, B10⟩
    · obtain ⟨hN, hbN, _⟩ := Mf.frame_decode hD4
      have hlN : N.runs.length ≤ 24 := (Mf.good hN).len
      have hd4 : ∀ W, TabS W → Calls Tryd.prog 26 #[.string b] W fun e w' => (∃ A' c', e = .returned (.tuple #[.agg #[.int .i64 N.w, .int .i64 N.c, .int .i64 N.m, .int .i64 N.seq, .int .i64 N.next, .int .i64 N.jr, .slice A' N.runs.length c'], .int .i64 ((0 : Nat) : Int)]) ∧ Runs w' W.heap.size A' c' N.runs) ∧ Below W.heap.size W w' := fun W hT =>
        decode_any b ⟨0, N⟩ W (by omega) hT hD4
      have hen4 : encV N 0 = .tuple #[.string b, .int .i64 0] := by
        rw [str_eq hbN]; rfl
      have HD4 := Lib.hid hd4
      have HEN4 := Lib.hid hen4
      have HN := Lib.hid hN
      clear hd4 hD4 hbN hen4 hN
      go_wp2_with (go_at_call 16; refine (num_any _ _).mono ?_; rintro e z2 ⟨rfl, rfl⟩)
      refine (HD4.out _ hT7.out).mono ?_
      rintro e w8 ⟨⟨A8, c8, rfl, hr8⟩, hB8⟩
      have B8 := below_on hB8 B7
      go_wp2_with (go_at_call 16; refine (num_any _ _).mono ?_; rintro e z3 ⟨rfl, rfl⟩)
      have B9 : Below w.heap.size w (w8.alloc (.cells #[.int .i64 N.w, .int .i64 N.c, .int .i64 N.m, .int .i64 N.seq, .int .i64 N.next, .int .i64 N.jr, .slice A8 N.runs.length c8] 26)) := B8.alloc B8.size _
      have R9 : Rs (w8.alloc (.cells #[.int .i64 N.w, .int .i64 N.c, .int .i64 N.m, .int .i64 N.seq, .int .i64 N.next, .int .i64 N.jr, .slice A8 N.runs.length c8] 26)) (w8.alloc (.cells #[.int .i64 N.w, .int .i64 N.c, .int .i64 N.m, .int .i64 N.seq, .int .i64 N.next, .int .i64 N.jr, .slice A8 N.runs.length c8] 26)).heap.size A8 N.runs := (hr8.rs.below ((Below.refl _ _).alloc (Nat.le_refl _) _)).more (by simp)
      refine (encode_any N A8 c8 _ R9 (fit_good HN.out) (HT.out.below B9) 0 HN.out).mono ?_
      rintro e w9 ⟨rfl, hB9⟩
      rw [HEN4.out]
      have B10 := below_on hB9 B9
      clear R9 B9 hB9
      go_wp2_with (go_at_call 16; refine (num_any _ _).mono ?_; rintro e z4 ⟨rfl, rfl⟩)
      go_ret
      exact ⟨rfl, B10⟩

theorem back_card {P1 P2 P3 P4 : Prop} (M : Man) (A : Option Addr) (c : Nat) (b : ByteArray) (pos byt : Int) (w : World) (HR : Rs w w.heap.size A M.runs) (nA : A = none → c = 0 ∧ M.runs = []) (F : Mf.Fit M) (hl : (M.runs.length + 1) * 32 ≤ 140737488355328) (_ : P1) (_ : P2) (_ : P3) (hb : b.size ≤ 140737488355328) (_ : P4) (hw : (Lit.int .u8 byt).wf = true) (hT : TabS w) :
    Calls Tryd.prog 7 #[manV M A c, .string b, .int .i64 pos, .int .u8 byt] w fun e w' => e = .returned (.bool true) ∧ Below w.heap.size w w' :=
  back_law M A c b pos byt w HR nA F hl hb (by simp [Lit.wf, IntKind.min, IntKind.max, IntKind.bits, IntKind.signed] at hw; omega) hT
end Go.Proofs.YtffdplmnjlcmnaaDoor
