/- The law ManifestSwap: its walk. Conditions: each theorem's own hypotheses. -/
import Derived.Test.YtknemjnlcghafaaDoorMsD
import Derived.Test.YtknemjnlcghafaaDoorMsOpen
namespace Go.Proofs.YtknemjnlcghafaaDoor
open Go.RowKit
set_option linter.unusedVariables false

theorem Ms.num_r (e : Int) (w : World) : Calls Tryd.prog 7 #[.int .i64 e] w fun r w' => r = .returned (.int .i64 e) ∧ w = w' := (num_any e w).mono fun e w' ⟨a, b⟩ => ⟨a, b.symm⟩
theorem Ms.store_on {m : Dk.M} (h : m.off = false) (X : Man) : Ms.store m X 0 = Ms.storeD m (Sl.frame 3 (Mf.body X)) := by unfold Ms.store; rw [h, if_neg (by decide), if_pos rfl]
theorem Ms.cut2 (w : World) (a b : ByteArray) (k : Int) (s : UInt8) (t : TypeId) : Dk.Cts (w.alloc (.cells #[.string a, .int .i64 k, .int .u8 s.toNat, .string b, .int .i64 k, .int .u8 s.toNat] t)) (.slice (some ⟨w.heap.size, 0, none⟩) 2 2) [⟨a.data.toList, k, s⟩, ⟨b.data.toList, k, s⟩] := by
  refine .inr ⟨w.heap.size, 0, 2, rfl, by simp, fun i x hi => ?_⟩
  have hb := Blk.new w t #[.string a, .int .i64 k, .int .u8 s.toNat, .string b, .int .i64 k, .int .u8 s.toNat]
  match i with
  | 0 =>
    obtain rfl : _ = x := by simpa using hi
    exact ⟨hb.cell 0, hb.cell 1, hb.cell 2⟩
  | 1 =>
    obtain rfl : _ = x := by simpa using hi
    exact ⟨hb.cell 3, hb.cell 4, hb.cell 5⟩
  | i + 2 => simp at hi
def Ms.cs (k : Int) (s : UInt8) : List Dk.Cut := [⟨(⟨#[109, 97, 110, 105, 102, 101, 115, 116, 46, 110, 101, 119]⟩ : ByteArray).data.toList, k, s⟩, ⟨(⟨#[109, 97, 110, 105, 102, 101, 115, 116]⟩ : ByteArray).data.toList, k, s⟩]
theorem Ms.crash_at {B d : Nat} {W0 w : World} {m : Dk.M} {K : Nat → Prop} (S : Jl.Sit B W0 w d m K) (k : Int) (s : UInt8) (t : TypeId) :
    Calls Tryd.prog 17 #[.pointer (some ⟨d, 0, none⟩), .slice (some ⟨w.heap.size, 0, none⟩) 2 2] (w.alloc (.cells #[.string ⟨#[109, 97, 110, 105, 102, 101, 115, 116, 46, 110, 101, 119]⟩, .int .i64 k, .int .u8 s.toNat, .string ⟨#[109, 97, 110, 105, 102, 101, 115, 116]⟩, .int .i64 k, .int .u8 s.toNat] t)) fun e w' => e = .returned (.tuple #[]) ∧ Jl.Sit B W0 w' d (Dk.crash m (Ms.cs k s)) K ∧ Jl.Kept K w w' := by
  have hA : Below w.heap.size w (w.alloc (.cells #[.string ⟨#[109, 97, 110, 105, 102, 101, 115, 116, 46, 110, 101, 119]⟩, .int .i64 k, .int .u8 s.toNat, .string ⟨#[109, 97, 110, 105, 102, 101, 115, 116]⟩, .int .i64 k, .int .u8 s.toNat] t)) := (Below.refl _ _).alloc (Nat.le_refl _) _
  refine ((S.later hA).call (Dk.crash_good S.good (Ms.cs k s)) fun F h1 h2 => Dk.crash_any h1 h2 (Ms.cut2 w _ _ k s t) (by show 2 ≤ _; decide) fun c hc => ?_).mono fun e w' ⟨a, b, c⟩ => ⟨a, b, (S.kept hA).trans2' c⟩
  unfold Ms.cs at *
  simp only [List.mem_cons, List.not_mem_nil, or_false] at hc
  rcases hc with rfl | rfl
  · exact (by decide : (12 : Nat) ≤ 9223372036854775807)
  · exact (by decide : (8 : Nat) ≤ 9223372036854775807)
theorem Ms.Ty.eleven {W : World} {b o : Nat} {t : Ms.Ty} (h : ∀ i v, t.cells[i]? = some v → W.cell? ⟨b, o + i, none⟩ = some v) :
    W.cell? ⟨b, o + 0, none⟩ = some (.int .i64 t.M.w) ∧ W.cell? ⟨b, o + 1, none⟩ = some (.int .i64 t.M.c) ∧ W.cell? ⟨b, o + 2, none⟩ = some (.int .i64 t.M.m) ∧ W.cell? ⟨b, o + 3, none⟩ = some (.int .i64 t.M.seq) ∧ W.cell? ⟨b, o + 4, none⟩ = some (.int .i64 t.M.next) ∧ W.cell? ⟨b, o + 5, none⟩ = some (.int .i64 t.M.jr) ∧ W.cell? ⟨b, o + 6, none⟩ = some (.slice t.A t.M.runs.length t.cp) ∧ W.cell? ⟨b, o + 7, none⟩ = some (.int .i64 t.ct) ∧ W.cell? ⟨b, o + 8, none⟩ = some (.bool t.dn) ∧ W.cell? ⟨b, o + 9, none⟩ = some (.int .i64 t.ke) ∧ W.cell? ⟨b, o + 10, none⟩ = some (.int .u8 t.sp.toNat) :=
  ⟨h 0 _ rfl, h 1 _ rfl, h 2 _ rfl, h 3 _ rfl, h 4 _ rfl, h 5 _ rfl, h 6 _ rfl, h 7 _ rfl, h 8 _ rfl, h 9 _ rfl, h 10 _ rfl⟩
/-- Between two tries. -/
structure Ms.Sw (B : Nat) (W0 : World) (d b6 b8 : Nat) (X : Man) (A : Option Addr) (c : Nat) (m : Dk.M) (K : Nat → Prop) (w : World) : Prop where
  sit : Jl.Sit B W0 w d m K
  was : Ms.Mb w K b6 X A c
  box : ∃ Z A' c', Blk w b8 26 (manCells Z A' c')
  kb : K b8
  ne : b6 ≠ b8
  row : 0 < X.runs.length → ∀ g off, A = some ⟨g, off, none⟩ → g ≠ b6 ∧ g ≠ b8
  good : Mf.check X = 0
  inv : Ms.Inv 1048576 m (Sl.frame 3 (Mf.body X))
set_option maxRecDepth 100000 in
set_option maxHeartbeats 40000000 in
theorem Ms.swap_none (M1 : Man) (A1 : Option Addr) (c1 : Nat) (L : List Ms.Ty) (AT : Option Addr) (cT : Nat) (W : World) (R1 : Rs W W.heap.size A1 M1.runs) (l1 : M1.runs.length ≤ 4398046511104) (HL : L.length = 0) (HF : ∀ t ∈ L, Ms.TyFit W t) (hT : TabS W) :
    Calls Tryd.prog 4 #[.agg #[.int .i64 M1.w, .int .i64 M1.c, .int .i64 M1.m, .int .i64 M1.seq, .int .i64 M1.next, .int .i64 M1.jr, .slice A1 M1.runs.length c1], .slice AT L.length cT] W fun e w' => e = .returned (.bool true) ∧ Below W.heap.size W w' := by
  have hTB : ∀ {w : World}, Below W.heap.size W w → TabS w := fun hB => hT.below hB
  obtain ⟨X, hX⟩ : ∃ X, Mf.goes M1 = X := ⟨_, rfl⟩
  have hcX : Mf.check X = 0 := by rw [← hX]; exact Mf.goes_check M1
  have kg1 := fun {w : World} (h : Below W.heap.size W w) => goes_any M1 A1 c1 w ((R1.below h).more h.size) l1
  rw [hX] at kg1
  unfold manV at kg1
  have hbl := Ms.frame_nm hcX
  obtain ⟨m1, e1, o1, f1, k1, s1⟩ := Ms.inv_last (m := Dk.fresh 1048576) (cap := 1048576) (o := none) (x := none) (c := Sl.frame 3 (Mf.body X)) rfl rfl rfl Ms.fr_none rfl (by omega) (by show _ + 0 ≤ 1048576; omega)
  have hs1 : Ms.store (Dk.fresh 1048576) X 0 = (m1, 0) := by rw [Ms.store_on rfl]; exact e1
  have HN := Lib.hid (And.intro hcX (And.intro hs1 (And.intro o1 (And.intro f1 (And.intro k1 s1)))))
  have HL' := Lib.hid HL
  have HF' := Lib.hid HF
  clear hX hcX hbl e1 o1 f1 k1 s1 hs1 R1 l1 HL HF hT
  have B0 : Below W.heap.size W (W.alloc (.cells (manCells M1 A1 c1) 26)) := (Below.refl _ _).alloc (Nat.le_refl _) _
  have P2 : Blk (W.alloc (.cells (manCells M1 A1 c1) 26)) W.heap.size 26 (manCells M1 A1 c1) := Blk.new _ _ _
  have kne := Ms.new_at (n := 1048576) (by decide) B0 B0.size
  go_enter Tryd.func4, Tryd.ntmps4
  go_upto_region 4 with (go_at_call 9; refine kne.mono ?_; clear kne; rintro e w1 ⟨d, rfl, S1, b1⟩)
  have P21 : Blk w1 W.heap.size 26 (manCells M1 A1 c1) := (b1.block _ P2.lt).trans P2
  obtain ⟨a0, a1, a2, a3, a4, a5, a6⟩ : w1.cell? ⟨W.heap.size, 0, none⟩ = some (.int .i64 M1.w) ∧ w1.cell? ⟨W.heap.size, 1, none⟩ = some (.int .i64 M1.c) ∧ w1.cell? ⟨W.heap.size, 2, none⟩ = some (.int .i64 M1.m) ∧ w1.cell? ⟨W.heap.size, 3, none⟩ = some (.int .i64 M1.seq) ∧ w1.cell? ⟨W.heap.size, 4, none⟩ = some (.int .i64 M1.next) ∧ w1.cell? ⟨W.heap.size, 5, none⟩ = some (.int .i64 M1.jr) ∧ w1.cell? ⟨W.heap.size, 6, none⟩ = some (.slice A1 M1.runs.length c1) := ⟨P21.cell 0, P21.cell 1, P21.cell 2, P21.cell 3, P21.cell 4, P21.cell 5, P21.cell 6⟩
  have z1 := S1.size
  clear P2 b1
  go_upto_region 5 with (go_at_call 5; refine (kg1 S1.below).mono ?_; clear kg1; rintro e w2 ⟨⟨A3, c3, rfl, hr3⟩, b2⟩)
  obtain ⟨K2, hK2, S2, P6, hrow6, b22, z22, z2⟩ := Ms.fresh_step S1 hr3 b2
  rw [show (.cells #[.int .i64 X.w, .int .i64 X.c, .int .i64 X.m, .int .i64 X.seq, .int .i64 X.next, .int .i64 X.jr, .slice A3 X.runs.length c3] 26 : Obj) = .cells (manCells X A3 c3) 26 from rfl]
  generalize w2.alloc (.cells (manCells X A3 c3) 26) = x2 at S2 P6 b22 z2 ⊢
  generalize w2.heap.size = b6 at P6 hrow6 z22 z2 ⊢
  have hz6 : b6 < x2.heap.size := by omega
  clear a0 a1 a2 a3 a4 a5 a6 P21 z1 hr3 b2 b22 S1 w2
  obtain ⟨a0, a1, a2, a3, a4, a5, a6⟩ := P6.seven
  have kst := Ms.store_arm S2 P6 (Ms.fit_good HN.out.1) (hTB S2.below) HN.out.1 HN.out.2.1
  go_upto_region 6 with (go_at_call 10; refine kst.mono ?_; clear kst; rintro e w3 ⟨rfl, S3, q3⟩)
  have P63 := P6.kept q3
  have z3 := q3.1
  clear a0 a1 a2 a3 a4 a5 a6 P6 S2 q3
  have kld := Ms.load_good S3 hTB HN.out.1 HN.out.2.2.1 HN.out.2.2.2.2.2
  go_upto_region 7 with (go_at_call 12; refine kld.mono ?_; clear kld; rintro e w4 ⟨⟨A5, c5, rfl, hr5⟩, b4⟩)
  obtain ⟨K4, hK4, S4, P8, hrow8, b44, z44, z4⟩ := Ms.fresh_step S3 hr5 b4
  have P64 := (P63.later b44).more hK4
  rw [show (.cells #[.int .i64 X.w, .int .i64 X.c, .int .i64 X.m, .int .i64 X.seq, .int .i64 X.next, .int .i64 X.jr, .slice A5 X.runs.length c5] 26 : Obj) = .cells (manCells X A5 c5) 26 from rfl]
  generalize w4.alloc (.cells (manCells X A5 c5) 26) = x4 at S4 P8 P64 b44 z4 ⊢
  generalize w4.heap.size = b8 at P8 hrow8 z44 z4 ⊢
  clear hr5 b4 b44 P63 S3 w4
  obtain ⟨a0, a1, a2, a3, a4, a5, a6⟩ := P8.seven
  obtain ⟨d0, d1, d2, d3, d4, d5, d6⟩ := P64.seven
  have hlz : X.runs.length ≤ 4398046511104 := by have := (Mf.good HN.out.1).len; omega
  have ksm := same_any X A5 A3 c5 c3 x4 P8.rs P64.rs hlz
  unfold manV at ksm
  go_upto_region 10 with (first
    | (go_at_call 14; refine ksm.mono ?_; clear ksm; rintro e w5 ⟨rfl, b5⟩)
    | (go_at_call 7; refine (Ms.num_r _ _).mono ?_; rintro e w5 ⟨rfl, rfl⟩))
  have hSw : Ms.Sw W.heap.size W d b6 b8 X A3 c3 m1 K4 w5 := by
    have P85 := P8.later b5
    exact ⟨S4.later b5, P64.later b5, ⟨_, _, _, P85.blk⟩, P8.kb, by omega, fun h0 g off e => by have := hrow6 h0 g off e; omega, HN.out.1, HN.out.2.2.1, HN.out.2.2.2.1, HN.out.2.2.2.2.1, none, Ms.fr_none, HN.out.2.2.2.2.2⟩
  clear a0 a1 a2 a3 a4 a5 a6 d0 d1 d2 d3 d4 d5 d6 P8 P64 b5 S4 hrow6 hrow8 hlz z44 z4 z22 z2 z3 hz6 hK2 hK4 HN K2 w3 x2 x4 w1
  go_wp2_with fail
  go_loopw [11] (fun vi wr => ∃ k X A c m K, k ≤ 30 ∧ vi = .int .i64 (k : Nat) ∧ Ms.Sw W.heap.size W d b6 b8 X A c m K wr) (fun vi _ => 30 - (intOf vi).toNat)
  case atStart => exact ⟨0, _, _, _, _, _, Nat.zero_le _, rfl, hSw⟩
  case round =>
    clear hSw
    obtain ⟨k, X, A, c, m, K, hk, rfl, R⟩ := hrel
    by_cases hlt : k < L.length
    · exact absurd hlt (by have := HL'.out; omega)
    · have u1 : decide (k < L.length) = false := decide_eq_false hlt
      clear hlt
      have hb1 := R.sit.below
      obtain ⟨hX1, hX2, hX3, xx, hX4, hX5⟩ := R.inv
      obtain ⟨Y, hY⟩ : ∃ Y, Mf.goes ⟨0, 0, 0, 3, 77, 0, []⟩ = Y := ⟨_, rfl⟩
      have hcY : Mf.check Y = 0 := by rw [← hY]; exact Mf.goes_check _
      have hfX := Ms.frame_nm R.good
      have hfY := Ms.frame_nm hcY
      obtain ⟨r, e1, o1, f1, k1, s1⟩ := Ms.inv_last (c := Sl.frame 3 (Mf.body Y)) hX1 hX2 hX3 hX4 hX5 (by omega) (by rw [Ms.used_one]; omega)
      rw [← Ms.store_on hX1] at e1
      have kgo := goes_any ⟨0, 0, 0, 3, 77, 0, []⟩ none 0 wr (fun h => absurd h (by simp)) (by simp)
      rw [hY] at kgo
      unfold manV at kgo
      simp only [List.length_nil] at kgo
      obtain ⟨Zo, Ao, co, hbox⟩ := R.box
      have hk8 := R.kb
      have hl8 := hbox.lt
      have hlY : Y.runs.length ≤ 4398046511104 := by have := (Mf.good hcY).len; omega
      have S0 := R.sit
      have HE := Lib.hid (And.intro hcY (And.intro e1 (And.intro o1 s1)))
      clear hX1 hX2 hX3 hX4 hX5 hY hcY hfX hfY e1 o1 f1 k1 s1 R hk hb1
      go_upto_region 28 with (go_at_call 5; refine kgo.mono ?_; clear kgo; rintro e w2 ⟨⟨A3, c3, rfl, hr3⟩, b2⟩)
      obtain ⟨K2, hK2, S2, P17, hrow17, b22, z22, z2⟩ := Ms.fresh_step S0 hr3 b2
      rw [show (.cells #[.int .i64 Y.w, .int .i64 Y.c, .int .i64 Y.m, .int .i64 Y.seq, .int .i64 Y.next, .int .i64 Y.jr, .slice A3 Y.runs.length c3] 26 : Obj) = .cells (manCells Y A3 c3) 26 from rfl]
      have hbox2 : Blk (w2.alloc (.cells (manCells Y A3 c3) 26)) b8 26 (manCells Zo Ao co) := (b22.block _ hbox.lt).trans hbox
      have hk82 := hK2 _ hk8
      generalize w2.alloc (.cells (manCells Y A3 c3) 26) = x2 at S2 P17 hbox2 b22 z2 ⊢
      generalize w2.heap.size = b17 at P17 hrow17 z22 z2 ⊢
      have h17 : b17 ≠ b8 := by omega
      have hr17 : 0 < Y.runs.length → ∀ g off, A3 = some ⟨g, off, none⟩ → g ≠ b8 := fun h0 g off e => by have := hrow17 h0 g off e; omega
      clear hr3 b2 S0 hbox hk8 hrow17 w2
      obtain ⟨a0, a1, a2, a3, a4, a5, a6⟩ := P17.seven
      have kst := Ms.store_arm S2 P17 (Ms.fit_good HE.out.1) (hTB S2.below) HE.out.1 HE.out.2.1
      go_upto_region 29 with (go_at_call 10; refine kst.mono ?_; clear kst; rintro e x3 ⟨rfl, S3, q3⟩)
      have P173 := P17.kept q3
      have hbox3 : Blk x3 b8 26 (manCells Zo Ao co) := (q3.2 _ hk82).trans hbox2
      have zz3 := q3.1
      clear a0 a1 a2 a3 a4 a5 a6 P17 hbox2 q3 S2
      have kld := Ms.load_good S3 hTB HE.out.1 HE.out.2.2.1 HE.out.2.2.2
      go_upto_region 30 with (go_at_call 12; refine kld.mono ?_; clear kld; rintro e x7 ⟨⟨A5, c5, rfl, hr5⟩, b7⟩; have hbox7 : Blk x7 b8 26 (manCells Zo Ao co) := (b7.block _ hbox3.lt).trans hbox3; obtain ⟨f0, f1, f2, f3, f4, f5, f6⟩ := blk_free7 hbox7; obtain ⟨d0, d1, d2, d3, d4, d5, d6⟩ : x7.cell? ⟨b8, 0, none⟩ = some (.int .i64 Zo.w) ∧ x7.cell? ⟨b8, 1, none⟩ = some (.int .i64 Zo.c) ∧ x7.cell? ⟨b8, 2, none⟩ = some (.int .i64 Zo.m) ∧ x7.cell? ⟨b8, 3, none⟩ = some (.int .i64 Zo.seq) ∧ x7.cell? ⟨b8, 4, none⟩ = some (.int .i64 Zo.next) ∧ x7.cell? ⟨b8, 5, none⟩ = some (.int .i64 Zo.jr) ∧ x7.cell? ⟨b8, 6, none⟩ = some (.slice Ao Zo.runs.length co) := ⟨hbox7.cell 0, hbox7.cell 1, hbox7.cell 2, hbox7.cell 3, hbox7.cell 4, hbox7.cell 5, hbox7.cell 6⟩)
      clear f0 f1 f2 f3 f4 f5 f6 d0 d1 d2 d3 d4 d5 d6
      obtain ⟨K7, hK7, S7, hrow5⟩ := Ms.row_step (X := Y) S3 hr5 b7
      have P177 := (P173.later b7).more hK7
      have hk87 := hK7 _ hk82
      have hz7 := b7.size
      have hr5' : 0 < Y.runs.length → ∀ g off, A5 = some ⟨g, off, none⟩ → g ≠ b8 := fun h0 g off e => by have := (hrow5 h0 g off e).2; omega
      have S8 := Ms.sit7 (v0 := .int .i64 Y.w) (v1 := .int .i64 Y.c) (v2 := .int .i64 Y.m) (v3 := .int .i64 Y.seq) (v4 := .int .i64 Y.next) (v5 := .int .i64 Y.jr) (v6 := .slice A5 Y.runs.length c5) S7 hk87
      have P178 := P177.far7 (v0 := .int .i64 Y.w) (v1 := .int .i64 Y.c) (v2 := .int .i64 Y.m) (v3 := .int .i64 Y.seq) (v4 := .int .i64 Y.next) (v5 := .int .i64 Y.jr) (v6 := .slice A5 Y.runs.length c5) h17 hr17
      have P88 : Ms.Mb (man7 x7 b8 (.int .i64 Y.w) (.int .i64 Y.c) (.int .i64 Y.m) (.int .i64 Y.seq) (.int .i64 Y.next) (.int .i64 Y.jr) (.slice A5 Y.runs.length c5)) K7 b8 Y A5 c5 := ⟨Ms.blk7 hbox7, Ms.rs7 hr5.rs hr5', hk87, fun h0 g off e => (hrow5 h0 g off e).1⟩
      obtain ⟨x8, hx8⟩ : ∃ x, man7 x7 b8 (.int .i64 Y.w) (.int .i64 Y.c) (.int .i64 Y.m) (.int .i64 Y.seq) (.int .i64 Y.next) (.int .i64 Y.jr) (.slice A5 Y.runs.length c5) = x := ⟨_, rfl⟩
      rw [hx8] at S8 P178 P88
      unfold man7 at hx8
      rw [hx8]
      clear hx8 S7 P177 hbox7 S3 P173 hbox3 hr5
      obtain ⟨a0, a1, a2, a3, a4, a5, a6⟩ := P88.seven
      obtain ⟨d0, d1, d2, d3, d4, d5, d6⟩ := P178.seven
      have ks1 := same_any Y A5 A3 c5 c3 x8 P88.rs P178.rs hlY
      unfold manV at ks1
      go_upto_region 31 with (go_at_call 14; refine ks1.mono ?_; clear ks1; rintro e x9 ⟨rfl, b9⟩)
      have S9 := S8.later b9
      have knm := Ms.names_at S9 HE.out.2.2.1 HE.out.2.2.2
      clear a0 a1 a2 a3 a4 a5 a6 d0 d1 d2 d3 d4 d5 d6 S8 P178 P88 b9
      go_wp2_with (first
        | (go_at_call 13; refine knm.mono ?_; clear knm; rintro e x10 ⟨⟨gn, cn, rfl, hc0⟩, b10⟩)
        | (go_at_call 7; refine (Ms.num_r _ _).mono ?_; rintro e x10 ⟨rfl, rfl⟩))
      go_ret
      exact ⟨rfl, S9.below.trans (b10.mono S9.below.size)⟩
set_option maxRecDepth 100000 in
set_option maxHeartbeats 40000000 in
theorem Ms.swap_some (M1 : Man) (A1 : Option Addr) (c1 : Nat) (L : List Ms.Ty) (bT oT : Nat) (cT : Nat) (W : World) (R1 : Rs W W.heap.size A1 M1.runs) (l1 : M1.runs.length ≤ 4398046511104) (HL : bT < W.heap.size ∧ ∀ j t, L[j]? = some t → ∀ i v, t.cells[i]? = some v → W.cell? ⟨bT, oT + (j * 11 + i), none⟩ = some v) (HF : ∀ t ∈ L, Ms.TyFit W t) (hT : TabS W) :
    Calls Tryd.prog 4 #[.agg #[.int .i64 M1.w, .int .i64 M1.c, .int .i64 M1.m, .int .i64 M1.seq, .int .i64 M1.next, .int .i64 M1.jr, .slice A1 M1.runs.length c1], .slice (some ⟨bT, oT, none⟩) L.length cT] W fun e w' => e = .returned (.bool true) ∧ Below W.heap.size W w' := by
  have hTB : ∀ {w : World}, Below W.heap.size W w → TabS w := fun hB => hT.below hB
  obtain ⟨X, hX⟩ : ∃ X, Mf.goes M1 = X := ⟨_, rfl⟩
  have hcX : Mf.check X = 0 := by rw [← hX]; exact Mf.goes_check M1
  have kg1 := fun {w : World} (h : Below W.heap.size W w) => goes_any M1 A1 c1 w ((R1.below h).more h.size) l1
  rw [hX] at kg1
  unfold manV at kg1
  have hbl := Ms.frame_nm hcX
  obtain ⟨m1, e1, o1, f1, k1, s1⟩ := Ms.inv_last (m := Dk.fresh 1048576) (cap := 1048576) (o := none) (x := none) (c := Sl.frame 3 (Mf.body X)) rfl rfl rfl Ms.fr_none rfl (by omega) (by show _ + 0 ≤ 1048576; omega)
  have hs1 : Ms.store (Dk.fresh 1048576) X 0 = (m1, 0) := by rw [Ms.store_on rfl]; exact e1
  have HN := Lib.hid (And.intro hcX (And.intro hs1 (And.intro o1 (And.intro f1 (And.intro k1 s1)))))
  have HL' := Lib.hid HL
  have HF' := Lib.hid HF
  clear hX hcX hbl e1 o1 f1 k1 s1 hs1 R1 l1 HL HF hT
  have B0 : Below W.heap.size W (W.alloc (.cells (manCells M1 A1 c1) 26)) := (Below.refl _ _).alloc (Nat.le_refl _) _
  have P2 : Blk (W.alloc (.cells (manCells M1 A1 c1) 26)) W.heap.size 26 (manCells M1 A1 c1) := Blk.new _ _ _
  have kne := Ms.new_at (n := 1048576) (by decide) B0 B0.size
  go_enter Tryd.func4, Tryd.ntmps4
  go_upto_region 4 with (go_at_call 9; refine kne.mono ?_; clear kne; rintro e w1 ⟨d, rfl, S1, b1⟩)
  have P21 : Blk w1 W.heap.size 26 (manCells M1 A1 c1) := (b1.block _ P2.lt).trans P2
  obtain ⟨a0, a1, a2, a3, a4, a5, a6⟩ : w1.cell? ⟨W.heap.size, 0, none⟩ = some (.int .i64 M1.w) ∧ w1.cell? ⟨W.heap.size, 1, none⟩ = some (.int .i64 M1.c) ∧ w1.cell? ⟨W.heap.size, 2, none⟩ = some (.int .i64 M1.m) ∧ w1.cell? ⟨W.heap.size, 3, none⟩ = some (.int .i64 M1.seq) ∧ w1.cell? ⟨W.heap.size, 4, none⟩ = some (.int .i64 M1.next) ∧ w1.cell? ⟨W.heap.size, 5, none⟩ = some (.int .i64 M1.jr) ∧ w1.cell? ⟨W.heap.size, 6, none⟩ = some (.slice A1 M1.runs.length c1) := ⟨P21.cell 0, P21.cell 1, P21.cell 2, P21.cell 3, P21.cell 4, P21.cell 5, P21.cell 6⟩
  have z1 := S1.size
  clear P2 b1
  go_upto_region 5 with (go_at_call 5; refine (kg1 S1.below).mono ?_; clear kg1; rintro e w2 ⟨⟨A3, c3, rfl, hr3⟩, b2⟩)
  obtain ⟨K2, hK2, S2, P6, hrow6, b22, z22, z2⟩ := Ms.fresh_step S1 hr3 b2
  rw [show (.cells #[.int .i64 X.w, .int .i64 X.c, .int .i64 X.m, .int .i64 X.seq, .int .i64 X.next, .int .i64 X.jr, .slice A3 X.runs.length c3] 26 : Obj) = .cells (manCells X A3 c3) 26 from rfl]
  generalize w2.alloc (.cells (manCells X A3 c3) 26) = x2 at S2 P6 b22 z2 ⊢
  generalize w2.heap.size = b6 at P6 hrow6 z22 z2 ⊢
  have hz6 : b6 < x2.heap.size := by omega
  clear a0 a1 a2 a3 a4 a5 a6 P21 z1 hr3 b2 b22 S1 w2
  obtain ⟨a0, a1, a2, a3, a4, a5, a6⟩ := P6.seven
  have kst := Ms.store_arm S2 P6 (Ms.fit_good HN.out.1) (hTB S2.below) HN.out.1 HN.out.2.1
  go_upto_region 6 with (go_at_call 10; refine kst.mono ?_; clear kst; rintro e w3 ⟨rfl, S3, q3⟩)
  have P63 := P6.kept q3
  have z3 := q3.1
  clear a0 a1 a2 a3 a4 a5 a6 P6 S2 q3
  have kld := Ms.load_good S3 hTB HN.out.1 HN.out.2.2.1 HN.out.2.2.2.2.2
  go_upto_region 7 with (go_at_call 12; refine kld.mono ?_; clear kld; rintro e w4 ⟨⟨A5, c5, rfl, hr5⟩, b4⟩)
  obtain ⟨K4, hK4, S4, P8, hrow8, b44, z44, z4⟩ := Ms.fresh_step S3 hr5 b4
  have P64 := (P63.later b44).more hK4
  rw [show (.cells #[.int .i64 X.w, .int .i64 X.c, .int .i64 X.m, .int .i64 X.seq, .int .i64 X.next, .int .i64 X.jr, .slice A5 X.runs.length c5] 26 : Obj) = .cells (manCells X A5 c5) 26 from rfl]
  generalize w4.alloc (.cells (manCells X A5 c5) 26) = x4 at S4 P8 P64 b44 z4 ⊢
  generalize w4.heap.size = b8 at P8 hrow8 z44 z4 ⊢
  clear hr5 b4 b44 P63 S3 w4
  obtain ⟨a0, a1, a2, a3, a4, a5, a6⟩ := P8.seven
  obtain ⟨d0, d1, d2, d3, d4, d5, d6⟩ := P64.seven
  have hlz : X.runs.length ≤ 4398046511104 := by have := (Mf.good HN.out.1).len; omega
  have ksm := same_any X A5 A3 c5 c3 x4 P8.rs P64.rs hlz
  unfold manV at ksm
  go_upto_region 10 with (first
    | (go_at_call 14; refine ksm.mono ?_; clear ksm; rintro e w5 ⟨rfl, b5⟩)
    | (go_at_call 7; refine (Ms.num_r _ _).mono ?_; rintro e w5 ⟨rfl, rfl⟩))
  have hSw : Ms.Sw W.heap.size W d b6 b8 X A3 c3 m1 K4 w5 := by
    have P85 := P8.later b5
    exact ⟨S4.later b5, P64.later b5, ⟨_, _, _, P85.blk⟩, P8.kb, by omega, fun h0 g off e => by have := hrow6 h0 g off e; omega, HN.out.1, HN.out.2.2.1, HN.out.2.2.2.1, HN.out.2.2.2.2.1, none, Ms.fr_none, HN.out.2.2.2.2.2⟩
  clear a0 a1 a2 a3 a4 a5 a6 d0 d1 d2 d3 d4 d5 d6 P8 P64 b5 S4 hrow6 hrow8 hlz z44 z4 z22 z2 z3 hz6 hK2 hK4 HN K2 w3 x2 x4 w1
  go_wp2_with fail
  go_loopw [11] (fun vi wr => ∃ k X A c m K, k ≤ 30 ∧ vi = .int .i64 (k : Nat) ∧ Ms.Sw W.heap.size W d b6 b8 X A c m K wr) (fun vi _ => 30 - (intOf vi).toNat)
  case atStart => exact ⟨0, _, _, _, _, _, Nat.zero_le _, rfl, hSw⟩
  case round =>
    clear hSw
    obtain ⟨k, X, A, c, m, K, hk, rfl, R⟩ := hrel
    by_cases hlt : k < L.length
    · by_cases hk3 : k < 30
      · have u1 : decide (k < L.length) = true := decide_eq_true hlt
        have u2 : decide ((k : Int) < 30) = true := decide_eq_true (by omega)
        have wk1 : IntKind.i64.wrap ((k : Int) + 1) = ((k + 1 : Nat) : Int) := by rw [IntWalk.i64_in _ (by omega)]; omega
        have BW := R.sit.below
        obtain ⟨hbT, hcT⟩ := HL'.out
        obtain ⟨t, ht⟩ : ∃ t, L[k]? = some t := ⟨_, List.getElem?_eq_getElem hlt⟩
        obtain ⟨ft1, ft2, ft3, ft4⟩ := HF'.out t (List.mem_of_getElem? ht)
        obtain ⟨e0, e1, e2, e3, e4, e5, e6, e7, e8, e9, e10⟩ := Ms.Ty.eleven (W := wr) (b := bT) (o := oT + k * 11) (fun i v hv => by rw [Nat.add_assoc]; exact (BW.cell (p := ⟨bT, _, none⟩) hbT).trans (hcT k t ht i v hv))
        simp only [Nat.add_zero] at e0
        have hj0 : (0 : Int) ≤ (k : Int) := by omega
        have hj1 : (k : Int) < (L.length : Int) := by omega
        obtain ⟨Y, hY⟩ : ∃ Y, Mf.goes t.M = Y := ⟨_, rfl⟩
        have hcY : Mf.check Y = 0 := by rw [← hY]; exact Mf.goes_check t.M
        have hlX : X.runs.length ≤ 4398046511104 := by have := (Mf.good R.good).len; omega
        have hlY : Y.runs.length ≤ 4398046511104 := by have := (Mf.good hcY).len; omega
        have hfX := Ms.frame_nm R.good
        have hfY := Ms.frame_nm hcY
        have hinv := Ms.inv_try R.inv t.ct t.dn (c := Sl.frame 3 (Mf.body Y)) (by omega) (by omega) (Ms.cs t.ke t.sp)
        have hson : (Dk.arm m t.ct t.dn).off = false := by rw [Ms.arm_on R.inv.1]; exact R.inv.1
        rw [← Ms.store_on hson] at hinv
        obtain ⟨K1, hK1, S1, kb12, bA1⟩ := Ms.block_step R.sit (.cells t.cells.toArray 45)
        have hb12 : Blk (wr.alloc (.cells t.cells.toArray 45)) wr.heap.size 45 t.cells.toArray := Blk.new _ _ _
        have P61 := (R.was.later bA1).more hK1
        obtain ⟨Zo, Ao, co, hbox⟩ := R.box
        have hbox1 : Blk (wr.alloc (.cells t.cells.toArray 45)) b8 26 (manCells Zo Ao co) := (bA1.block _ hbox.lt).trans hbox
        have hk8 := hK1 _ R.kb
        have hne := R.ne
        have hl6 := R.was.blk.lt
        have hl8 := hbox.lt
        have hrow := R.row
        have hz1 : (wr.alloc (.cells t.cells.toArray 45)).heap.size = wr.heap.size + 1 := by simp
        have HA := Lib.hid (And.intro hcY (And.intro R.good hinv))
        have HK := Lib.hid (And.intro hk (And.intro hk3 hlt))
        clear hfX hfY hson hinv hcT ht hbT BW R hk hk3 hlt hbox hcY
        go_upto_region 14 with fail
        rw [show (.cells #[.int .i64 t.M.w, .int .i64 t.M.c, .int .i64 t.M.m, .int .i64 t.M.seq, .int .i64 t.M.next, .int .i64 t.M.jr, .slice t.A t.M.runs.length t.cp, .int .i64 t.ct, .bool t.dn, .int .i64 t.ke, .int .u8 t.sp.toNat] 45 : Obj) = .cells t.cells.toArray 45 from rfl]
        clear e0 e1 e2 e3 e4 e5 e6 e7 e8 e9 e10
        generalize wr.alloc (.cells t.cells.toArray 45) = x1 at hb12 S1 bA1 P61 hbox1 hz1 ⊢
        obtain ⟨b12, hb12e⟩ : ∃ b, wr.heap.size = b := ⟨_, rfl⟩
        rw [hb12e] at hb12 kb12 hz1 ⊢
        have g0 : x1.cell? ⟨b12, 0, none⟩ = some (.int .i64 t.M.w) := hb12.cell 0
        have g1 : x1.cell? ⟨b12, 1, none⟩ = some (.int .i64 t.M.c) := hb12.cell 1
        have g2 : x1.cell? ⟨b12, 2, none⟩ = some (.int .i64 t.M.m) := hb12.cell 2
        have g3 : x1.cell? ⟨b12, 3, none⟩ = some (.int .i64 t.M.seq) := hb12.cell 3
        have g4 : x1.cell? ⟨b12, 4, none⟩ = some (.int .i64 t.M.next) := hb12.cell 4
        have g5 : x1.cell? ⟨b12, 5, none⟩ = some (.int .i64 t.M.jr) := hb12.cell 5
        have g6 : x1.cell? ⟨b12, 6, none⟩ = some (.slice t.A t.M.runs.length t.cp) := hb12.cell 6
        have kgo := goes_any t.M t.A t.cp x1 ((ft1.below S1.below).more S1.below.size) ft2
        rw [hY] at kgo
        unfold manV at kgo
        clear hY
        go_upto_region 15 with (go_at_call 5; refine kgo.mono ?_; clear kgo; rintro e w2 ⟨⟨A3, c3, rfl, hr3⟩, b2⟩)
        obtain ⟨K2, hK2, S2, P13, hrow13, b22, z22, z2⟩ := Ms.fresh_step S1 hr3 b2
        have P62 := (P61.later b22).more hK2
        rw [show (.cells #[.int .i64 Y.w, .int .i64 Y.c, .int .i64 Y.m, .int .i64 Y.seq, .int .i64 Y.next, .int .i64 Y.jr, .slice A3 Y.runs.length c3] 26 : Obj) = .cells (manCells Y A3 c3) 26 from rfl]
        have hb122 : Blk (w2.alloc (.cells (manCells Y A3 c3) 26)) b12 45 t.cells.toArray := (b22.block _ hb12.lt).trans hb12
        have hbox2 : Blk (w2.alloc (.cells (manCells Y A3 c3) 26)) b8 26 (manCells Zo Ao co) := (b22.block _ hbox1.lt).trans hbox1
        have kb122 := hK2 _ kb12
        have hk82 := hK2 _ hk8
        generalize w2.alloc (.cells (manCells Y A3 c3) 26) = x2 at S2 P13 P62 hb122 hbox2 b22 z2 ⊢
        generalize w2.heap.size = b13 at P13 hrow13 z22 z2 ⊢
        have h13 : b13 ≠ b8 := by omega
        have hr13 : 0 < Y.runs.length → ∀ g off, A3 = some ⟨g, off, none⟩ → g ≠ b8 := fun h0 g off e => by have := hrow13 h0 g off e; omega
        have hr6 : 0 < X.runs.length → ∀ g off, A = some ⟨g, off, none⟩ → g ≠ b8 := fun h0 g off e => (hrow h0 g off e).2
        clear g0 g1 g2 g3 g4 g5 g6 hb12 hbox1 hr3 b2 P61 S1 bA1 kb12 hk8 hrow13 hrow w2
        rcases HA.out.2.2 with ⟨r, e1, o1, i1, i2⟩ | ⟨r, e1, o1, i3⟩
        · by_cases hgt : 5 < t.ct
          · have t1 : decide (t.ct > 5) = true := decide_eq_true hgt
            have t2 : decide (5 < t.ct) = true := decide_eq_true hgt
            have HE := Lib.hid (show Ms.store (Dk.arm m t.ct t.dn) Y 0 = (r, 0) ∧ r.off = false ∧ ∃ Z, (Z = X ∨ Z = Y) ∧ Z = Y ∧ Ms.Inv 1048576 (Dk.crash (Dk.arm r 0 false) (Ms.cs t.ke t.sp)) (Sl.frame 3 (Mf.body Z)) from ⟨e1, o1, Y, .inr rfl, rfl, i2⟩)
            clear e1 o1 i1 i2
            have g7 : x2.cell? ⟨b12, 7, none⟩ = some (.int .i64 t.ct) := hb122.cell 7
            have g8 : x2.cell? ⟨b12, 8, none⟩ = some (.bool t.dn) := hb122.cell 8
            have kar := Ms.arm_at S2 t.ct ⟨ft3, ft4⟩ t.dn
            go_upto_region 16 with (go_at_call 15; refine kar.mono ?_; clear kar; rintro e x3 ⟨rfl, S3, q3⟩)
            have P63 := P62.kept q3
            have P133 := P13.kept q3
            have hbox3 : Blk x3 b8 26 (manCells Zo Ao co) := (q3.2 _ hk82).trans hbox2
            have hb123 : Blk x3 b12 45 t.cells.toArray := (q3.2 _ kb122).trans hb122
            have zz3 := q3.1
            clear g7 g8 P62 P13 hbox2 hb122 q3 S2
            obtain ⟨a0, a1, a2, a3, a4, a5, a6⟩ := P133.seven
            have kst := Ms.store_arm S3 P133 (Ms.fit_good HA.out.1) (hTB S3.below) HA.out.1 HE.out.1
            go_upto_region 17 with (go_at_call 10; refine kst.mono ?_; clear kst; rintro e x4 ⟨rfl, S4, q4⟩)
            have P64 := P63.kept q4
            have P134 := P133.kept q4
            have hbox4 : Blk x4 b8 26 (manCells Zo Ao co) := (q4.2 _ hk82).trans hbox3
            have hb124 : Blk x4 b12 45 t.cells.toArray := (q4.2 _ kb122).trans hb123
            have zz4 := q4.1
            clear a0 a1 a2 a3 a4 a5 a6 P63 P133 hbox3 hb123 q4 S3
            have kdn := Ms.down_at S4
            rw [HE.out.2.1] at kdn
            go_upto_region 18 with (go_at_call 16; refine kdn.mono ?_; clear kdn; rintro e x4 ⟨rfl, rfl⟩)
            have kar := Ms.arm_at S4 0 (by decide) false
            go_upto_region 19 with (go_at_call 15; refine kar.mono ?_; clear kar; rintro e x5 ⟨rfl, S5, q5⟩)
            have P65 := P64.kept q5
            have P135 := P134.kept q5
            have hbox5 : Blk x5 b8 26 (manCells Zo Ao co) := (q5.2 _ hk82).trans hbox4
            have hb125 : Blk x5 b12 45 t.cells.toArray := (q5.2 _ kb122).trans hb124
            have zz5 := q5.1
            clear P64 P134 hbox4 hb124 q5 S4
            have g7 : x5.cell? ⟨b12, 7, none⟩ = some (.int .i64 t.ct) := hb125.cell 7
            have g9 : x5.cell? ⟨b12, 9, none⟩ = some (.int .i64 t.ke) := hb125.cell 9
            have g10 : x5.cell? ⟨b12, 10, none⟩ = some (.int .u8 t.sp.toNat) := hb125.cell 10
            go_upto_region 21 with (go_at_call 17; refine (Ms.crash_at S5 t.ke t.sp _).mono ?_; rintro e x6 ⟨rfl, S6, q6⟩)
            have P66 := P65.kept q6
            have P136 := P135.kept q6
            have hbox6 : Blk x6 b8 26 (manCells Zo Ao co) := (q6.2 _ hk82).trans hbox5
            have zz6 := q6.1
            clear g7 g9 g10 S5 P65 P135 hbox5 hb125 q6
            obtain ⟨Z, hZor, hZY, hi6⟩ := HE.out.2.2
            have hcZ : Mf.check Z = 0 := by
              rcases hZor with h | h
              · rw [h]; exact HA.out.2.1
              · rw [h]; exact HA.out.1
            have HZ := Lib.hid (And.intro hZor hZY)
            clear hZor hZY
            obtain ⟨i1, i2, i3, xx, i4, i5⟩ := hi6
            have kld := Ms.load_good S6 hTB hcZ i1 i5
            have hlZ : Z.runs.length ≤ 4398046511104 := by have := (Mf.good hcZ).len; omega
            have HI := Lib.hid (show Ms.Inv 1048576 (Dk.crash (Dk.arm r 0 false) (Ms.cs t.ke t.sp)) (Sl.frame 3 (Mf.body Z)) from ⟨i1, i2, i3, xx, i4, i5⟩)
            clear i1 i2 i3 i4 i5
            go_upto_region 22 with (go_at_call 12; refine kld.mono ?_; clear kld; rintro e x7 ⟨⟨A5, c5, rfl, hr5⟩, b7⟩; have hbox7 : Blk x7 b8 26 (manCells Zo Ao co) := (b7.block _ hbox6.lt).trans hbox6; obtain ⟨f0, f1, f2, f3, f4, f5, f6⟩ := blk_free7 hbox7; obtain ⟨d0, d1, d2, d3, d4, d5, d6⟩ : x7.cell? ⟨b8, 0, none⟩ = some (.int .i64 Zo.w) ∧ x7.cell? ⟨b8, 1, none⟩ = some (.int .i64 Zo.c) ∧ x7.cell? ⟨b8, 2, none⟩ = some (.int .i64 Zo.m) ∧ x7.cell? ⟨b8, 3, none⟩ = some (.int .i64 Zo.seq) ∧ x7.cell? ⟨b8, 4, none⟩ = some (.int .i64 Zo.next) ∧ x7.cell? ⟨b8, 5, none⟩ = some (.int .i64 Zo.jr) ∧ x7.cell? ⟨b8, 6, none⟩ = some (.slice Ao Zo.runs.length co) := ⟨hbox7.cell 0, hbox7.cell 1, hbox7.cell 2, hbox7.cell 3, hbox7.cell 4, hbox7.cell 5, hbox7.cell 6⟩)
            clear f0 f1 f2 f3 f4 f5 f6 d0 d1 d2 d3 d4 d5 d6
            obtain ⟨K7, hK7, S7, hrow5⟩ := Ms.row_step (X := Z) S6 hr5 b7
            have P67 := (P66.later b7).more hK7
            have P137 := (P136.later b7).more hK7
            have hk87 := hK7 _ hk82
            have hz7 := b7.size
            have hr5' : 0 < Z.runs.length → ∀ g off, A5 = some ⟨g, off, none⟩ → g ≠ b8 := fun h0 g off e => by have := (hrow5 h0 g off e).2; omega
            have S8 := Ms.sit7 (v0 := .int .i64 Z.w) (v1 := .int .i64 Z.c) (v2 := .int .i64 Z.m) (v3 := .int .i64 Z.seq) (v4 := .int .i64 Z.next) (v5 := .int .i64 Z.jr) (v6 := .slice A5 Z.runs.length c5) S7 hk87
            have P68 := P67.far7 (v0 := .int .i64 Z.w) (v1 := .int .i64 Z.c) (v2 := .int .i64 Z.m) (v3 := .int .i64 Z.seq) (v4 := .int .i64 Z.next) (v5 := .int .i64 Z.jr) (v6 := .slice A5 Z.runs.length c5) hne hr6
            have P138 := P137.far7 (v0 := .int .i64 Z.w) (v1 := .int .i64 Z.c) (v2 := .int .i64 Z.m) (v3 := .int .i64 Z.seq) (v4 := .int .i64 Z.next) (v5 := .int .i64 Z.jr) (v6 := .slice A5 Z.runs.length c5) h13 hr13
            have P88 : Ms.Mb (man7 x7 b8 (.int .i64 Z.w) (.int .i64 Z.c) (.int .i64 Z.m) (.int .i64 Z.seq) (.int .i64 Z.next) (.int .i64 Z.jr) (.slice A5 Z.runs.length c5)) K7 b8 Z A5 c5 := ⟨Ms.blk7 hbox7, Ms.rs7 hr5.rs hr5', hk87, fun h0 g off e => (hrow5 h0 g off e).1⟩
            have hz8 : (man7 x7 b8 (.int .i64 Z.w) (.int .i64 Z.c) (.int .i64 Z.m) (.int .i64 Z.seq) (.int .i64 Z.next) (.int .i64 Z.jr) (.slice A5 Z.runs.length c5)).heap.size = x7.heap.size := Ms.size7
            obtain ⟨x8, hx8⟩ : ∃ x, man7 x7 b8 (.int .i64 Z.w) (.int .i64 Z.c) (.int .i64 Z.m) (.int .i64 Z.seq) (.int .i64 Z.next) (.int .i64 Z.jr) (.slice A5 Z.runs.length c5) = x := ⟨_, rfl⟩
            rw [hx8] at S8 P68 P138 P88 hz8
            unfold man7 at hx8
            rw [hx8]
            clear hx8 S7 P67 P137 hbox7 S6 P66 P136 hbox6 hr5
            obtain ⟨a0, a1, a2, a3, a4, a5, a6⟩ := P88.seven
            obtain ⟨d0, d1, d2, d3, d4, d5, d6⟩ := P68.seven
            have ks1 := Ms.same_some Z X A5 A c5 c x8 P88.rs P68.rs hlZ hlX
            go_upto_region 23 with (go_at_call 14; refine ks1.mono ?_; clear ks1; rintro e x9 ⟨⟨q1, rfl, hq1⟩, b9⟩)
            have S9 := S8.later b9
            have P69 := P68.later b9
            have P139 := P138.later b9
            have P89 := P88.later b9
            have hz9 := b9.size
            clear a0 a1 a2 a3 a4 a5 a6 d0 d1 d2 d3 d4 d5 d6 S8 P68 P138 P88 b9
            obtain ⟨a0, a1, a2, a3, a4, a5, a6⟩ := P89.seven
            obtain ⟨d0, d1, d2, d3, d4, d5, d6⟩ := P139.seven
            have ks2 := Ms.same_some Z Y A5 A3 c5 c3 x9 P89.rs P139.rs hlZ hlY
            go_upto_region 24 with (go_at_call 14; refine ks2.mono ?_; clear ks2; rintro e x10 ⟨⟨q2, rfl, hq2⟩, b10⟩)
            have SA := S9.later b10
            have P6A := P69.later b10
            have P8A := P89.later b10
            have hzA := b10.size
            clear a0 a1 a2 a3 a4 a5 a6 d0 d1 d2 d3 d4 d5 d6 S9 P69 P139 P89 b10
            obtain ⟨a0, a1, a2, a3, a4, a5, a6⟩ := P8A.seven
            obtain ⟨d0, d1, d2, d3, d4, d5, d6⟩ := P6A.seven
            obtain ⟨f0, f1, f2, f3, f4, f5, f6⟩ := blk_free7 P6A.blk
            have hr6Z : 0 < Z.runs.length → ∀ g off, A5 = some ⟨g, off, none⟩ → g ≠ b6 := fun h0 g off e => by have := (hrow5 h0 g off e).2; omega
            have hSw : Ms.Sw W.heap.size W d b6 b8 Z A5 c5 (Dk.crash (Dk.arm r 0 false) (Ms.cs t.ke t.sp)) K7 (man7 x10 b6 (.int .i64 Z.w) (.int .i64 Z.c) (.int .i64 Z.m) (.int .i64 Z.seq) (.int .i64 Z.next) (.int .i64 Z.jr) (.slice A5 Z.runs.length c5)) := by
              have S11 := Ms.sit7 (v0 := .int .i64 Z.w) (v1 := .int .i64 Z.c) (v2 := .int .i64 Z.m) (v3 := .int .i64 Z.seq) (v4 := .int .i64 Z.next) (v5 := .int .i64 Z.jr) (v6 := .slice A5 Z.runs.length c5) SA P6A.kb
              have P811 := P8A.far7 (v0 := .int .i64 Z.w) (v1 := .int .i64 Z.c) (v2 := .int .i64 Z.m) (v3 := .int .i64 Z.seq) (v4 := .int .i64 Z.next) (v5 := .int .i64 Z.jr) (v6 := .slice A5 Z.runs.length c5) (Ne.symm hne) hr6Z
              exact ⟨S11, ⟨Ms.blk7 P6A.blk, P811.rs, P6A.kb, P811.ka⟩, ⟨_, _, _, P811.blk⟩, P8A.kb, hne, fun h0 g off e => ⟨hr6Z h0 g off e, hr5' h0 g off e⟩, hcZ, HI.out⟩
            have hk30 : k + 1 ≤ 30 := HK.out.2.1
            have HQ := Lib.hid (And.intro HZ.out.1 (And.intro HZ.out.2 (And.intro hq1 hq2)))
            clear HZ hq1 hq2 hcZ hlZ SA P6A P8A hrow5 hr5' hr6Z hz7 hz8 hz9 hzA zz3 zz4 zz5 zz6
            cases q1 <;> cases q2
            case false.false =>
              exfalso
              obtain ⟨z1, z2, z3, z4⟩ := HQ.out
              rcases z1 with z | z
              · exact absurd (z3 z) (by decide)
              · exact absurd (z4 z) (by decide)
            case true.false =>
              exfalso
              obtain ⟨z1, z2, z3, z4⟩ := HQ.out
              exact absurd (z4 z2) (by decide)
            all_goals
              go_wp2_with (go_at_call 7; refine (Ms.num_r _ _).mono ?_; rintro e x10 ⟨rfl, rfl⟩)
              go_roundw
              case rel => exact ⟨k + 1, _, _, _, _, _, hk30, by go_num, hSw⟩
              case measure => simp [intOf]; omega
          · have t1 : decide (t.ct > 5) = false := decide_eq_false hgt
            have t2 : decide (5 < t.ct) = false := decide_eq_false hgt
            have HE := Lib.hid (show Ms.store (Dk.arm m t.ct t.dn) Y 0 = (r, 0) ∧ r.off = false ∧ ∃ Z, (Z = X ∨ Z = Y) ∧ Z = Y ∧ Ms.Inv 1048576 (Dk.arm r 0 false) (Sl.frame 3 (Mf.body Z)) from ⟨e1, o1, Y, .inr rfl, rfl, i1⟩)
            clear e1 o1 i1 i2
            have g7 : x2.cell? ⟨b12, 7, none⟩ = some (.int .i64 t.ct) := hb122.cell 7
            have g8 : x2.cell? ⟨b12, 8, none⟩ = some (.bool t.dn) := hb122.cell 8
            have kar := Ms.arm_at S2 t.ct ⟨ft3, ft4⟩ t.dn
            go_upto_region 16 with (go_at_call 15; refine kar.mono ?_; clear kar; rintro e x3 ⟨rfl, S3, q3⟩)
            have P63 := P62.kept q3
            have P133 := P13.kept q3
            have hbox3 : Blk x3 b8 26 (manCells Zo Ao co) := (q3.2 _ hk82).trans hbox2
            have hb123 : Blk x3 b12 45 t.cells.toArray := (q3.2 _ kb122).trans hb122
            have zz3 := q3.1
            clear g7 g8 P62 P13 hbox2 hb122 q3 S2
            obtain ⟨a0, a1, a2, a3, a4, a5, a6⟩ := P133.seven
            have kst := Ms.store_arm S3 P133 (Ms.fit_good HA.out.1) (hTB S3.below) HA.out.1 HE.out.1
            go_upto_region 17 with (go_at_call 10; refine kst.mono ?_; clear kst; rintro e x4 ⟨rfl, S4, q4⟩)
            have P64 := P63.kept q4
            have P134 := P133.kept q4
            have hbox4 : Blk x4 b8 26 (manCells Zo Ao co) := (q4.2 _ hk82).trans hbox3
            have hb124 : Blk x4 b12 45 t.cells.toArray := (q4.2 _ kb122).trans hb123
            have zz4 := q4.1
            clear a0 a1 a2 a3 a4 a5 a6 P63 P133 hbox3 hb123 q4 S3
            have kdn := Ms.down_at S4
            rw [HE.out.2.1] at kdn
            go_upto_region 18 with (go_at_call 16; refine kdn.mono ?_; clear kdn; rintro e x4 ⟨rfl, rfl⟩)
            have kar := Ms.arm_at S4 0 (by decide) false
            go_upto_region 19 with (go_at_call 15; refine kar.mono ?_; clear kar; rintro e x5 ⟨rfl, S5, q5⟩)
            have P65 := P64.kept q5
            have P135 := P134.kept q5
            have hbox5 : Blk x5 b8 26 (manCells Zo Ao co) := (q5.2 _ hk82).trans hbox4
            have hb125 : Blk x5 b12 45 t.cells.toArray := (q5.2 _ kb122).trans hb124
            have zz5 := q5.1
            clear P64 P134 hbox4 hb124 q5 S4
            have g7 : x5.cell? ⟨b12, 7, none⟩ = some (.int .i64 t.ct) := hb125.cell 7
            have g9 : x5.cell? ⟨b12, 9, none⟩ = some (.int .i64 t.ke) := hb125.cell 9
            have g10 : x5.cell? ⟨b12, 10, none⟩ = some (.int .u8 t.sp.toNat) := hb125.cell 10
            go_upto_region 21 with fail
            clear g7 g9 g10
            have S6 := S5
            have P66 := P65
            have P136 := P135
            have hbox6 := hbox5
            have zz6 := zz5
            clear S5 P65 P135 hbox5 hb125
            obtain ⟨Z, hZor, hZY, hi6⟩ := HE.out.2.2
            have hcZ : Mf.check Z = 0 := by
              rcases hZor with h | h
              · rw [h]; exact HA.out.2.1
              · rw [h]; exact HA.out.1
            have HZ := Lib.hid (And.intro hZor hZY)
            clear hZor hZY
            obtain ⟨i1, i2, i3, xx, i4, i5⟩ := hi6
            have kld := Ms.load_good S6 hTB hcZ i1 i5
            have hlZ : Z.runs.length ≤ 4398046511104 := by have := (Mf.good hcZ).len; omega
            have HI := Lib.hid (show Ms.Inv 1048576 (Dk.arm r 0 false) (Sl.frame 3 (Mf.body Z)) from ⟨i1, i2, i3, xx, i4, i5⟩)
            clear i1 i2 i3 i4 i5
            go_upto_region 22 with (go_at_call 12; refine kld.mono ?_; clear kld; rintro e x7 ⟨⟨A5, c5, rfl, hr5⟩, b7⟩; have hbox7 : Blk x7 b8 26 (manCells Zo Ao co) := (b7.block _ hbox6.lt).trans hbox6; obtain ⟨f0, f1, f2, f3, f4, f5, f6⟩ := blk_free7 hbox7; obtain ⟨d0, d1, d2, d3, d4, d5, d6⟩ : x7.cell? ⟨b8, 0, none⟩ = some (.int .i64 Zo.w) ∧ x7.cell? ⟨b8, 1, none⟩ = some (.int .i64 Zo.c) ∧ x7.cell? ⟨b8, 2, none⟩ = some (.int .i64 Zo.m) ∧ x7.cell? ⟨b8, 3, none⟩ = some (.int .i64 Zo.seq) ∧ x7.cell? ⟨b8, 4, none⟩ = some (.int .i64 Zo.next) ∧ x7.cell? ⟨b8, 5, none⟩ = some (.int .i64 Zo.jr) ∧ x7.cell? ⟨b8, 6, none⟩ = some (.slice Ao Zo.runs.length co) := ⟨hbox7.cell 0, hbox7.cell 1, hbox7.cell 2, hbox7.cell 3, hbox7.cell 4, hbox7.cell 5, hbox7.cell 6⟩)
            clear f0 f1 f2 f3 f4 f5 f6 d0 d1 d2 d3 d4 d5 d6
            obtain ⟨K7, hK7, S7, hrow5⟩ := Ms.row_step (X := Z) S6 hr5 b7
            have P67 := (P66.later b7).more hK7
            have P137 := (P136.later b7).more hK7
            have hk87 := hK7 _ hk82
            have hz7 := b7.size
            have hr5' : 0 < Z.runs.length → ∀ g off, A5 = some ⟨g, off, none⟩ → g ≠ b8 := fun h0 g off e => by have := (hrow5 h0 g off e).2; omega
            have S8 := Ms.sit7 (v0 := .int .i64 Z.w) (v1 := .int .i64 Z.c) (v2 := .int .i64 Z.m) (v3 := .int .i64 Z.seq) (v4 := .int .i64 Z.next) (v5 := .int .i64 Z.jr) (v6 := .slice A5 Z.runs.length c5) S7 hk87
            have P68 := P67.far7 (v0 := .int .i64 Z.w) (v1 := .int .i64 Z.c) (v2 := .int .i64 Z.m) (v3 := .int .i64 Z.seq) (v4 := .int .i64 Z.next) (v5 := .int .i64 Z.jr) (v6 := .slice A5 Z.runs.length c5) hne hr6
            have P138 := P137.far7 (v0 := .int .i64 Z.w) (v1 := .int .i64 Z.c) (v2 := .int .i64 Z.m) (v3 := .int .i64 Z.seq) (v4 := .int .i64 Z.next) (v5 := .int .i64 Z.jr) (v6 := .slice A5 Z.runs.length c5) h13 hr13
            have P88 : Ms.Mb (man7 x7 b8 (.int .i64 Z.w) (.int .i64 Z.c) (.int .i64 Z.m) (.int .i64 Z.seq) (.int .i64 Z.next) (.int .i64 Z.jr) (.slice A5 Z.runs.length c5)) K7 b8 Z A5 c5 := ⟨Ms.blk7 hbox7, Ms.rs7 hr5.rs hr5', hk87, fun h0 g off e => (hrow5 h0 g off e).1⟩
            have hz8 : (man7 x7 b8 (.int .i64 Z.w) (.int .i64 Z.c) (.int .i64 Z.m) (.int .i64 Z.seq) (.int .i64 Z.next) (.int .i64 Z.jr) (.slice A5 Z.runs.length c5)).heap.size = x7.heap.size := Ms.size7
            obtain ⟨x8, hx8⟩ : ∃ x, man7 x7 b8 (.int .i64 Z.w) (.int .i64 Z.c) (.int .i64 Z.m) (.int .i64 Z.seq) (.int .i64 Z.next) (.int .i64 Z.jr) (.slice A5 Z.runs.length c5) = x := ⟨_, rfl⟩
            rw [hx8] at S8 P68 P138 P88 hz8
            unfold man7 at hx8
            rw [hx8]
            clear hx8 S7 P67 P137 hbox7 S6 P66 P136 hbox6 hr5
            obtain ⟨a0, a1, a2, a3, a4, a5, a6⟩ := P88.seven
            obtain ⟨d0, d1, d2, d3, d4, d5, d6⟩ := P68.seven
            have ks1 := Ms.same_some Z X A5 A c5 c x8 P88.rs P68.rs hlZ hlX
            go_upto_region 23 with (go_at_call 14; refine ks1.mono ?_; clear ks1; rintro e x9 ⟨⟨q1, rfl, hq1⟩, b9⟩)
            have S9 := S8.later b9
            have P69 := P68.later b9
            have P139 := P138.later b9
            have P89 := P88.later b9
            have hz9 := b9.size
            clear a0 a1 a2 a3 a4 a5 a6 d0 d1 d2 d3 d4 d5 d6 S8 P68 P138 P88 b9
            obtain ⟨a0, a1, a2, a3, a4, a5, a6⟩ := P89.seven
            obtain ⟨d0, d1, d2, d3, d4, d5, d6⟩ := P139.seven
            have ks2 := Ms.same_some Z Y A5 A3 c5 c3 x9 P89.rs P139.rs hlZ hlY
            go_upto_region 24 with (go_at_call 14; refine ks2.mono ?_; clear ks2; rintro e x10 ⟨⟨q2, rfl, hq2⟩, b10⟩)
            have SA := S9.later b10
            have P6A := P69.later b10
            have P8A := P89.later b10
            have hzA := b10.size
            clear a0 a1 a2 a3 a4 a5 a6 d0 d1 d2 d3 d4 d5 d6 S9 P69 P139 P89 b10
            obtain ⟨a0, a1, a2, a3, a4, a5, a6⟩ := P8A.seven
            obtain ⟨d0, d1, d2, d3, d4, d5, d6⟩ := P6A.seven
            obtain ⟨f0, f1, f2, f3, f4, f5, f6⟩ := blk_free7 P6A.blk
            have hr6Z : 0 < Z.runs.length → ∀ g off, A5 = some ⟨g, off, none⟩ → g ≠ b6 := fun h0 g off e => by have := (hrow5 h0 g off e).2; omega
            have hSw : Ms.Sw W.heap.size W d b6 b8 Z A5 c5 (Dk.arm r 0 false) K7 (man7 x10 b6 (.int .i64 Z.w) (.int .i64 Z.c) (.int .i64 Z.m) (.int .i64 Z.seq) (.int .i64 Z.next) (.int .i64 Z.jr) (.slice A5 Z.runs.length c5)) := by
              have S11 := Ms.sit7 (v0 := .int .i64 Z.w) (v1 := .int .i64 Z.c) (v2 := .int .i64 Z.m) (v3 := .int .i64 Z.seq) (v4 := .int .i64 Z.next) (v5 := .int .i64 Z.jr) (v6 := .slice A5 Z.runs.length c5) SA P6A.kb
              have P811 := P8A.far7 (v0 := .int .i64 Z.w) (v1 := .int .i64 Z.c) (v2 := .int .i64 Z.m) (v3 := .int .i64 Z.seq) (v4 := .int .i64 Z.next) (v5 := .int .i64 Z.jr) (v6 := .slice A5 Z.runs.length c5) (Ne.symm hne) hr6Z
              exact ⟨S11, ⟨Ms.blk7 P6A.blk, P811.rs, P6A.kb, P811.ka⟩, ⟨_, _, _, P811.blk⟩, P8A.kb, hne, fun h0 g off e => ⟨hr6Z h0 g off e, hr5' h0 g off e⟩, hcZ, HI.out⟩
            have hk30 : k + 1 ≤ 30 := HK.out.2.1
            have HQ := Lib.hid (And.intro HZ.out.1 (And.intro HZ.out.2 (And.intro hq1 hq2)))
            clear HZ hq1 hq2 hcZ hlZ SA P6A P8A hrow5 hr5' hr6Z hz7 hz8 hz9 hzA zz3 zz4 zz5 zz6
            cases q1 <;> cases q2
            case false.false =>
              exfalso
              obtain ⟨z1, z2, z3, z4⟩ := HQ.out
              rcases z1 with z | z
              · exact absurd (z3 z) (by decide)
              · exact absurd (z4 z) (by decide)
            case true.false =>
              exfalso
              obtain ⟨z1, z2, z3, z4⟩ := HQ.out
              exact absurd (z4 z2) (by decide)
            all_goals
              go_wp2_with (go_at_call 7; refine (Ms.num_r _ _).mono ?_; rintro e x10 ⟨rfl, rfl⟩)
              go_roundw
              case rel => exact ⟨k + 1, _, _, _, _, _, hk30, by go_num, hSw⟩
              case measure => simp [intOf]; omega
        · have HE := Lib.hid (show Ms.store (Dk.arm m t.ct t.dn) Y 0 = (r, 45) ∧ r.off = true ∧ ∃ Z, (Z = X ∨ Z = Y) ∧ True ∧ Ms.Inv 1048576 (Dk.crash (Dk.arm r 0 false) (Ms.cs t.ke t.sp)) (Sl.frame 3 (Mf.body Z)) from ⟨e1, o1, i3.elim (fun h => ⟨X, .inl rfl, trivial, h⟩) (fun h => ⟨Y, .inr rfl, trivial, h⟩)⟩)
          clear e1 o1 i3
          have g7 : x2.cell? ⟨b12, 7, none⟩ = some (.int .i64 t.ct) := hb122.cell 7
          have g8 : x2.cell? ⟨b12, 8, none⟩ = some (.bool t.dn) := hb122.cell 8
          have kar := Ms.arm_at S2 t.ct ⟨ft3, ft4⟩ t.dn
          go_upto_region 16 with (go_at_call 15; refine kar.mono ?_; clear kar; rintro e x3 ⟨rfl, S3, q3⟩)
          have P63 := P62.kept q3
          have P133 := P13.kept q3
          have hbox3 : Blk x3 b8 26 (manCells Zo Ao co) := (q3.2 _ hk82).trans hbox2
          have hb123 : Blk x3 b12 45 t.cells.toArray := (q3.2 _ kb122).trans hb122
          have zz3 := q3.1
          clear g7 g8 P62 P13 hbox2 hb122 q3 S2
          obtain ⟨a0, a1, a2, a3, a4, a5, a6⟩ := P133.seven
          have kst := Ms.store_arm S3 P133 (Ms.fit_good HA.out.1) (hTB S3.below) HA.out.1 HE.out.1
          go_upto_region 17 with (go_at_call 10; refine kst.mono ?_; clear kst; rintro e x4 ⟨rfl, S4, q4⟩)
          have P64 := P63.kept q4
          have P134 := P133.kept q4
          have hbox4 : Blk x4 b8 26 (manCells Zo Ao co) := (q4.2 _ hk82).trans hbox3
          have hb124 : Blk x4 b12 45 t.cells.toArray := (q4.2 _ kb122).trans hb123
          have zz4 := q4.1
          clear a0 a1 a2 a3 a4 a5 a6 P63 P133 hbox3 hb123 q4 S3
          have kdn := Ms.down_at S4
          rw [HE.out.2.1] at kdn
          go_upto_region 18 with (go_at_call 16; refine kdn.mono ?_; clear kdn; rintro e x4 ⟨rfl, rfl⟩)
          have kar := Ms.arm_at S4 0 (by decide) false
          go_upto_region 19 with (go_at_call 15; refine kar.mono ?_; clear kar; rintro e x5 ⟨rfl, S5, q5⟩)
          have P65 := P64.kept q5
          have P135 := P134.kept q5
          have hbox5 : Blk x5 b8 26 (manCells Zo Ao co) := (q5.2 _ hk82).trans hbox4
          have hb125 : Blk x5 b12 45 t.cells.toArray := (q5.2 _ kb122).trans hb124
          have zz5 := q5.1
          clear P64 P134 hbox4 hb124 q5 S4
          have g7 : x5.cell? ⟨b12, 7, none⟩ = some (.int .i64 t.ct) := hb125.cell 7
          have g9 : x5.cell? ⟨b12, 9, none⟩ = some (.int .i64 t.ke) := hb125.cell 9
          have g10 : x5.cell? ⟨b12, 10, none⟩ = some (.int .u8 t.sp.toNat) := hb125.cell 10
          go_upto_region 21 with (go_at_call 17; refine (Ms.crash_at S5 t.ke t.sp _).mono ?_; rintro e x6 ⟨rfl, S6, q6⟩)
          have P66 := P65.kept q6
          have P136 := P135.kept q6
          have hbox6 : Blk x6 b8 26 (manCells Zo Ao co) := (q6.2 _ hk82).trans hbox5
          have zz6 := q6.1
          clear g7 g9 g10 S5 P65 P135 hbox5 hb125 q6
          obtain ⟨Z, hZor, hZY, hi6⟩ := HE.out.2.2
          have hcZ : Mf.check Z = 0 := by
            rcases hZor with h | h
            · rw [h]; exact HA.out.2.1
            · rw [h]; exact HA.out.1
          have HZ := Lib.hid (And.intro hZor hZY)
          clear hZor hZY
          obtain ⟨i1, i2, i3, xx, i4, i5⟩ := hi6
          have kld := Ms.load_good S6 hTB hcZ i1 i5
          have hlZ : Z.runs.length ≤ 4398046511104 := by have := (Mf.good hcZ).len; omega
          have HI := Lib.hid (show Ms.Inv 1048576 (Dk.crash (Dk.arm r 0 false) (Ms.cs t.ke t.sp)) (Sl.frame 3 (Mf.body Z)) from ⟨i1, i2, i3, xx, i4, i5⟩)
          clear i1 i2 i3 i4 i5
          go_upto_region 22 with (go_at_call 12; refine kld.mono ?_; clear kld; rintro e x7 ⟨⟨A5, c5, rfl, hr5⟩, b7⟩; have hbox7 : Blk x7 b8 26 (manCells Zo Ao co) := (b7.block _ hbox6.lt).trans hbox6; obtain ⟨f0, f1, f2, f3, f4, f5, f6⟩ := blk_free7 hbox7; obtain ⟨d0, d1, d2, d3, d4, d5, d6⟩ : x7.cell? ⟨b8, 0, none⟩ = some (.int .i64 Zo.w) ∧ x7.cell? ⟨b8, 1, none⟩ = some (.int .i64 Zo.c) ∧ x7.cell? ⟨b8, 2, none⟩ = some (.int .i64 Zo.m) ∧ x7.cell? ⟨b8, 3, none⟩ = some (.int .i64 Zo.seq) ∧ x7.cell? ⟨b8, 4, none⟩ = some (.int .i64 Zo.next) ∧ x7.cell? ⟨b8, 5, none⟩ = some (.int .i64 Zo.jr) ∧ x7.cell? ⟨b8, 6, none⟩ = some (.slice Ao Zo.runs.length co) := ⟨hbox7.cell 0, hbox7.cell 1, hbox7.cell 2, hbox7.cell 3, hbox7.cell 4, hbox7.cell 5, hbox7.cell 6⟩)
          clear f0 f1 f2 f3 f4 f5 f6 d0 d1 d2 d3 d4 d5 d6
          obtain ⟨K7, hK7, S7, hrow5⟩ := Ms.row_step (X := Z) S6 hr5 b7
          have P67 := (P66.later b7).more hK7
          have P137 := (P136.later b7).more hK7
          have hk87 := hK7 _ hk82
          have hz7 := b7.size
          have hr5' : 0 < Z.runs.length → ∀ g off, A5 = some ⟨g, off, none⟩ → g ≠ b8 := fun h0 g off e => by have := (hrow5 h0 g off e).2; omega
          have S8 := Ms.sit7 (v0 := .int .i64 Z.w) (v1 := .int .i64 Z.c) (v2 := .int .i64 Z.m) (v3 := .int .i64 Z.seq) (v4 := .int .i64 Z.next) (v5 := .int .i64 Z.jr) (v6 := .slice A5 Z.runs.length c5) S7 hk87
          have P68 := P67.far7 (v0 := .int .i64 Z.w) (v1 := .int .i64 Z.c) (v2 := .int .i64 Z.m) (v3 := .int .i64 Z.seq) (v4 := .int .i64 Z.next) (v5 := .int .i64 Z.jr) (v6 := .slice A5 Z.runs.length c5) hne hr6
          have P138 := P137.far7 (v0 := .int .i64 Z.w) (v1 := .int .i64 Z.c) (v2 := .int .i64 Z.m) (v3 := .int .i64 Z.seq) (v4 := .int .i64 Z.next) (v5 := .int .i64 Z.jr) (v6 := .slice A5 Z.runs.length c5) h13 hr13
          have P88 : Ms.Mb (man7 x7 b8 (.int .i64 Z.w) (.int .i64 Z.c) (.int .i64 Z.m) (.int .i64 Z.seq) (.int .i64 Z.next) (.int .i64 Z.jr) (.slice A5 Z.runs.length c5)) K7 b8 Z A5 c5 := ⟨Ms.blk7 hbox7, Ms.rs7 hr5.rs hr5', hk87, fun h0 g off e => (hrow5 h0 g off e).1⟩
          have hz8 : (man7 x7 b8 (.int .i64 Z.w) (.int .i64 Z.c) (.int .i64 Z.m) (.int .i64 Z.seq) (.int .i64 Z.next) (.int .i64 Z.jr) (.slice A5 Z.runs.length c5)).heap.size = x7.heap.size := Ms.size7
          obtain ⟨x8, hx8⟩ : ∃ x, man7 x7 b8 (.int .i64 Z.w) (.int .i64 Z.c) (.int .i64 Z.m) (.int .i64 Z.seq) (.int .i64 Z.next) (.int .i64 Z.jr) (.slice A5 Z.runs.length c5) = x := ⟨_, rfl⟩
          rw [hx8] at S8 P68 P138 P88 hz8
          unfold man7 at hx8
          rw [hx8]
          clear hx8 S7 P67 P137 hbox7 S6 P66 P136 hbox6 hr5
          obtain ⟨a0, a1, a2, a3, a4, a5, a6⟩ := P88.seven
          obtain ⟨d0, d1, d2, d3, d4, d5, d6⟩ := P68.seven
          have ks1 := Ms.same_some Z X A5 A c5 c x8 P88.rs P68.rs hlZ hlX
          go_upto_region 23 with (go_at_call 14; refine ks1.mono ?_; clear ks1; rintro e x9 ⟨⟨q1, rfl, hq1⟩, b9⟩)
          have S9 := S8.later b9
          have P69 := P68.later b9
          have P139 := P138.later b9
          have P89 := P88.later b9
          have hz9 := b9.size
          clear a0 a1 a2 a3 a4 a5 a6 d0 d1 d2 d3 d4 d5 d6 S8 P68 P138 P88 b9
          obtain ⟨a0, a1, a2, a3, a4, a5, a6⟩ := P89.seven
          obtain ⟨d0, d1, d2, d3, d4, d5, d6⟩ := P139.seven
          have ks2 := Ms.same_some Z Y A5 A3 c5 c3 x9 P89.rs P139.rs hlZ hlY
          go_upto_region 24 with (go_at_call 14; refine ks2.mono ?_; clear ks2; rintro e x10 ⟨⟨q2, rfl, hq2⟩, b10⟩)
          have SA := S9.later b10
          have P6A := P69.later b10
          have P8A := P89.later b10
          have hzA := b10.size
          clear a0 a1 a2 a3 a4 a5 a6 d0 d1 d2 d3 d4 d5 d6 S9 P69 P139 P89 b10
          obtain ⟨a0, a1, a2, a3, a4, a5, a6⟩ := P8A.seven
          obtain ⟨d0, d1, d2, d3, d4, d5, d6⟩ := P6A.seven
          obtain ⟨f0, f1, f2, f3, f4, f5, f6⟩ := blk_free7 P6A.blk
          have hr6Z : 0 < Z.runs.length → ∀ g off, A5 = some ⟨g, off, none⟩ → g ≠ b6 := fun h0 g off e => by have := (hrow5 h0 g off e).2; omega
          have hSw : Ms.Sw W.heap.size W d b6 b8 Z A5 c5 (Dk.crash (Dk.arm r 0 false) (Ms.cs t.ke t.sp)) K7 (man7 x10 b6 (.int .i64 Z.w) (.int .i64 Z.c) (.int .i64 Z.m) (.int .i64 Z.seq) (.int .i64 Z.next) (.int .i64 Z.jr) (.slice A5 Z.runs.length c5)) := by
            have S11 := Ms.sit7 (v0 := .int .i64 Z.w) (v1 := .int .i64 Z.c) (v2 := .int .i64 Z.m) (v3 := .int .i64 Z.seq) (v4 := .int .i64 Z.next) (v5 := .int .i64 Z.jr) (v6 := .slice A5 Z.runs.length c5) SA P6A.kb
            have P811 := P8A.far7 (v0 := .int .i64 Z.w) (v1 := .int .i64 Z.c) (v2 := .int .i64 Z.m) (v3 := .int .i64 Z.seq) (v4 := .int .i64 Z.next) (v5 := .int .i64 Z.jr) (v6 := .slice A5 Z.runs.length c5) (Ne.symm hne) hr6Z
            exact ⟨S11, ⟨Ms.blk7 P6A.blk, P811.rs, P6A.kb, P811.ka⟩, ⟨_, _, _, P811.blk⟩, P8A.kb, hne, fun h0 g off e => ⟨hr6Z h0 g off e, hr5' h0 g off e⟩, hcZ, HI.out⟩
          have hk30 : k + 1 ≤ 30 := HK.out.2.1
          have HQ := Lib.hid (And.intro HZ.out.1 (And.intro HZ.out.2 (And.intro hq1 hq2)))
          clear HZ hq1 hq2 hcZ hlZ SA P6A P8A hrow5 hr5' hr6Z hz7 hz8 hz9 hzA zz3 zz4 zz5 zz6
          cases q1 <;> cases q2
          case false.false =>
            exfalso
            obtain ⟨z1, z2, z3, z4⟩ := HQ.out
            rcases z1 with z | z
            · exact absurd (z3 z) (by decide)
            · exact absurd (z4 z) (by decide)
          all_goals
            go_wp2_with (go_at_call 7; refine (Ms.num_r _ _).mono ?_; rintro e x10 ⟨rfl, rfl⟩)
            go_roundw
            case rel => exact ⟨k + 1, _, _, _, _, _, hk30, by go_num, hSw⟩
            case measure => simp [intOf]; omega
      · have u1 : decide (k < L.length) = true := decide_eq_true hlt
        have u2 : decide ((k : Int) < 30) = false := decide_eq_false (by omega)
        clear hlt hk3
        have hb1 := R.sit.below
        obtain ⟨hX1, hX2, hX3, xx, hX4, hX5⟩ := R.inv
        obtain ⟨Y, hY⟩ : ∃ Y, Mf.goes ⟨0, 0, 0, 3, 77, 0, []⟩ = Y := ⟨_, rfl⟩
        have hcY : Mf.check Y = 0 := by rw [← hY]; exact Mf.goes_check _
        have hfX := Ms.frame_nm R.good
        have hfY := Ms.frame_nm hcY
        obtain ⟨r, e1, o1, f1, k1, s1⟩ := Ms.inv_last (c := Sl.frame 3 (Mf.body Y)) hX1 hX2 hX3 hX4 hX5 (by omega) (by rw [Ms.used_one]; omega)
        rw [← Ms.store_on hX1] at e1
        have kgo := goes_any ⟨0, 0, 0, 3, 77, 0, []⟩ none 0 wr (fun h => absurd h (by simp)) (by simp)
        rw [hY] at kgo
        unfold manV at kgo
        simp only [List.length_nil] at kgo
        obtain ⟨Zo, Ao, co, hbox⟩ := R.box
        have hk8 := R.kb
        have hl8 := hbox.lt
        have hlY : Y.runs.length ≤ 4398046511104 := by have := (Mf.good hcY).len; omega
        have S0 := R.sit
        have HE := Lib.hid (And.intro hcY (And.intro e1 (And.intro o1 s1)))
        clear hX1 hX2 hX3 hX4 hX5 hY hcY hfX hfY e1 o1 f1 k1 s1 R hk hb1
        go_upto_region 28 with (go_at_call 5; refine kgo.mono ?_; clear kgo; rintro e w2 ⟨⟨A3, c3, rfl, hr3⟩, b2⟩)
        obtain ⟨K2, hK2, S2, P17, hrow17, b22, z22, z2⟩ := Ms.fresh_step S0 hr3 b2
        rw [show (.cells #[.int .i64 Y.w, .int .i64 Y.c, .int .i64 Y.m, .int .i64 Y.seq, .int .i64 Y.next, .int .i64 Y.jr, .slice A3 Y.runs.length c3] 26 : Obj) = .cells (manCells Y A3 c3) 26 from rfl]
        have hbox2 : Blk (w2.alloc (.cells (manCells Y A3 c3) 26)) b8 26 (manCells Zo Ao co) := (b22.block _ hbox.lt).trans hbox
        have hk82 := hK2 _ hk8
        generalize w2.alloc (.cells (manCells Y A3 c3) 26) = x2 at S2 P17 hbox2 b22 z2 ⊢
        generalize w2.heap.size = b17 at P17 hrow17 z22 z2 ⊢
        have h17 : b17 ≠ b8 := by omega
        have hr17 : 0 < Y.runs.length → ∀ g off, A3 = some ⟨g, off, none⟩ → g ≠ b8 := fun h0 g off e => by have := hrow17 h0 g off e; omega
        clear hr3 b2 S0 hbox hk8 hrow17 w2
        obtain ⟨a0, a1, a2, a3, a4, a5, a6⟩ := P17.seven
        have kst := Ms.store_arm S2 P17 (Ms.fit_good HE.out.1) (hTB S2.below) HE.out.1 HE.out.2.1
        go_upto_region 29 with (go_at_call 10; refine kst.mono ?_; clear kst; rintro e x3 ⟨rfl, S3, q3⟩)
        have P173 := P17.kept q3
        have hbox3 : Blk x3 b8 26 (manCells Zo Ao co) := (q3.2 _ hk82).trans hbox2
        have zz3 := q3.1
        clear a0 a1 a2 a3 a4 a5 a6 P17 hbox2 q3 S2
        have kld := Ms.load_good S3 hTB HE.out.1 HE.out.2.2.1 HE.out.2.2.2
        go_upto_region 30 with (go_at_call 12; refine kld.mono ?_; clear kld; rintro e x7 ⟨⟨A5, c5, rfl, hr5⟩, b7⟩; have hbox7 : Blk x7 b8 26 (manCells Zo Ao co) := (b7.block _ hbox3.lt).trans hbox3; obtain ⟨f0, f1, f2, f3, f4, f5, f6⟩ := blk_free7 hbox7; obtain ⟨d0, d1, d2, d3, d4, d5, d6⟩ : x7.cell? ⟨b8, 0, none⟩ = some (.int .i64 Zo.w) ∧ x7.cell? ⟨b8, 1, none⟩ = some (.int .i64 Zo.c) ∧ x7.cell? ⟨b8, 2, none⟩ = some (.int .i64 Zo.m) ∧ x7.cell? ⟨b8, 3, none⟩ = some (.int .i64 Zo.seq) ∧ x7.cell? ⟨b8, 4, none⟩ = some (.int .i64 Zo.next) ∧ x7.cell? ⟨b8, 5, none⟩ = some (.int .i64 Zo.jr) ∧ x7.cell? ⟨b8, 6, none⟩ = some (.slice Ao Zo.runs.length co) := ⟨hbox7.cell 0, hbox7.cell 1, hbox7.cell 2, hbox7.cell 3, hbox7.cell 4, hbox7.cell 5, hbox7.cell 6⟩)
        clear f0 f1 f2 f3 f4 f5 f6 d0 d1 d2 d3 d4 d5 d6
        obtain ⟨K7, hK7, S7, hrow5⟩ := Ms.row_step (X := Y) S3 hr5 b7
        have P177 := (P173.later b7).more hK7
        have hk87 := hK7 _ hk82
        have hz7 := b7.size
        have hr5' : 0 < Y.runs.length → ∀ g off, A5 = some ⟨g, off, none⟩ → g ≠ b8 := fun h0 g off e => by have := (hrow5 h0 g off e).2; omega
        have S8 := Ms.sit7 (v0 := .int .i64 Y.w) (v1 := .int .i64 Y.c) (v2 := .int .i64 Y.m) (v3 := .int .i64 Y.seq) (v4 := .int .i64 Y.next) (v5 := .int .i64 Y.jr) (v6 := .slice A5 Y.runs.length c5) S7 hk87
        have P178 := P177.far7 (v0 := .int .i64 Y.w) (v1 := .int .i64 Y.c) (v2 := .int .i64 Y.m) (v3 := .int .i64 Y.seq) (v4 := .int .i64 Y.next) (v5 := .int .i64 Y.jr) (v6 := .slice A5 Y.runs.length c5) h17 hr17
        have P88 : Ms.Mb (man7 x7 b8 (.int .i64 Y.w) (.int .i64 Y.c) (.int .i64 Y.m) (.int .i64 Y.seq) (.int .i64 Y.next) (.int .i64 Y.jr) (.slice A5 Y.runs.length c5)) K7 b8 Y A5 c5 := ⟨Ms.blk7 hbox7, Ms.rs7 hr5.rs hr5', hk87, fun h0 g off e => (hrow5 h0 g off e).1⟩
        obtain ⟨x8, hx8⟩ : ∃ x, man7 x7 b8 (.int .i64 Y.w) (.int .i64 Y.c) (.int .i64 Y.m) (.int .i64 Y.seq) (.int .i64 Y.next) (.int .i64 Y.jr) (.slice A5 Y.runs.length c5) = x := ⟨_, rfl⟩
        rw [hx8] at S8 P178 P88
        unfold man7 at hx8
        rw [hx8]
        clear hx8 S7 P177 hbox7 S3 P173 hbox3 hr5
        obtain ⟨a0, a1, a2, a3, a4, a5, a6⟩ := P88.seven
        obtain ⟨d0, d1, d2, d3, d4, d5, d6⟩ := P178.seven
        have ks1 := same_any Y A5 A3 c5 c3 x8 P88.rs P178.rs hlY
        unfold manV at ks1
        go_upto_region 31 with (go_at_call 14; refine ks1.mono ?_; clear ks1; rintro e x9 ⟨rfl, b9⟩)
        have S9 := S8.later b9
        have knm := Ms.names_at S9 HE.out.2.2.1 HE.out.2.2.2
        clear a0 a1 a2 a3 a4 a5 a6 d0 d1 d2 d3 d4 d5 d6 S8 P178 P88 b9
        go_wp2_with (first
          | (go_at_call 13; refine knm.mono ?_; clear knm; rintro e x10 ⟨⟨gn, cn, rfl, hc0⟩, b10⟩)
          | (go_at_call 7; refine (Ms.num_r _ _).mono ?_; rintro e x10 ⟨rfl, rfl⟩))
        go_ret
        exact ⟨rfl, S9.below.trans (b10.mono S9.below.size)⟩
    · have u1 : decide (k < L.length) = false := decide_eq_false hlt
      clear hlt
      have hb1 := R.sit.below
      obtain ⟨hX1, hX2, hX3, xx, hX4, hX5⟩ := R.inv
      obtain ⟨Y, hY⟩ : ∃ Y, Mf.goes ⟨0, 0, 0, 3, 77, 0, []⟩ = Y := ⟨_, rfl⟩
      have hcY : Mf.check Y = 0 := by rw [← hY]; exact Mf.goes_check _
      have hfX := Ms.frame_nm R.good
      have hfY := Ms.frame_nm hcY
      obtain ⟨r, e1, o1, f1, k1, s1⟩ := Ms.inv_last (c := Sl.frame 3 (Mf.body Y)) hX1 hX2 hX3 hX4 hX5 (by omega) (by rw [Ms.used_one]; omega)
      rw [← Ms.store_on hX1] at e1
      have kgo := goes_any ⟨0, 0, 0, 3, 77, 0, []⟩ none 0 wr (fun h => absurd h (by simp)) (by simp)
      rw [hY] at kgo
      unfold manV at kgo
      simp only [List.length_nil] at kgo
      obtain ⟨Zo, Ao, co, hbox⟩ := R.box
      have hk8 := R.kb
      have hl8 := hbox.lt
      have hlY : Y.runs.length ≤ 4398046511104 := by have := (Mf.good hcY).len; omega
      have S0 := R.sit
      have HE := Lib.hid (And.intro hcY (And.intro e1 (And.intro o1 s1)))
      clear hX1 hX2 hX3 hX4 hX5 hY hcY hfX hfY e1 o1 f1 k1 s1 R hk hb1
      go_upto_region 28 with (go_at_call 5; refine kgo.mono ?_; clear kgo; rintro e w2 ⟨⟨A3, c3, rfl, hr3⟩, b2⟩)
      obtain ⟨K2, hK2, S2, P17, hrow17, b22, z22, z2⟩ := Ms.fresh_step S0 hr3 b2
      rw [show (.cells #[.int .i64 Y.w, .int .i64 Y.c, .int .i64 Y.m, .int .i64 Y.seq, .int .i64 Y.next, .int .i64 Y.jr, .slice A3 Y.runs.length c3] 26 : Obj) = .cells (manCells Y A3 c3) 26 from rfl]
      have hbox2 : Blk (w2.alloc (.cells (manCells Y A3 c3) 26)) b8 26 (manCells Zo Ao co) := (b22.block _ hbox.lt).trans hbox
      have hk82 := hK2 _ hk8
      generalize w2.alloc (.cells (manCells Y A3 c3) 26) = x2 at S2 P17 hbox2 b22 z2 ⊢
      generalize w2.heap.size = b17 at P17 hrow17 z22 z2 ⊢
      have h17 : b17 ≠ b8 := by omega
      have hr17 : 0 < Y.runs.length → ∀ g off, A3 = some ⟨g, off, none⟩ → g ≠ b8 := fun h0 g off e => by have := hrow17 h0 g off e; omega
      clear hr3 b2 S0 hbox hk8 hrow17 w2
      obtain ⟨a0, a1, a2, a3, a4, a5, a6⟩ := P17.seven
      have kst := Ms.store_arm S2 P17 (Ms.fit_good HE.out.1) (hTB S2.below) HE.out.1 HE.out.2.1
      go_upto_region 29 with (go_at_call 10; refine kst.mono ?_; clear kst; rintro e x3 ⟨rfl, S3, q3⟩)
      have P173 := P17.kept q3
      have hbox3 : Blk x3 b8 26 (manCells Zo Ao co) := (q3.2 _ hk82).trans hbox2
      have zz3 := q3.1
      clear a0 a1 a2 a3 a4 a5 a6 P17 hbox2 q3 S2
      have kld := Ms.load_good S3 hTB HE.out.1 HE.out.2.2.1 HE.out.2.2.2
      go_upto_region 30 with (go_at_call 12; refine kld.mono ?_; clear kld; rintro e x7 ⟨⟨A5, c5, rfl, hr5⟩, b7⟩; have hbox7 : Blk x7 b8 26 (manCells Zo Ao co) := (b7.block _ hbox3.lt).trans hbox3; obtain ⟨f0, f1, f2, f3, f4, f5, f6⟩ := blk_free7 hbox7; obtain ⟨d0, d1, d2, d3, d4, d5, d6⟩ : x7.cell? ⟨b8, 0, none⟩ = some (.int .i64 Zo.w) ∧ x7.cell? ⟨b8, 1, none⟩ = some (.int .i64 Zo.c) ∧ x7.cell? ⟨b8, 2, none⟩ = some (.int .i64 Zo.m) ∧ x7.cell? ⟨b8, 3, none⟩ = some (.int .i64 Zo.seq) ∧ x7.cell? ⟨b8, 4, none⟩ = some (.int .i64 Zo.next) ∧ x7.cell? ⟨b8, 5, none⟩ = some (.int .i64 Zo.jr) ∧ x7.cell? ⟨b8, 6, none⟩ = some (.slice Ao Zo.runs.length co) := ⟨hbox7.cell 0, hbox7.cell 1, hbox7.cell 2, hbox7.cell 3, hbox7.cell 4, hbox7.cell 5, hbox7.cell 6⟩)
      clear f0 f1 f2 f3 f4 f5 f6 d0 d1 d2 d3 d4 d5 d6
      obtain ⟨K7, hK7, S7, hrow5⟩ := Ms.row_step (X := Y) S3 hr5 b7
      have P177 := (P173.later b7).more hK7
      have hk87 := hK7 _ hk82
      have hz7 := b7.size
      have hr5' : 0 < Y.runs.length → ∀ g off, A5 = some ⟨g, off, none⟩ → g ≠ b8 := fun h0 g off e => by have := (hrow5 h0 g off e).2; omega
      have S8 := Ms.sit7 (v0 := .int .i64 Y.w) (v1 := .int .i64 Y.c) (v2 := .int .i64 Y.m) (v3 := .int .i64 Y.seq) (v4 := .int .i64 Y.next) (v5 := .int .i64 Y.jr) (v6 := .slice A5 Y.runs.length c5) S7 hk87
      have P178 := P177.far7 (v0 := .int .i64 Y.w) (v1 := .int .i64 Y.c) (v2 := .int .i64 Y.m) (v3 := .int .i64 Y.seq) (v4 := .int .i64 Y.next) (v5 := .int .i64 Y.jr) (v6 := .slice A5 Y.runs.length c5) h17 hr17
      have P88 : Ms.Mb (man7 x7 b8 (.int .i64 Y.w) (.int .i64 Y.c) (.int .i64 Y.m) (.int .i64 Y.seq) (.int .i64 Y.next) (.int .i64 Y.jr) (.slice A5 Y.runs.length c5)) K7 b8 Y A5 c5 := ⟨Ms.blk7 hbox7, Ms.rs7 hr5.rs hr5', hk87, fun h0 g off e => (hrow5 h0 g off e).1⟩
      obtain ⟨x8, hx8⟩ : ∃ x, man7 x7 b8 (.int .i64 Y.w) (.int .i64 Y.c) (.int .i64 Y.m) (.int .i64 Y.seq) (.int .i64 Y.next) (.int .i64 Y.jr) (.slice A5 Y.runs.length c5) = x := ⟨_, rfl⟩
      rw [hx8] at S8 P178 P88
      unfold man7 at hx8
      rw [hx8]
      clear hx8 S7 P177 hbox7 S3 P173 hbox3 hr5
      obtain ⟨a0, a1, a2, a3, a4, a5, a6⟩ := P88.seven
      obtain ⟨d0, d1, d2, d3, d4, d5, d6⟩ := P178.seven
      have ks1 := same_any Y A5 A3 c5 c3 x8 P88.rs P178.rs hlY
      unfold manV at ks1
      go_upto_region 31 with (go_at_call 14; refine ks1.mono ?_; clear ks1; rintro e x9 ⟨rfl, b9⟩)
      have S9 := S8.later b9
      have knm := Ms.names_at S9 HE.out.2.2.1 HE.out.2.2.2
      clear a0 a1 a2 a3 a4 a5 a6 d0 d1 d2 d3 d4 d5 d6 S8 P178 P88 b9
      go_wp2_with (first
        | (go_at_call 13; refine knm.mono ?_; clear knm; rintro e x10 ⟨⟨gn, cn, rfl, hc0⟩, b10⟩)
        | (go_at_call 7; refine (Ms.num_r _ _).mono ?_; rintro e x10 ⟨rfl, rfl⟩))
      go_ret
      exact ⟨rfl, S9.below.trans (b10.mono S9.below.size)⟩

theorem Ms.swap_walk (M1 : Man) (A1 : Option Addr) (c1 : Nat) (L : List Ms.Ty) (AT : Option Addr) (cT : Nat) (W : World) (R1 : Rs W W.heap.size A1 M1.runs) (l1 : M1.runs.length ≤ 4398046511104) (HL : Ms.Tys W W.heap.size AT L) (HF : ∀ t ∈ L, Ms.TyFit W t) (hT : TabS W) :
    Calls Tryd.prog 4 #[.agg #[.int .i64 M1.w, .int .i64 M1.c, .int .i64 M1.m, .int .i64 M1.seq, .int .i64 M1.next, .int .i64 M1.jr, .slice A1 M1.runs.length c1], .slice AT L.length cT] W fun e w' => e = .returned (.bool true) ∧ Below W.heap.size W w' := by
  by_cases h0 : 0 < L.length
  · obtain ⟨b, off, rfl, hb, hc⟩ := HL h0
    exact Ms.swap_some M1 A1 c1 L b off cT W R1 l1 ⟨hb, hc⟩ HF hT
  · exact Ms.swap_none M1 A1 c1 L AT cT W R1 l1 (by omega) HF hT
/-- .. as the card wants it. -/
theorem Ms.swap_card (M1 : Man) (A1 : Option Addr) (c1 : Nat) (L : List Ms.Ty) (AT : Option Addr) (cT : Nat) (W : World) (R1 : Rs W W.heap.size A1 M1.runs) (nA1 : A1 = none → c1 = 0 ∧ M1.runs = []) (F1 : Mf.Fit M1) (l1 : (M1.runs.length + 1) * 32 ≤ 140737488355328) (HL : Ms.Tys W W.heap.size AT L) (HF : ∀ t ∈ L, Ms.TyFit W t) (hT : TabS W) :
    Calls Tryd.prog 4 #[manV M1 A1 c1, .slice AT L.length cT] W fun e w' => e = .returned (.bool true) ∧ Below W.heap.size W w' :=
  Ms.swap_walk M1 A1 c1 L AT cT W R1 (by omega) HL HF hT
#print axioms Ms.swap_card
end Go.Proofs.YtknemjnlcghafaaDoor
