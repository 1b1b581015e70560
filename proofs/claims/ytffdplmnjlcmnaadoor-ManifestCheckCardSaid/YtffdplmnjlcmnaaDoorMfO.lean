/- The walk of the law ManifestCheck. Conditions: each theorem's own hypotheses. -/
import Derived.Test.YtffdplmnjlcmnaaDoorMfN
import Derived.Test.YtffdplmnjlcmnaaDoorMfH
import Derived.Test.YtffdplmnjlcmnaaDoorMfP
import Derived.Deep.RegionHeld3
import Derived.Deep.DeepCutAuto
namespace Go.Proofs.YtffdplmnjlcmnaaDoor
open Go.RowKit Go.Maps
set_option linter.unusedVariables false

theorem twin_any (M : Man) (A : Option Addr) (c : Nat) (w : World) (H : Rs w w.heap.size A M.runs) (hA : A = none → c = 0 ∧ M.runs = []) (hm : (M.runs.length + 1) * 32 ≤ 140737488355328) :
    Calls Tryd.prog 11 #[manV M A c] w fun e w' => (∃ g cap, e = .returned (manV M (some ⟨g, 0, none⟩) cap) ∧ Own w' w.heap.size g cap (M.runs ++ [mark])) ∧ Below w.heap.size w w' := by
  cases A with
  | none => obtain ⟨rfl, hr⟩ := hA rfl; exact twin_nil M w hr
  | some ad => exact twin_some M ad c w H hm
theorem Own.cap {W : World} {base g cap : Nat} {hs : List Run} (h : Own W base g cap hs) : hs.length ≤ cap ∧ cap ≤ 9223372036854775807 := by
  rcases h.2 with ⟨h, _⟩ | ⟨g', cap', cur, hv, _, _, hc, hd, _⟩
  · cases h
  · cases hv; exact ⟨hc, by unfold maxLen at hd; omega⟩
theorem Own.below {W W' : World} {base g cap : Nat} {hs : List Run} (h : Own W base g cap hs) (hb : Below W.heap.size W W') : Own W' base g cap hs :=
  own_keep h (Nat.le_refl _) fun k _ hk => hb.block k hk

/-- The two halves compare a thing with itself. -/
theorem encV_shape (M : Man) (n : Nat) : ∃ S : ByteArray, encV M n = .tuple #[.string S, .int .i64 n] := by
  unfold encV
  by_cases h : n = 0
  · rw [if_pos h, h]; exact ⟨⟨(Sl.frame 3 (Mf.body M)).toArray⟩, rfl⟩
  · rw [if_neg h]; exact ⟨⟨#[]⟩, rfl⟩

/-- What lies there: the manifest handed in, its twin at block s, the twin's list. -/
structure Two (w : World) (M : Man) (A : Option Addr) (c s g cap : Nat) (M' : Man) (W : World) : Prop where
  bm : Blk W w.heap.size 26 (manCells M A c)
  bt : Blk W s 26 (manCells M' (some ⟨g, 0, none⟩) cap)
  row : Row W g (M'.runs ++ [mark])
  ap : w.heap.size < g ∧ g < s
  below : Below w.heap.size w W
theorem Two.later {w : World} {M : Man} {A : Option Addr} {c s g cap : Nat} {M' : Man} {W W' : World} (h : Two w M A c s g cap M' W) (hb : Below W.heap.size W W') : Two w M A c s g cap M' W' :=
  ⟨(hb.block _ h.bm.lt).trans h.bm, (hb.block _ h.bt.lt).trans h.bt, h.row.below hb h.row.lt, h.ap, h.below.trans (hb.mono h.below.size)⟩
theorem Two.rm {w : World} {M : Man} {A : Option Addr} {c s g cap : Nat} {M' : Man} {W : World} (h : Two w M A c s g cap M' W) (HR : Rs w w.heap.size A M.runs) : Rs W W.heap.size A M.runs := (HR.below h.below).more h.below.size
theorem Two.rt {w : World} {M : Man} {A : Option Addr} {c s g cap : Nat} {M' : Man} {W : World} (h : Two w M A c s g cap M' W) : Rs W W.heap.size (some ⟨g, 0, none⟩) M'.runs := h.row.rs.fst

/-- The list written over up to place k. -/
def Mf.overL (l : List Run) : Nat → List Run
  | 0 => l
  | k + 1 => (Mf.overL l k).set k ⟨(k : Int) + 1, k, (k : Int) + 1, 1⟩
theorem Mf.overL_len (l : List Run) : ∀ k, (Mf.overL l k).length = l.length
  | 0 => rfl
  | k + 1 => by rw [Mf.overL, List.length_set, Mf.overL_len l k]
def Mf.over (M : Man) (k : Nat) : Man := { M with runs := Mf.overL M.runs k }
theorem Two.put {w : World} {M : Man} {A : Option Addr} {c s g cap k : Nat} {W : World} (K : Two w M A c s g cap (Mf.over M k) W) (hk : k < M.runs.length) {x : Run} (hx : (Mf.overL M.runs k ++ [mark])[k]? = some x) :
    Two w M A c s g cap (Mf.over M (k + 1)) ((((W.setCell ⟨g, k * 4, none⟩ (.int .i64 ((k : Int) + 1))).setCell ⟨g, k * 4 + 1, none⟩ (.int .i64 (k : Int))).setCell ⟨g, k * 4 + 2, none⟩ (.int .i64 ((k : Int) + 1))).setCell ⟨g, k * 4 + 3, none⟩ (.int .i64 1)) := by
  have h1 := K.ap.1
  have h2 := K.ap.2
  have hl := Mf.overL_len M.runs k
  have hmc : manCells (Mf.over M (k + 1)) (some ⟨g, 0, none⟩) cap = manCells (Mf.over M k) (some ⟨g, 0, none⟩) cap := by
    unfold manCells Mf.over
    rw [Mf.overL_len, Mf.overL_len]
  refine ⟨(((K.bm.far ?_ _).far ?_ _).far ?_ _).far ?_ _, ?_, ?_, K.ap, (((K.below.setCell (p := ⟨g, _, none⟩) (Nat.le_of_lt h1) _).setCell (p := ⟨g, _, none⟩) (Nat.le_of_lt h1) _).setCell (p := ⟨g, _, none⟩) (Nat.le_of_lt h1) _).setCell (p := ⟨g, _, none⟩) (Nat.le_of_lt h1) _⟩
  · show w.heap.size ≠ g; omega
  · show w.heap.size ≠ g; omega
  · show w.heap.size ≠ g; omega
  · show w.heap.size ≠ g; omega
  · rw [hmc]
    refine (((K.bt.far ?_ _).far ?_ _).far ?_ _).far ?_ _ <;> (show s ≠ g; omega)
  · have := K.row.put hx ⟨(k : Int) + 1, k, (k : Int) + 1, 1⟩
    rw [List.set_append_left _ _ (by show k < (Mf.overL M.runs k).length; omega)] at this
    exact this
/-- Behind the loop: a twin more, its block at x. -/
structure Three (w : World) (M : Man) (A : Option Addr) (c s g cap : Nat) (M' : Man) (x g2 cap2 : Nat) (W : World) : Prop where
  two : Two w M A c s g cap M' W
  bn : Blk W x 26 (manCells M' (some ⟨g2, 0, none⟩) cap2)
  row2 : Row W g2 (M'.runs ++ [mark])
theorem Three.later {w : World} {M : Man} {A : Option Addr} {c s g cap : Nat} {M' : Man} {x g2 cap2 : Nat} {W W' : World} (h : Three w M A c s g cap M' x g2 cap2 W) (hb : Below W.heap.size W W') : Three w M A c s g cap M' x g2 cap2 W' :=
  ⟨h.two.later hb, (hb.block _ h.bn.lt).trans h.bn, h.row2.below hb h.row2.lt⟩
theorem Three.rn {w : World} {M : Man} {A : Option Addr} {c s g cap : Nat} {M' : Man} {x g2 cap2 : Nat} {W : World} (h : Three w M A c s g cap M' x g2 cap2 W) : Rs W W.heap.size (some ⟨g2, 0, none⟩) M'.runs := h.row2.rs.fst
theorem man_seven {W : World} {b : Nat} {M : Man} {A : Option Addr} {cap : Nat} (h : Blk W b 26 (manCells M A cap)) :
    W.cell? ⟨b, 0, none⟩ = some (.int .i64 M.w) ∧ W.cell? ⟨b, 1, none⟩ = some (.int .i64 M.c) ∧ W.cell? ⟨b, 2, none⟩ = some (.int .i64 M.m) ∧ W.cell? ⟨b, 3, none⟩ = some (.int .i64 M.seq) ∧ W.cell? ⟨b, 4, none⟩ = some (.int .i64 M.next) ∧ W.cell? ⟨b, 5, none⟩ = some (.int .i64 M.jr) ∧ W.cell? ⟨b, 6, none⟩ = some (.slice A M.runs.length cap) :=
  ⟨h.cell 0, h.cell 1, h.cell 2, h.cell 3, h.cell 4, h.cell 5, h.cell 6⟩
theorem Mf.overL_wf (l : List Run) (hl : ∀ r ∈ l, (Lit.int .i64 r.num).wf = true) : ∀ k, k ≤ 4398046511104 → ∀ r ∈ Mf.overL l k, (Lit.int .i64 r.num).wf = true
  | 0, _ => hl
  | k + 1, hk => fun r hr => by
    rcases List.mem_or_eq_of_mem_set hr with h | rfl
    · exact Mf.overL_wf l hl k (by omega) r h
    · simp [Lit.wf, IntKind.min, IntKind.max, IntKind.bits, IntKind.signed]; omega
theorem Mf.over_fit {M : Man} (h : Mf.Fit M) (k : Nat) (hk : k ≤ M.runs.length) : Mf.Fit (Mf.over M k) :=
  ⟨h.w, h.jr, Mf.overL_wf M.runs h.runs k (Nat.le_trans hk h.len), by show (Mf.overL M.runs k).length ≤ _; rw [Mf.overL_len]; exact h.len⟩
theorem num_out (e : Int) (P : World → Prop) (W : World) (h : P W) : Calls Tryd.prog 16 #[.int .i64 e] W fun r W' => r = .returned (.int .i64 e) ∧ P W' :=
  (num_any e W).mono fun r W' ⟨hr, hw⟩ => ⟨hr, hw ▸ h⟩
theorem refCheck_out (w : World) (M M' : Man) (A : Option Addr) (c s g cap n : Nat) (W : World) (HR : Rs w w.heap.size A M.runs) (hM : Mf.Fit M) (hn : Mf.check M = n)
    (hS : W.cell? ⟨w.heap.size, 0, none⟩ = some (.int .i64 M.w) ∧ W.cell? ⟨w.heap.size, 1, none⟩ = some (.int .i64 M.c) ∧ W.cell? ⟨w.heap.size, 2, none⟩ = some (.int .i64 M.m) ∧ W.cell? ⟨w.heap.size, 3, none⟩ = some (.int .i64 M.seq) ∧ W.cell? ⟨w.heap.size, 4, none⟩ = some (.int .i64 M.next) ∧ W.cell? ⟨w.heap.size, 5, none⟩ = some (.int .i64 M.jr) ∧ W.cell? ⟨w.heap.size, 6, none⟩ = some (.slice A M.runs.length c) ∧ Two w M A c s g cap M' W) :
    Calls Tryd.prog 17 #[.agg #[.int .i64 M.w, .int .i64 M.c, .int .i64 M.m, .int .i64 M.seq, .int .i64 M.next, .int .i64 M.jr, .slice A M.runs.length c]] W fun e W' => e = .returned (.int .i64 n) ∧ W'.cell? ⟨w.heap.size, 0, none⟩ = some (.int .i64 M.w) ∧ W'.cell? ⟨w.heap.size, 1, none⟩ = some (.int .i64 M.c) ∧ W'.cell? ⟨w.heap.size, 2, none⟩ = some (.int .i64 M.m) ∧ W'.cell? ⟨w.heap.size, 3, none⟩ = some (.int .i64 M.seq) ∧ W'.cell? ⟨w.heap.size, 4, none⟩ = some (.int .i64 M.next) ∧ W'.cell? ⟨w.heap.size, 5, none⟩ = some (.int .i64 M.jr) ∧ W'.cell? ⟨w.heap.size, 6, none⟩ = some (.slice A M.runs.length c) ∧ Two w M A c s g cap M' W' := by
  obtain ⟨h0, h1, h2, h3, h4, h5, h6, hK⟩ := hS
  have hb := World.block_lt_of_cell? W _ h0
  refine (refCheck_any M A c W (hK.rm HR) hM n hn).mono fun e W' ⟨he, hB⟩ => ⟨he, ?_⟩
  exact ⟨(hB.cell (p := ⟨w.heap.size, 0, none⟩) hb).trans h0, (hB.cell (p := ⟨w.heap.size, 1, none⟩) hb).trans h1, (hB.cell (p := ⟨w.heap.size, 2, none⟩) hb).trans h2, (hB.cell (p := ⟨w.heap.size, 3, none⟩) hb).trans h3, (hB.cell (p := ⟨w.heap.size, 4, none⟩) hb).trans h4, (hB.cell (p := ⟨w.heap.size, 5, none⟩) hb).trans h5, (hB.cell (p := ⟨w.heap.size, 6, none⟩) hb).trans h6, hK.later hB⟩

set_option maxRecDepth 100000 in
set_option maxHeartbeats 2000000 in
theorem check_law (M : Man) (A : Option Addr) (c : Nat) (w : World) (HR : Rs w w.heap.size A M.runs) (hA : A = none → c = 0 ∧ M.runs = []) (hM : Mf.Fit M) (hm : (M.runs.length + 1) * 32 ≤ 140737488355328) (hT : TabS w) :
    Calls Tryd.prog 3 #[manV M A c] w fun e w' => e = .returned (.bool true) ∧ Below w.heap.size w w' := by
  obtain ⟨n, hn⟩ : ∃ n, Mf.check M = n := ⟨_, rfl⟩
  obtain ⟨S, hS⟩ := encV_shape M n
  have HT := Lib.hid hT
  have HN := Lib.hid hn
  have HA := Lib.hid hA
  have HS := Lib.hid hS
  clear hT hn hA hS
  have htw := fun W h => twin_any M A c W h HA.out hm
  unfold manV at htw
  have HTW := Lib.hid htw
  clear htw
  unfold manV
  go_enter Tryd.func3, Tryd.ntmps3
  have b0 : Blk (w.alloc (.cells (manCells M A c) 26)) w.heap.size 26 (manCells M A c) := Blk.new w _ _
  have B0 : Below w.heap.size w (w.alloc (.cells (manCells M A c) 26)) := (Below.refl _ _).alloc (Nat.le_refl _) _
  have HB0 := Lib.hid b0
  clear b0
  go_wp2_with (go_at_call 11; refine (HTW.out _ ((HR.below B0).more B0.size)).mono ?_; rintro e w1 ⟨⟨g, cap, rfl, oa⟩, hB1⟩; have B1 : Below w.heap.size w w1 := B0.trans (hB1.mono B0.size); have oac := oa.cap; have oal := oa.lt)
  have bm1 : Blk w1 w.heap.size 26 (manCells M A c) := (hB1.block w.heap.size (by simp)).trans HB0.out
  have K1 : Two w M A c w1.heap.size g cap M (w1.alloc (.cells (manCells M (some ⟨g, 0, none⟩) cap) 26)) := by
    exact ⟨bm1.alloc _, Blk.new _ _ _, (Row.of_own oa).below ((Below.refl _ _).alloc (Nat.le_refl _) _) oal.2, ⟨by have := oal.1; rw [World.size_alloc] at this; omega, oal.2⟩, B1.alloc B1.size _⟩
  clear bm1 B1 hB1 oa
  have hcs : ∀ (A' : Option Addr) (cp : Nat), manCells M A' cp = #[.int .i64 M.w, .int .i64 M.c, .int .i64 M.m, .int .i64 M.seq, .int .i64 M.next, .int .i64 M.jr, .slice A' M.runs.length cp] := fun _ _ => rfl
  refine (check_any M _ cap _ K1.rt hM n HN.out).mono ?_
  rintro e w2 ⟨rfl, hB2⟩
  have K2 := K1.later hB2
  clear hB2 K1
  have t0 := K2.bt.cell 0
  have t1 := K2.bt.cell 1
  have t2 := K2.bt.cell 2
  have t3 := K2.bt.cell 3
  have t4 := K2.bt.cell 4
  have t5 := K2.bt.cell 5
  have t6 := K2.bt.cell 6
  have m0 := K2.bm.cell 0
  have m1 := K2.bm.cell 1
  have m2 := K2.bm.cell 2
  have m3 := K2.bm.cell 3
  have m4 := K2.bm.cell 4
  have m5 := K2.bm.cell 5
  have m6 := K2.bm.cell 6
  rw [hcs] at t0 t1 t2 t3 t4 t5 t6 m0 m1 m2 m3 m4 m5 m6
  simp only [List.getElem?_toArray, List.getElem?_cons_zero, List.getElem?_cons_succ] at t0 t1 t2 t3 t4 t5 t6 m0 m1 m2 m3 m4 m5 m6
  go_wp2_with fail
  refine (encode_any M _ cap _ K2.rt hM (HT.out.below K2.below) n HN.out).mono ?_
  rintro e w3 ⟨rfl, hB3⟩
  rw [HS.out]
  have K3 := K2.later hB3
  clear t0 t1 t2 t3 t4 t5 t6 m0 m1 m2 m3 m4 m5 m6 hB3
  have t0 := K3.bt.cell 0
  have t1 := K3.bt.cell 1
  have t2 := K3.bt.cell 2
  have t3 := K3.bt.cell 3
  have t4 := K3.bt.cell 4
  have t5 := K3.bt.cell 5
  have t6 := K3.bt.cell 6
  have m0 := K3.bm.cell 0
  have m1 := K3.bm.cell 1
  have m2 := K3.bm.cell 2
  have m3 := K3.bm.cell 3
  have m4 := K3.bm.cell 4
  have m5 := K3.bm.cell 5
  have m6 := K3.bm.cell 6
  rw [hcs] at t0 t1 t2 t3 t4 t5 t6 m0 m1 m2 m3 m4 m5 m6
  simp only [List.getElem?_toArray, List.getElem?_cons_zero, List.getElem?_cons_succ] at t0 t1 t2 t3 t4 t5 t6 m0 m1 m2 m3 m4 m5 m6
  go_wp2_with fail
  refine (refEncode_any M _ c _ (K3.rm HR) hM n HN.out).mono ?_
  rintro e w4 ⟨rfl, hB4⟩
  rw [HS.out]
  have K4 := K3.later hB4
  clear t0 t1 t2 t3 t4 t5 t6 m0 m1 m2 m3 m4 m5 m6 hB4
  have t0 := K4.bt.cell 0
  have t1 := K4.bt.cell 1
  have t2 := K4.bt.cell 2
  have t3 := K4.bt.cell 3
  have t4 := K4.bt.cell 4
  have t5 := K4.bt.cell 5
  have t6 := K4.bt.cell 6
  have m0 := K4.bm.cell 0
  have m1 := K4.bm.cell 1
  have m2 := K4.bm.cell 2
  have m3 := K4.bm.cell 3
  have m4 := K4.bm.cell 4
  have m5 := K4.bm.cell 5
  have m6 := K4.bm.cell 6
  rw [hcs] at t0 t1 t2 t3 t4 t5 t6 m0 m1 m2 m3 m4 m5 m6
  simp only [List.getElem?_toArray, List.getElem?_cons_zero, List.getElem?_cons_succ] at t0 t1 t2 t3 t4 t5 t6 m0 m1 m2 m3 m4 m5 m6
  go_wp2_with fail
  refine (kept_any M A g cap c _ (K4.rm HR) K4.row.rs (by simpa using oac.1) oac.2 (by omega)).mono ?_
  rintro e w5 ⟨rfl, hB5⟩
  have K5 := K4.later hB5
  clear t0 t1 t2 t3 t4 t5 t6 m0 m1 m2 m3 m4 m5 m6 hB5
  have t0 := K5.bt.cell 0
  have t1 := K5.bt.cell 1
  have t2 := K5.bt.cell 2
  have t3 := K5.bt.cell 3
  have t4 := K5.bt.cell 4
  have t5 := K5.bt.cell 5
  have t6 := K5.bt.cell 6
  have m0 := K5.bm.cell 0
  have m1 := K5.bm.cell 1
  have m2 := K5.bm.cell 2
  have m3 := K5.bm.cell 3
  have m4 := K5.bm.cell 4
  have m5 := K5.bm.cell 5
  have m6 := K5.bm.cell 6
  rw [hcs] at t0 t1 t2 t3 t4 t5 t6 m0 m1 m2 m3 m4 m5 m6
  simp only [List.getElem?_toArray, List.getElem?_cons_zero, List.getElem?_cons_succ] at t0 t1 t2 t3 t4 t5 t6 m0 m1 m2 m3 m4 m5 m6
  clear t0 t1 t2 t3 t4 t5 t6 K2 K3 K4
  go_wp2_with fail
  go_cut [50] (fun b W => b = .bool false ∧ Two w M A c w1.heap.size g cap M W)
  case first =>
    have S5 : w5.drew.cell? ⟨w.heap.size, 0, none⟩ = some (.int .i64 M.w) ∧ w5.drew.cell? ⟨w.heap.size, 1, none⟩ = some (.int .i64 M.c) ∧ w5.drew.cell? ⟨w.heap.size, 2, none⟩ = some (.int .i64 M.m) ∧ w5.drew.cell? ⟨w.heap.size, 3, none⟩ = some (.int .i64 M.seq) ∧ w5.drew.cell? ⟨w.heap.size, 4, none⟩ = some (.int .i64 M.next) ∧ w5.drew.cell? ⟨w.heap.size, 5, none⟩ = some (.int .i64 M.jr) ∧ w5.drew.cell? ⟨w.heap.size, 6, none⟩ = some (.slice A M.runs.length c) ∧ Two w M A c w1.heap.size g cap M w5.drew := ⟨m0, m1, m2, m3, m4, m5, m6, K5.later ⟨rfl, rfl, rfl, Nat.le_refl _, fun _ _ => rfl⟩⟩
    go_region_held3 (fun W' => W'.cell? ⟨w.heap.size, 0, none⟩ = some (.int .i64 M.w) ∧ W'.cell? ⟨w.heap.size, 1, none⟩ = some (.int .i64 M.c) ∧ W'.cell? ⟨w.heap.size, 2, none⟩ = some (.int .i64 M.m) ∧ W'.cell? ⟨w.heap.size, 3, none⟩ = some (.int .i64 M.seq) ∧ W'.cell? ⟨w.heap.size, 4, none⟩ = some (.int .i64 M.next) ∧ W'.cell? ⟨w.heap.size, 5, none⟩ = some (.int .i64 M.jr) ∧ W'.cell? ⟨w.heap.size, 6, none⟩ = some (.slice A M.runs.length c) ∧ Two w M A c w1.heap.size g cap M W')
      (first
        | with_reducible assumption
        | fail)
      (first
        | (go_at_call 16; refine (num_out n (fun W' => W'.cell? ⟨w.heap.size, 0, none⟩ = some (.int .i64 M.w) ∧ W'.cell? ⟨w.heap.size, 1, none⟩ = some (.int .i64 M.c) ∧ W'.cell? ⟨w.heap.size, 2, none⟩ = some (.int .i64 M.m) ∧ W'.cell? ⟨w.heap.size, 3, none⟩ = some (.int .i64 M.seq) ∧ W'.cell? ⟨w.heap.size, 4, none⟩ = some (.int .i64 M.next) ∧ W'.cell? ⟨w.heap.size, 5, none⟩ = some (.int .i64 M.jr) ∧ W'.cell? ⟨w.heap.size, 6, none⟩ = some (.slice A M.runs.length c) ∧ Two w M A c w1.heap.size g cap M W') _ (by with_reducible assumption)).mono ?_; rintro e x6 ⟨rfl, kS⟩)
        | (go_at_call 17; refine (refCheck_out w M M A c w1.heap.size g cap n _ HR hM HN.out (by with_reducible assumption)).mono ?_; rintro e x6 ⟨rfl, kS⟩))
    all_goals
      go_wp2_with fail
      go_meet
      with_reducible exact ⟨rfl, kS.2.2.2.2.2.2.2⟩
  case rest =>
    obtain ⟨rfl, K6⟩ := hcut
    go_wp2_with fail
    go_loopw [10] (fun i wr => ∃ k : Nat, k ≤ M.runs.length ∧ i = .int .i64 k ∧ Two w M A c w1.heap.size g cap (Mf.over M k) wr) (fun i _ => M.runs.length - (intOf i).toNat)
    case atStart => exact ⟨0, Nat.zero_le _, rfl, K6⟩
    case round =>
      obtain ⟨k, hk, rfl, K⟩ := hrel
      have hlen := Mf.overL_len M.runs k
      have t6 : wr.cell? ⟨w1.heap.size, 6, none⟩ = some (.slice (some ⟨g, 0, none⟩) M.runs.length cap) := by
        have := K.bt.cell 6
        rw [show (manCells (Mf.over M k) (some ⟨g, 0, none⟩) cap)[6]? = some (.slice (some ⟨g, 0, none⟩) (Mf.overL M.runs k).length cap) from rfl, hlen] at this
        exact this
      by_cases hlt : k < M.runs.length
      · obtain ⟨x, hx⟩ : ∃ x, (Mf.overL M.runs k ++ [mark])[k]? = some x := ⟨_, List.getElem?_eq_getElem (by rw [List.length_append, hlen]; omega)⟩
        obtain ⟨a0, a1, a2, a3⟩ := K.row.at_ k x hx
        have f0 := K.row.free (k * 4)
        have f1 := K.row.free (k * 4 + 1)
        have f2 := K.row.free (k * 4 + 2)
        have f3 := K.row.free (k * 4 + 3)
        have HX := Lib.hid hx
        have HLN := Lib.hid hlen
        clear hx hlen
        go_wp2_with fail
        go_roundw
        case rel =>
          exact ⟨k + 1, by omega, by go_num, K.put hlt HX.out⟩
        case measure => simp [intOf]; omega
      · obtain rfl : k = M.runs.length := by omega
        obtain ⟨M2, hM2⟩ : ∃ M2, Mf.over M M.runs.length = M2 := ⟨_, rfl⟩
        have q6 : M2.runs.length = M.runs.length := by rw [← hM2]; exact hlen
        rw [hM2] at K
        have HQ := Lib.hid hM2
        have hcs2 : ∀ (A' : Option Addr) (cp : Nat), manCells M2 A' cp = #[.int .i64 M2.w, .int .i64 M2.c, .int .i64 M2.m, .int .i64 M2.seq, .int .i64 M2.next, .int .i64 M2.jr, .slice A' M2.runs.length cp] := fun _ _ => rfl
        clear hM2 hlen t6
        have t0 := K.bt.cell 0
        have t1 := K.bt.cell 1
        have t2 := K.bt.cell 2
        have t3 := K.bt.cell 3
        have t4 := K.bt.cell 4
        have t5 := K.bt.cell 5
        have t6 := K.bt.cell 6
        rw [hcs2] at t0 t1 t2 t3 t4 t5 t6
        simp only [List.getElem?_toArray, List.getElem?_cons_zero, List.getElem?_cons_succ] at t0 t1 t2 t3 t4 t5 t6
        rw [← q6]
        have HQ6 := Lib.hid q6
        clear q6
        obtain ⟨n2, hn2⟩ : ∃ n2, Mf.check M2 = n2 := ⟨_, rfl⟩
        obtain ⟨S2, hS2⟩ := encV_shape M2 n2
        have hF2 : Mf.Fit M2 := by rw [← HQ.out]; exact Mf.over_fit hM _ (Nat.le_refl _)
        have HN2 := Lib.hid hn2
        have HS2 := Lib.hid hS2
        have HF2 := Lib.hid hF2
        clear hn2 hS2 hF2
        go_wp2_with fail
        have htw2 := fun W h => twin_any M2 (some ⟨g, 0, none⟩) cap W h (fun h => nomatch h) (by rw [HQ6.out]; exact hm)
        unfold manV at htw2
        refine (htw2 _ K.rt).mono ?_
        clear htw2
        rintro e v1 ⟨⟨g2, cap2, rfl, oa2⟩, hC1⟩
        have L0 := K.later hC1
        have oal2 := oa2.lt
        have L1 : Three w M A c w1.heap.size g cap M2 v1.heap.size g2 cap2 (v1.alloc (.cells (manCells M2 (some ⟨g2, 0, none⟩) cap2) 26)) :=
          ⟨L0.later ((Below.refl _ _).alloc (Nat.le_refl _) _), Blk.new _ _ _, (Row.of_own oa2).below ((Below.refl _ _).alloc (Nat.le_refl _) _) oal2.2⟩
        clear L0 oa2 oal2 hC1 t0 t1 t2 t3 t4 t5 t6
        obtain ⟨t0, t1, t2, t3, t4, t5, t6⟩ := man_seven L1.two.bt
        obtain ⟨x0, x1, x2, x3, x4, x5, x6⟩ := man_seven L1.bn
        go_wp2_with fail
        refine (refCheck_any M2 _ cap2 _ L1.rn HF2.out n2 HN2.out).mono ?_
        rintro e v2 ⟨rfl, hC2⟩
        have L2 := L1.later hC2
        clear t0 t1 t2 t3 t4 t5 t6 x0 x1 x2 x3 x4 x5 x6 hC2
        obtain ⟨t0, t1, t2, t3, t4, t5, t6⟩ := man_seven L2.two.bt
        obtain ⟨x0, x1, x2, x3, x4, x5, x6⟩ := man_seven L2.bn
        go_wp2_with fail
        refine (refEncode_any M2 _ cap2 _ L2.rn HF2.out n2 HN2.out).mono ?_
        rintro e v3 ⟨rfl, hC3⟩
        rw [HS2.out]
        have L3 := L2.later hC3
        clear t0 t1 t2 t3 t4 t5 t6 x0 x1 x2 x3 x4 x5 x6 hC3
        obtain ⟨t0, t1, t2, t3, t4, t5, t6⟩ := man_seven L3.two.bt
        obtain ⟨x0, x1, x2, x3, x4, x5, x6⟩ := man_seven L3.bn
        go_wp2_with fail
        refine (check_any M2 _ cap _ L3.two.rt HF2.out n2 HN2.out).mono ?_
        rintro e v4 ⟨rfl, hC4⟩
        have L4 := L3.later hC4
        clear t0 t1 t2 t3 t4 t5 t6 x0 x1 x2 x3 x4 x5 x6 hC4
        obtain ⟨t0, t1, t2, t3, t4, t5, t6⟩ := man_seven L4.two.bt
        obtain ⟨x0, x1, x2, x3, x4, x5, x6⟩ := man_seven L4.bn
        go_wp2_with fail
        refine (encode_any M2 _ cap _ L4.two.rt HF2.out (HT.out.below L4.two.below) n2 HN2.out).mono ?_
        rintro e v5 ⟨rfl, hC5⟩
        rw [HS2.out]
        have L5 := L4.later hC5
        clear t0 t1 t2 t3 t4 t5 t6 x0 x1 x2 x3 x4 x5 x6 hC5
        obtain ⟨t0, t1, t2, t3, t4, t5, t6⟩ := man_seven L5.two.bt
        obtain ⟨x0, x1, x2, x3, x4, x5, x6⟩ := man_seven L5.bn
        go_wp2_with fail
        refine (same_any M2 _ _ cap cap2 _ L5.two.rt L5.rn (by rw [HQ6.out]; exact hM.len)).mono ?_
        rintro e v6 ⟨rfl, hC6⟩
        have L6 := L5.later hC6
        clear t0 t1 t2 t3 t4 t5 t6 x0 x1 x2 x3 x4 x5 x6 hC6 L2 L3 L4 L5
        go_wp2_with fail
        refine (num_any _ _).mono ?_
        rintro e v7 ⟨rfl, rfl⟩
        go_wp2_with fail
        refine (num_any _ _).mono ?_
        rintro e v8 ⟨rfl, rfl⟩
        go_wp2_with fail
        go_ret
        exact ⟨rfl, L6.two.below⟩
end Go.Proofs.YtffdplmnjlcmnaaDoor
