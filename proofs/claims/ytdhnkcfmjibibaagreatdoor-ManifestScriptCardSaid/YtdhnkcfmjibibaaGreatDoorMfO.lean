/- The walk of the law ManifestCheck. Conditions: each theorem's own hypotheses. -/
import Derived.Test.YtdhnkcfmjibibaaGreatDoorZMfP
import Derived.Test.YtdhnkcfmjibibaaGreatDoorMfH
import Derived.Deep.RegionHeld3
import Derived.Deep.DeepCutAuto
namespace Go.Proofs.YtdhnkcfmjibibaaGreatDoor
open Go.RowKit Go.Maps
set_option linter.unusedVariables false

theorem twin_any (M : Man) (A : Option Addr) (c : Nat) (w : World) (H : Rs w w.heap.size A M.runs) (hA : A = none → c = 0 ∧ M.runs = []) (hm : (M.runs.length + 1) * 32 ≤ 140737488355328) :
    Calls Tryz.prog 6 #[manV M A c] w fun e w' => (∃ g cap, e = .returned (manV M (some ⟨g, 0, none⟩) cap) ∧ Own w' w.heap.size g cap (M.runs ++ [mark])) ∧ Below w.heap.size w w' := by
  cases A with
  | none => obtain ⟨rfl, hr⟩ := hA rfl; exact twin_nil M w hr
  | some ad => exact twin_some M ad c w H hm
theorem Own.cap {W : World} {base g cap : Nat} {hs : List Run} (h : Own W base g cap hs) : hs.length ≤ cap ∧ cap ≤ 9223372036854775807 := by
  rcases h.2 with ⟨h, _⟩ | ⟨g', cap', cur, hv, _, _, hc, hd, _⟩
  · cases h
  · cases hv; exact ⟨hc, by unfold maxLen at hd; omega⟩
theorem Own.below {W W' : World} {base g cap : Nat} {hs : List Run} (h : Own W base g cap hs) (hb : Below W.heap.size W W') : Own W' base g cap hs :=
  own_keep h (Nat.le_refl _) fun k _ hk => hb.block k hk

/-- The two halves compare a thing with itself. -/
theorem encV_shape (M : Man) (n : Nat) : ∃ S : ByteArray, encV M n = .tuple #[.string S, .int .i64 n] := by
  unfold encV
  by_cases h : n = 0
  · rw [if_pos h, h]; exact ⟨⟨(Sl.frame 3 (Mf.body M)).toArray⟩, rfl⟩
  · rw [if_neg h]; exact ⟨⟨#[]⟩, rfl⟩

/-- What lies there: the manifest handed in, its twin at block s, the twin's list. -/
structure Two (w : World) (M : Man) (A : Option Addr) (c s g cap : Nat) (M' : Man) (W : World) : Prop where
  bm : Blk W w.heap.size 31 (manCells M A c)
  bt : Blk W s 31 (manCells M' (some ⟨g, 0, none⟩) cap)
  row : Row W g (M'.runs ++ [mark])
  ap : w.heap.size < g ∧ g < s
  below : Below w.heap.size w W
theorem Two.later {w : World} {M : Man} {A : Option Addr} {c s g cap : Nat} {M' : Man} {W W' : World} (h : Two w M A c s g cap M' W) (hb : Below W.heap.size W W') : Two w M A c s g cap M' W' :=
  ⟨(hb.block _ h.bm.lt).trans h.bm, (hb.block _ h.bt.lt).trans h.bt, h.row.below hb h.row.lt, h.ap, h.below.trans (hb.mono h.below.size)⟩
theorem Two.rm {w : World} {M : Man} {A : Option Addr} {c s g cap : Nat} {M' : Man} {W : World} (h : Two w M A c s g cap M' W) (HR : Rs w w.heap.size A M.runs) : Rs W W.heap.size A M.runs := (HR.below h.below).more h.below.size
theorem Two.rt {w : World} {M : Man} {A : Option Addr} {c s g cap : Nat} {M' : Man} {W : World} (h : Two w M A c s g cap M' W) : Rs W W.heap.size (some ⟨g, 0, none⟩) M'.runs := h.row.rs.fst

/-- The list written over up to place k. -/
def Mf.overL (l : List Run) : Nat → List Run
  | 0 => l
  | k + 1 => (Mf.overL l k).set k ⟨(k : Int) + 1, k, (k : Int) + 1, 1⟩
theorem Mf.overL_len (l : List Run) : ∀ k, (Mf.overL l k).length = l.length
  | 0 => rfl
  | k + 1 => by rw [Mf.overL, List.length_set, Mf.overL_len l k]
def Mf.over (M : Man) (k : Nat) : Man := { M with runs := Mf.overL M.runs k }
theorem Two.put {w : World} {M : Man} {A : Option Addr} {c s g cap k : Nat} {W : World} (K : Two w M A c s g cap (Mf.over M k) W) (hk : k < M.runs.length) {x : Run} (hx : (Mf.overL M.runs k ++ [mark])[k]? = some x) :
    Two w M A c s g cap (Mf.over M (k + 1)) ((((W.setCell ⟨g, k * 4, none⟩ (.int .i64 ((k : Int) + 1))).setCell ⟨g, k * 4 + 1, none⟩ (.int .i64 (k : Int))).setCell ⟨g, k * 4 + 2, none⟩ (.int .i64 ((k : Int) + 1))).setCell ⟨g, k * 4 + 3, none⟩ (.int .i64 1)) := by
  have h1 := K.ap.1
  have h2 := K.ap.2
  have hl := Mf.overL_len M.runs k
  have hmc : manCells (Mf.over M (k + 1)) (some ⟨g, 0, none⟩) cap = manCells (Mf.over M k) (some ⟨g, 0, none⟩) cap := by
    unfold manCells Mf.over
    rw [Mf.overL_len, Mf.overL_len]
  refine ⟨(((K.bm.far ?_ _).far ?_ _).far ?_ _).far ?_ _, ?_, ?_, K.ap, (((K.below.setCell (p := ⟨g, _, none⟩) (Nat.le_of_lt h1) _).setCell (p := ⟨g, _, none⟩) (Nat.le_of_lt h1) _).setCell (p := ⟨g, _, none⟩) (Nat.le_of_lt h1) _).setCell (p := ⟨g, _, none⟩) (Nat.le_of_lt h1) _⟩
  · show w.heap.size ≠ g; omega
  · show w.heap.size ≠ g; omega
  · show w.heap.size ≠ g; omega
  · show w.heap.size ≠ g; omega
  · rw [hmc]
    refine (((K.bt.far ?_ _).far ?_ _).far ?_ _).far ?_ _ <;> (show s ≠ g; omega)
  · have := K.row.put hx ⟨(k : Int) + 1, k, (k : Int) + 1, 1⟩
    rw [List.set_append_left _ _ (by show k < (Mf.overL M.runs k).length; omega)] at this
    exact this
/-- Behind the loop: a twin more, its block at x. -/
structure Three (w : World) (M : Man) (A : Option Addr) (c s g cap : Nat) (M' : Man) (x g2 cap2 : Nat) (W : World) : Prop where
  two : Two w M A c s g cap M' W
  bn : Blk W x 31 (manCells M' (some ⟨g2, 0, none⟩) cap2)
  row2 : Row W g2 (M'.runs ++ [mark])
theorem Three.later {w : World} {M : Man} {A : Option Addr} {c s g cap : Nat} {M' : Man} {x g2 cap2 : Nat} {W W' : World} (h : Three w M A c s g cap M' x g2 cap2 W) (hb : Below W.heap.size W W') : Three w M A c s g cap M' x g2 cap2 W' :=
  ⟨h.two.later hb, (hb.block _ h.bn.lt).trans h.bn, h.row2.below hb h.row2.lt⟩
theorem Three.rn {w : World} {M : Man} {A : Option Addr} {c s g cap : Nat} {M' : Man} {x g2 cap2 : Nat} {W : World} (h : Three w M A c s g cap M' x g2 cap2 W) : Rs W W.heap.size (some ⟨g2, 0, none⟩) M'.runs := h.row2.rs.fst
theorem man_seven {W : World} {b : Nat} {M : Man} {A : Option Addr} {cap : Nat} (h : Blk W b 31 (manCells M A cap)) :
    W.cell? ⟨b, 0, none⟩ = some (.int .i64 M.w) ∧ W.cell? ⟨b, 1, none⟩ = some (.int .i64 M.c) ∧ W.cell? ⟨b, 2, none⟩ = some (.int .i64 M.m) ∧ W.cell? ⟨b, 3, none⟩ = some (.int .i64 M.seq) ∧ W.cell? ⟨b, 4, none⟩ = some (.int .i64 M.next) ∧ W.cell? ⟨b, 5, none⟩ = some (.int .i64 M.jr) ∧ W.cell? ⟨b, 6, none⟩ = some (.slice A M.runs.length cap) :=
  ⟨h.cell 0, h.cell 1, h.cell 2, h.cell 3, h.cell 4, h.cell 5, h.cell 6⟩
theorem Mf.overL_wf (l : List Run) (hl : ∀ r ∈ l, (Lit.int .i64 r.num).wf = true) : ∀ k, k ≤ 4398046511104 → ∀ r ∈ Mf.overL l k, (Lit.int .i64 r.num).wf = true
  | 0, _ => hl
  | k + 1, hk => fun r hr => by
    rcases List.mem_or_eq_of_mem_set hr with h | rfl
    · exact Mf.overL_wf l hl k (by omega) r h
    · simp [Lit.wf, IntKind.min, IntKind.max, IntKind.bits, IntKind.signed]; omega
theorem Mf.over_fit {M : Man} (h : Mf.Fit M) (k : Nat) (hk : k ≤ M.runs.length) : Mf.Fit (Mf.over M k) :=
  ⟨h.w, h.jr, Mf.overL_wf M.runs h.runs k (Nat.le_trans hk h.len), by show (Mf.overL M.runs k).length ≤ _; rw [Mf.overL_len]; exact h.len⟩
theorem num_out (e : Int) (P : World → Prop) (W : World) (h : P W) : Calls Tryz.prog 9 #[.int .i64 e] W fun r W' => r = .returned (.int .i64 e) ∧ P W' :=
  (num_any e W).mono fun r W' ⟨hr, hw⟩ => ⟨hr, hw ▸ h⟩
theorem refCheck_out (w : World) (M M' : Man) (A : Option Addr) (c s g cap n : Nat) (W : World) (HR : Rs w w.heap.size A M.runs) (hM : Mf.Fit M) (hn : Mf.check M = n)
    (hS : W.cell? ⟨w.heap.size, 0, none⟩ = some (.int .i64 M.w) ∧ W.cell? ⟨w.heap.size, 1, none⟩ = some (.int .i64 M.c) ∧ W.cell? ⟨w.heap.size, 2, none⟩ = some (.int .i64 M.m) ∧ W.cell? ⟨w.heap.size, 3, none⟩ = some (.int .i64 M.seq) ∧ W.cell? ⟨w.heap.size, 4, none⟩ = some (.int .i64 M.next) ∧ W.cell? ⟨w.heap.size, 5, none⟩ = some (.int .i64 M.jr) ∧ W.cell? ⟨w.heap.size, 6, none⟩ = some (.slice A M.runs.length c) ∧ Two w M A c s g cap M' W) :
    Calls Tryz.prog 63 #[.agg #[.int .i64 M.w, .int .i64 M.c, .int .i64 M.m, .int .i64 M.seq, .int .i64 M.next, .int .i64 M.jr, .slice A M.runs.length c]] W fun e W' => e = .returned (.int .i64 n) ∧ W'.cell? ⟨w.heap.size, 0, none⟩ = some (.int .i64 M.w) ∧ W'.cell? ⟨w.heap.size, 1, none⟩ = some (.int .i64 M.c) ∧ W'.cell? ⟨w.heap.size, 2, none⟩ = some (.int .i64 M.m) ∧ W'.cell? ⟨w.heap.size, 3, none⟩ = some (.int .i64 M.seq) ∧ W'.cell? ⟨w.heap.size, 4, none⟩ = some (.int .i64 M.next) ∧ W'.cell? ⟨w.heap.size, 5, none⟩ = some (.int .i64 M.jr) ∧ W'.cell? ⟨w.heap.size, 6, none⟩ = some (.slice A M.runs.length c) ∧ Two w M A c s g cap M' W' := by
  obtain ⟨h0, h1, h2, h3, h4, h5, h6, hK⟩ := hS
  have hb := World.block_lt_of_cell? W _ h0
  refine (refCheck_any M A c W (hK.rm HR) hM n hn).mono fun e W' ⟨he, hB⟩ => ⟨he, ?_⟩
  exact ⟨(hB.cell (p := ⟨w.heap.size, 0, none⟩) hb).trans h0, (hB.cell (p := ⟨w.heap.size, 1, none⟩) hb).trans h1, (hB.cell (p := ⟨w.heap.size, 2, none⟩) hb).trans h2, (hB.cell (p := ⟨w.heap.size, 3, none⟩) hb).trans h3, (hB.cell (p := ⟨w.heap.size, 4, none⟩) hb).trans h4, (hB.cell (p := ⟨w.heap.size, 5, none⟩) hb).trans h5, (hB.cell (p := ⟨w.heap.size, 6, none⟩) hb).trans h6, hK.later hB⟩

end Go.Proofs.YtdhnkcfmjibibaaGreatDoor
