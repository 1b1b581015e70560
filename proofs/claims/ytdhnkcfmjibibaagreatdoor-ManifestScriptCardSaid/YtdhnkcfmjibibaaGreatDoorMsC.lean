/- manifest.Load on a disk; the law's helper same of any two manifests. Conditions: each theorem's own hypotheses. -/
import Derived.Laws.StructEq
import Derived.Test.YtdhnkcfmjibibaaGreatDoorMsB
import Derived.Test.YtdhnkcfmjibibaaGreatDoorMkC
import Derived.Test.YtdhnkcfmjibibaaGreatDoorMfK
import Derived.Test.YtdhnkcfmjibibaaGreatDoorZDkO
import Derived.Test.YtdhnkcfmjibibaaGreatDoorMkB
import Derived.Test.YtdhnkcfmjibibaaGreatDoorMdR
namespace Go.Proofs.YtdhnkcfmjibibaaGreatDoor
open Go.RowKit
set_option linter.unusedVariables false

section
variable {B d : Nat} {W0 w : World} {m m' : Dk.M} {K : Nat → Prop} {c : Int}
theorem Ms.read_at (S : Jl.Sit B W0 w d m K) (nb D : ByteArray) (hn : nb.size ≤ 1000) (hc : Dk.code m nb.data.toList = 0) (hD : D.data.toList = Dk.data m nb.data.toList) (hs : D.size ≤ 1099511627776) : Calls Tryz.prog 38 #[.pointer (some ⟨d, 0, none⟩), .string nb, .int .i64 0, .int .i64 D.size] w fun r w' => r = .returned (.tuple #[.string D, .int .i64 0]) ∧ w = w' := by
  refine (S.ask fun F hA hG => Dk.read_any hA hG nb (by omega) 0 D.size (by decide) (by omega)).mono ?_
  rintro e w' ⟨h1, h2⟩
  refine ⟨h1.trans ?_, h2⟩
  have hl : (Dk.data m nb.data.toList).length = D.size := by rw [← hD, Tx.size]
  unfold Dk.readV
  rw [if_pos hc, if_neg (by omega), ← hD, show Int.toNat 0 = 0 from rfl, List.drop_zero, Int.toNat_natCast, List.take_of_length_le (by rw [Tx.size]; exact Nat.le_refl _), Tx.v_eq rfl]
/-- What Load tells. -/
noncomputable def Ms.load (m : Dk.M) : Int × Man := if Dk.code m Ms.nm = 0 then (if (Mf.decode (Dk.data m Ms.nm)).code = 0 then (0, (Mf.decode (Dk.data m Ms.nm)).man) else (80, Mf.zero)) else (Dk.code m Ms.nm, Mf.zero)
set_option maxRecDepth 100000 in
set_option maxHeartbeats 2000000 in
theorem Ms.load_some (S : Jl.Sit B W0 w d m K) (hT : ∀ {w : World}, Below B W0 w → TabS w) {D : ByteArray} (hc : Dk.code m Ms.nm = 0) (hD : D.data.toList = Dk.data m Ms.nm) (hs : D.size ≤ 1099511627776) {X : Man} (hX : Mf.decode D.data.toList = ⟨0, X⟩) :
    Calls Tryz.prog 11 #[.pointer (some ⟨d, 0, none⟩)] w fun e w' => (∃ A cap, e = .returned (.tuple #[.agg #[.int .i64 X.w, .int .i64 X.c, .int .i64 X.m, .int .i64 X.seq, .int .i64 X.next, .int .i64 X.jr, .slice A X.runs.length cap], .int .i64 0]) ∧ Runs w' w.heap.size A cap X.runs) ∧ Below w.heap.size w w' := by
  obtain ⟨x, hx⟩ : ∃ x, w.alloc (.cells zeroMan 31) = x := ⟨_, rfl⟩
  have hA : Below w.heap.size w x := by rw [← hx]; exact (Below.refl _ _).alloc (Nat.le_refl _) _
  have hb0 : Blk x w.heap.size 31 zeroMan := by rw [← hx]; exact Blk.new _ _ _
  have hz0 : x.heap.size = w.heap.size + 1 := by rw [← hx]; simp
  have S0 := S.later hA
  have ks := Ms.size_at S0 ⟨#[109, 97, 110, 105, 102, 101, 115, 116]⟩ (by decide)
  have kr := Ms.read_at S0 ⟨#[109, 97, 110, 105, 102, 101, 115, 116]⟩ D (by decide) hc hD hs
  have hsz : Dk.sizeV m (⟨#[109, 97, 110, 105, 102, 101, 115, 116]⟩ : ByteArray).data.toList = .tuple #[.int .i64 D.size, .int .i64 0] := by
    have hc' : Dk.code m (⟨#[109, 97, 110, 105, 102, 101, 115, 116]⟩ : ByteArray).data.toList = 0 := hc
    unfold Dk.sizeV
    rw [if_pos hc', show Dk.data m (⟨#[109, 97, 110, 105, 102, 101, 115, 116]⟩ : ByteArray).data.toList = D.data.toList from hD.symm, ← Tx.size]
  rw [hsz] at ks
  have kd := decode_any D ⟨0, X⟩ x (by omega) (hT S0.below) hX
  unfold decV manV at kd
  have HZ := Lib.hid hz0
  clear hsz hc hD hX hs hz0 S0
  go_enter Tryz.func11, Tryz.ntmps11
  go_upto_region 1 with fail
  rw [show (.cells #[.int .i64 0, .int .i64 0, .int .i64 0, .int .i64 0, .int .i64 0, .int .i64 0, .slice none 0 0] 31 : Obj) = .cells zeroMan 31 from rfl, hx]
  clear hx
  go_upto_region 8 with (first
    | (go_at_call 25; refine ks.mono ?_; clear ks; rintro e w1 ⟨rfl, hw⟩; subst hw)
    | (go_at_call 38; refine kr.mono ?_; clear kr; rintro e w1 ⟨rfl, hw⟩; subst hw)
    | (go_at_call 39; refine kd.mono ?_; clear kd; rintro e w2 ⟨⟨A2, c2, rfl, r2⟩, b2⟩))
  obtain ⟨w3, hw3⟩ : ∃ w3, w2.alloc (.cells #[.int .i64 X.w, .int .i64 X.c, .int .i64 X.m, .int .i64 X.seq, .int .i64 X.next, .int .i64 X.jr, .slice A2 X.runs.length c2] 31) = w3 := ⟨_, rfl⟩
  have hA3 : Below w2.heap.size w2 w3 := by rw [← hw3]; exact (Below.refl _ _).alloc (Nat.le_refl _) _
  have hm3 : Blk w3 w2.heap.size 31 #[.int .i64 X.w, .int .i64 X.c, .int .i64 X.m, .int .i64 X.seq, .int .i64 X.next, .int .i64 X.jr, .slice A2 X.runs.length c2] := by rw [← hw3]; exact Blk.new _ _ _
  rw [hw3]
  have b3 : Below x.heap.size x w3 := b2.trans (hA3.mono b2.size)
  have r3 : Runs w3 x.heap.size A2 c2 X.runs := own_keep r2 (Nat.le_refl _) fun b _ hb => hA3.block b hb
  have hb3 : Blk w3 w.heap.size 31 zeroMan := (b3.block _ hb0.lt).trans hb0
  have hz2 := b2.size
  clear hw3 b2 r2 hb0
  obtain ⟨x0, x1, x2, x3, x4, x5, x6⟩ := zero_seven hb3
  obtain ⟨f0, f1, f2, f3, f4, f5, f6⟩ := blk_free7 hb3
  obtain ⟨m0, m1, m2, m3, m4, m5, m6⟩ : w3.cell? ⟨w2.heap.size, 0, none⟩ = some (.int .i64 X.w) ∧ w3.cell? ⟨w2.heap.size, 1, none⟩ = some (.int .i64 X.c) ∧ w3.cell? ⟨w2.heap.size, 2, none⟩ = some (.int .i64 X.m) ∧ w3.cell? ⟨w2.heap.size, 3, none⟩ = some (.int .i64 X.seq) ∧ w3.cell? ⟨w2.heap.size, 4, none⟩ = some (.int .i64 X.next) ∧ w3.cell? ⟨w2.heap.size, 5, none⟩ = some (.int .i64 X.jr) ∧ w3.cell? ⟨w2.heap.size, 6, none⟩ = some (.slice A2 X.runs.length c2) := ⟨hm3.cell 0, hm3.cell 1, hm3.cell 2, hm3.cell 3, hm3.cell 4, hm3.cell 5, hm3.cell 6⟩
  clear hA3 hm3
  go_wp2_with fail
  refine bodyPost_ret (v := .tuple #[.agg #[.int .i64 X.w, .int .i64 X.c, .int .i64 X.m, .int .i64 X.seq, .int .i64 X.next, .int .i64 X.jr, .slice A2 X.runs.length c2], .int .i64 0]) (by simp [results, Tryz.results11, go_sem, x0, x1, x2, x3, x4, x5, x6]) rfl ⟨⟨A2, c2, rfl, ?_⟩, ((hA.trans (b3.mono hA.size)).trans (man7_below (Nat.le_refl _) _ _ _ _ _ _ _))⟩
  refine World.ownsRow.lower (own_keep r3 (Nat.le_refl _) fun b hb _ => ?_) (show w.heap.size ≤ x.heap.size from hA.size)
  exact man7_heap (show b ≠ w.heap.size by have := HZ.out; omega) _ _ _ _ _ _ _
theorem Ms.arm_at (S : Jl.Sit B W0 w d m K) (n : Int) (hn : -9223372036854775808 ≤ n ∧ n < 9223372036854775808) (b : Bool) : Calls Tryz.prog 42 #[.pointer (some ⟨d, 0, none⟩), .int .i64 n, .bool b] w fun e w' => e = .returned (.tuple #[]) ∧ Jl.Sit B W0 w' d (Dk.arm m n b) K ∧ Jl.Kept K w w' :=
  S.call (Dk.arm_good S.good n hn.2 b) fun F hA hG => (Dk.arm_any hA n hn b).mono fun e W' ⟨a, b, c⟩ => ⟨a, F, b, c, fun k hk => .inl hk⟩
theorem Ms.image_at (S : Jl.Sit B W0 w d m K) {ib : ByteArray} (hib : ib.data.toList = Dk.image m) : Calls Tryz.prog 15 #[.pointer (some ⟨d, 0, none⟩)] w fun e w' => e = .returned (.string ib) ∧ Below w.heap.size w w' := by
  rw [← Tx.v_eq hib]
  exact S.ask fun F hA hG => Dk.image_any hA hG
end
/-- Two runs told apart. -/
def Ms.rb (r s : Run) : Bool := !(r.num == s.num && r.lo == s.lo && r.hi == s.hi && r.cnt == s.cnt)
set_option maxRecDepth 100000 in
theorem Ms.neq_run (r s : Run) : ∃ q : Bool, (r = s → q = false) ∧ ∀ W, (binOp .neq 42 (.agg #[.int .i64 r.num, .int .i64 r.lo, .int .i64 r.hi, .int .i64 r.cnt]) (.agg #[.int .i64 s.num, .int .i64 s.lo, .int .i64 s.hi, .int .i64 s.cnt])).run Tryz.prog W = .ok (.bool q) W := by
  have hS : Tryz.prog.underlying 42 = some (.struct (Tryz.prog.fieldsOf 42)) := by unfold Program.fieldsOf; rw [Tryz.underlying42]
  have hp : Tryz.prog.stoodInHeld 42 = false := by kernel_rfl
  by_cases h : r = s
  · subst h
    refine ⟨false, fun _ => rfl, fun W => ?_⟩
    rw [run_neq_struct, show (10000 : Nat) = 9999 + 1 from rfl, run_equalIn_agg W 9999 42 _ _ hS hp]
    unfold Program.fieldsOf
    rw [Tryz.underlying42]
    simp [go_sem, Tryz.underlying3]
  · refine ⟨true, fun e => absurd e h, fun W => ?_⟩
    rw [run_neq_struct, show (10000 : Nat) = 9999 + 1 from rfl, run_equalIn_agg W 9999 42 _ _ hS hp]
    unfold Program.fieldsOf
    rw [Tryz.underlying42]
    obtain ⟨a, b, c, e⟩ := r
    obtain ⟨a', b', c', e'⟩ := s
    by_cases h1 : a = a' <;> by_cases h2 : b = b' <;> by_cases h3 : c = c' <;> by_cases h4 : e = e' <;> first | (exact absurd (by rw [h1, h2, h3, h4]) h) | simp [go_sem, Tryz.underlying3, h1, h2, h3, h4]
set_option maxRecDepth 100000 in
theorem Ms.neq_opts (a b c a' b' c' : Int) : ∃ q : Bool, (a = a' ∧ b = b' ∧ c = c' → q = false) ∧ ∀ W, (binOp .neq 28 (.agg #[.int .i64 a, .int .i64 b, .int .i64 c]) (.agg #[.int .i64 a', .int .i64 b', .int .i64 c'])).run Tryz.prog W = .ok (.bool q) W := by
  have hS : Tryz.prog.underlying 28 = some (.struct (Tryz.prog.fieldsOf 28)) := by unfold Program.fieldsOf; rw [Tryz.underlying28]
  have hp : Tryz.prog.stoodInHeld 28 = false := by kernel_rfl
  by_cases h : a = a' ∧ b = b' ∧ c = c'
  · obtain ⟨rfl, rfl, rfl⟩ := h
    refine ⟨false, fun _ => rfl, fun W => ?_⟩
    rw [run_neq_struct, show (10000 : Nat) = 9999 + 1 from rfl, run_equalIn_agg W 9999 28 _ _ hS hp]
    unfold Program.fieldsOf
    rw [Tryz.underlying28]
    simp [go_sem, Tryz.underlying3]
  · refine ⟨true, fun e => absurd e h, fun W => ?_⟩
    rw [run_neq_struct, show (10000 : Nat) = 9999 + 1 from rfl, run_equalIn_agg W 9999 28 _ _ hS hp]
    unfold Program.fieldsOf
    rw [Tryz.underlying28]
    by_cases h1 : a = a' <;> by_cases h2 : b = b' <;> by_cases h3 : c = c' <;> first | (refine absurd (And.intro ?_ (And.intro ?_ ?_)) h <;> assumption) | simp [go_sem, Tryz.underlying3, h1, h2, h3]
#print axioms Ms.load_some
#print axioms Ms.neq_run
end Go.Proofs.YtdhnkcfmjibibaaGreatDoor
/- The law ManifestFull: its walk. Conditions: each theorem's own hypotheses. -/
namespace Go.Proofs.YtdhnkcfmjibibaaGreatDoor
open Go.RowKit
set_option linter.unusedVariables false

theorem Ms.fit_good {X : Man} (h : Mf.check X = 0) : Mf.Fit X := by
  have g := Mf.good h
  have hw := g.w
  have hj := g.jr
  refine ⟨⟨by omega, by omega⟩, ?_, fun r hr => ?_, by have := g.len; omega⟩
  · simp [Lit.wf, IntKind.min, IntKind.max, IntKind.bits, IntKind.signed]; omega
  · have := (g.runs r hr).1
    simp [Lit.wf, IntKind.min, IntKind.max, IntKind.bits, IntKind.signed]; omega
/-- A manifest in memory among these blocks. -/
structure Ms.Mb (w : World) (K : Nat → Prop) (b : Nat) (X : Man) (A : Option Addr) (cap : Nat) : Prop where
  blk : Blk w b 31 (manCells X A cap)
  rs : Rs w w.heap.size A X.runs
  kb : K b
  ka : 0 < X.runs.length → ∀ g off, A = some ⟨g, off, none⟩ → K g
theorem Ms.Mb.later {w w' : World} {K : Nat → Prop} {b : Nat} {X : Man} {A : Option Addr} {cap : Nat} (h : Ms.Mb w K b X A cap) (hB : Below w.heap.size w w') : Ms.Mb w' K b X A cap :=
  ⟨(hB.block _ h.blk.lt).trans h.blk, (h.rs.below hB).more hB.size, h.kb, h.ka⟩
theorem Ms.Mb.kept {w w' : World} {K : Nat → Prop} {b : Nat} {X : Man} {A : Option Addr} {cap : Nat} (h : Ms.Mb w K b X A cap) (hK : Jl.Kept K w w') : Ms.Mb w' K b X A cap := by
  refine ⟨(hK.2 _ h.kb).trans h.blk, ?_, h.kb, h.ka⟩
  intro h0
  obtain ⟨g, off, e, hg, hr⟩ := h.rs h0
  have hk := hK.2 g (h.ka h0 g off e)
  refine ⟨g, off, e, Nat.lt_of_lt_of_le hg hK.1, fun j r hj => ?_⟩
  obtain ⟨q0, q1, q2, q3⟩ := hr j r hj
  exact ⟨(World.cell?_of_block hk).trans q0, (World.cell?_of_block hk).trans q1, (World.cell?_of_block hk).trans q2, (World.cell?_of_block hk).trans q3⟩
theorem Ms.Mb.seven {w : World} {K : Nat → Prop} {b : Nat} {X : Man} {A : Option Addr} {cap : Nat} (h : Ms.Mb w K b X A cap) :
    w.cell? ⟨b, 0, none⟩ = some (.int .i64 X.w) ∧ w.cell? ⟨b, 1, none⟩ = some (.int .i64 X.c) ∧ w.cell? ⟨b, 2, none⟩ = some (.int .i64 X.m) ∧ w.cell? ⟨b, 3, none⟩ = some (.int .i64 X.seq) ∧ w.cell? ⟨b, 4, none⟩ = some (.int .i64 X.next) ∧ w.cell? ⟨b, 5, none⟩ = some (.int .i64 X.jr) ∧ w.cell? ⟨b, 6, none⟩ = some (.slice A X.runs.length cap) :=
  ⟨h.blk.cell 0, h.blk.cell 1, h.blk.cell 2, h.blk.cell 3, h.blk.cell 4, h.blk.cell 5, h.blk.cell 6⟩
/-- A manifest that was just made, in a block of its own. -/
theorem Ms.Mb.fresh {w w1 : World} {B cap : Nat} {A : Option Addr} {X : Man} (hB : B ≤ w.heap.size) (hr : Runs w1 w.heap.size A cap X.runs) (hb : Below w.heap.size w w1) : Ms.Mb (w1.alloc (.cells (manCells X A cap) 31)) (fun k => B ≤ k) w1.heap.size X A cap := by
  have hz := hb.size
  have hA : Below w1.heap.size w1 (w1.alloc (.cells (manCells X A cap) 31)) := (Below.refl _ _).alloc (Nat.le_refl _) _
  refine ⟨Blk.new _ _ _, (hr.rs.below hA).more hA.size, Nat.le_trans hB hz, fun h0 g off e => ?_⟩
  subst e
  have := World.ownsRow.lt hr g rfl
  exact Nat.le_trans hB this.1
theorem Ms.Mb.to {w : World} {K K' : Nat → Prop} {b : Nat} {X : Man} {A : Option Addr} {cap : Nat} (h : Ms.Mb w K b X A cap) (hs : ∀ k, K k → k < w.heap.size → K' k) : Ms.Mb w K' b X A cap := by
  refine ⟨h.blk, h.rs, hs _ h.kb h.blk.lt, fun h0 g off e => ?_⟩
  obtain ⟨g', off', e', hg, _⟩ := h.rs h0
  rw [e] at e'
  injection e' with e'
  injection e' with e1 e2 e3
  subst e1
  exact hs _ (h.ka h0 g off e) hg
/-- A new disk; what was made since stands beside it. -/
theorem Ms.new_at {B n : Nat} {W0 w : World} (hn : n ≤ 1073741824) (h : Below B W0 w) (hB : B ≤ w.heap.size) :
    Calls Tryz.prog 4 #[.int .i64 n] w fun e w' => ∃ d, e = .returned (.pointer (some ⟨d, 0, none⟩)) ∧ Jl.Sit B W0 w' d (Dk.fresh n) (fun k => B ≤ k ∧ k < w.heap.size) ∧ Below w.heap.size w w' := by
  refine (Dk.new_any n hn w).mono ?_
  rintro e w' ⟨d, F, h1, h2, h3, h4⟩
  refine ⟨d, h1, ⟨F, h2, fun k hk => Nat.le_trans hB (h4 k hk), fun k hk => ⟨hk.1, Nat.lt_of_lt_of_le hk.2 h3.size, fun hf => ?_⟩, Dk.fresh_good n hn, h.trans (h3.mono hB)⟩, h3⟩
  have := h4 k hf
  omega
theorem Ms.bad_check {X : Man} (h : Mf.check X = 0) : Mf.check { X with next := 1 } = 80 := by
  unfold Mf.check at h ⊢
  by_cases h0 : Mf.opts X.w X.c X.m = 0
  · rw [if_neg (not_not_intro h0), if_neg]
    rintro ⟨hf, _⟩
    have := hf.2.2.1
    simp at this
  · rw [if_pos h0] at h
    exact absurd h h0
theorem Ms.frame_nm {X : Man} (h : Mf.check X = 0) : 14 ≤ (Sl.frame 3 (Mf.body X)).length ∧ (Sl.frame 3 (Mf.body X)).length ≤ 65600 := by
  have := Mf.body_small h
  rw [Sl.frame_len]
  omega
/-- Load of a disk that holds a manifest that goes. -/
theorem Ms.load_good {B d : Nat} {W0 w : World} {m : Dk.M} {K : Nat → Prop} (S : Jl.Sit B W0 w d m K) (hT : ∀ {w : World}, Below B W0 w → TabS w) {X : Man} (hX : Mf.check X = 0) (ho : m.off = false) {s : Nat} {x : Option (List UInt8 × Nat)} (hf : m.files = Ms.fs (some (Sl.frame 3 (Mf.body X), s)) x) :
    Calls Tryz.prog 11 #[.pointer (some ⟨d, 0, none⟩)] w fun e w' => (∃ A cap, e = .returned (.tuple #[.agg #[.int .i64 X.w, .int .i64 X.c, .int .i64 X.m, .int .i64 X.seq, .int .i64 X.next, .int .i64 X.jr, .slice A X.runs.length cap], .int .i64 0]) ∧ Runs w' w.heap.size A cap X.runs) ∧ Below w.heap.size w w' := by
  obtain ⟨D, hD, hs⟩ := Tx.of (Sl.frame 3 (Mf.body X))
  have hl := (Ms.frame_nm hX).2
  refine Ms.load_some S hT (D := D) ?_ ?_ (by omega) ?_
  · rw [Ms.code_nm ho hf]; rfl
  · rw [hD, Ms.data_nm hf]
  · rw [hD]; exact Mf.decode_frame hX (Mf.body_small hX)
/-- Store, as an arm wants it. -/
theorem Ms.store_arm {B d : Nat} {W0 w : World} {m m' : Dk.M} {K : Nat → Prop} {c : Int} {X : Man} {A : Option Addr} {cap b : Nat} (S : Jl.Sit B W0 w d m K) (P : Ms.Mb w K b X A cap) (hM : Mf.Fit X) (hT : TabS w) {n : Nat} (hn : Mf.check X = n) (e : Ms.store m X n = (m', c)) :
    Calls Tryz.prog 7 #[.pointer (some ⟨d, 0, none⟩), .agg #[.int .i64 X.w, .int .i64 X.c, .int .i64 X.m, .int .i64 X.seq, .int .i64 X.next, .int .i64 X.jr, .slice A X.runs.length cap]] w fun r w' => r = .returned (.int .i64 c) ∧ Jl.Sit B W0 w' d m' K ∧ Jl.Kept K w w' := by
  have := Ms.store_any (cap := cap) S P.rs hM hT hn
  rw [e] at this
  exact this
#print axioms Ms.load_good
#print axioms Ms.new_at
end Go.Proofs.YtdhnkcfmjibibaaGreatDoor
