/- The law's helper same of any two manifests; a manifest's block written over beside a disk. Conditions: each theorem's own hypotheses. -/
import Derived.Test.YtdhnkcfmjibibaaGreatDoorMsC
namespace Go.Proofs.YtdhnkcfmjibibaaGreatDoor
open Go.RowKit
set_option linter.unusedVariables false

/-- What same tells of two manifests: of equal ones that they are. -/
def Ms.Tells (M N : Man) (e : Ending) : Prop := ∃ q : Bool, e = .returned (.bool q) ∧ (M = N → q = true)
set_option maxRecDepth 100000 in
set_option maxHeartbeats 4000000 in
theorem Ms.same_some (M N : Man) (A A' : Option Addr) (cap cap' : Nat) (w : World) (H : Rs w w.heap.size A M.runs) (H' : Rs w w.heap.size A' N.runs) (hm : M.runs.length ≤ 4398046511104) (hn : N.runs.length ≤ 4398046511104) :
    Calls Tryz.prog 13 #[.agg #[.int .i64 M.w, .int .i64 M.c, .int .i64 M.m, .int .i64 M.seq, .int .i64 M.next, .int .i64 M.jr, .slice A M.runs.length cap], .agg #[.int .i64 N.w, .int .i64 N.c, .int .i64 N.m, .int .i64 N.seq, .int .i64 N.next, .int .i64 N.jr, .slice A' N.runs.length cap']] w fun e w' => Ms.Tells M N e ∧ Below w.heap.size w w' := by
  by_cases hE : M = N
  · subst hE
    have := same_any M A A' cap cap' w H H' hm
    unfold manV at this
    exact this.mono fun e w' ⟨a, b⟩ => ⟨⟨true, a, fun _ => rfl⟩, b⟩
  · have fin : ∀ {q : Bool} {x : World}, Below w.heap.size w x → (Ms.Tells M N (Ending.returned (.bool q)) ∧ Below w.heap.size w x) := fun {q x} b => ⟨⟨q, rfl, fun h => absurd h hE⟩, b⟩
    obtain ⟨q0, _, hq0⟩ := Ms.neq_opts M.w M.c M.m N.w N.c N.m
    have hk1 : ∀ o : Obj, (w.alloc o).heap.size = w.heap.size + 1 := fun o => by simp
    have hb0 : Blk ((w.alloc (.cells (manCells M A cap) 31)).alloc (.cells (manCells N A' cap') 31)) w.heap.size 31 (manCells M A cap) := (Blk.new w _ _).alloc _
    have hb1 : Blk ((w.alloc (.cells (manCells M A cap) 31)).alloc (.cells (manCells N A' cap') 31)) (w.heap.size + 1) 31 (manCells N A' cap') := by rw [← hk1]; exact Blk.new _ _ _
    have BW : Below w.heap.size w ((w.alloc (.cells (manCells M A cap) 31)).alloc (.cells (manCells N A' cap') 31)) := ((Below.refl _ _).alloc (Nat.le_refl _) _).alloc (by simp) _
    have HB0 := Lib.hid hb0
    have HB1 := Lib.hid hb1
    have HE := Lib.hid hE
    clear hb0 hb1 hE
    go_enter Tryz.func13, Tryz.ntmps13
    cases q0 with
    | true => go_wp2_with fail; go_ret; exact fin BW
    | false =>
      cases h1 : (M.seq != N.seq) with
      | true => go_wp2_with fail; go_ret; exact fin BW
      | false =>
        cases h2 : (M.next != N.next) with
        | true => go_wp2_with fail; go_ret; exact fin BW
        | false =>
          cases h3 : (M.jr != N.jr) with
          | true => go_wp2_with fail; go_ret; exact fin BW
          | false =>
            cases h4 : ((M.runs.length : Int) != (N.runs.length : Int)) with
            | true => go_wp2_with fail; go_ret; exact fin BW
            | false =>
              have HL := Lib.hid (show M.runs.length = N.runs.length by rw [bne_eq_false_iff_eq] at h4; omega)
              go_wp2_with fail
              go_loopw [5] (fun i wr => ∃ k : Nat, k ≤ M.runs.length ∧ i = .int .i64 k ∧ Blk wr w.heap.size 31 (manCells M A cap) ∧ Blk wr (w.heap.size + 1) 31 (manCells N A' cap') ∧ Below w.heap.size w wr) (fun i _ => M.runs.length - (intOf i).toNat)
              case atStart => exact ⟨0, Nat.zero_le _, rfl, HB0.out, HB1.out, BW⟩
              case round =>
                obtain ⟨k, hk, rfl, hb, hb', hB⟩ := hrel
                have c6 : wr.cell? ⟨w.heap.size, 6, none⟩ = some (.slice A M.runs.length cap) := hb.cell 6
                have c6' : wr.cell? ⟨w.heap.size + 1, 6, none⟩ = some (.slice A' N.runs.length cap') := hb'.cell 6
                by_cases hlt : k < M.runs.length
                · have hlt' : k < N.runs.length := by have := HL.out; omega
                  obtain ⟨b, off, r, rfl, hbb, hj, e0, e1, e2, e3⟩ := (H.below hB).at_ hlt
                  obtain ⟨b', off', r', rfl, hbb', hj', f0, f1, f2, f3⟩ := (H'.below hB).at_ hlt'
                  obtain ⟨q, _, hq⟩ := Ms.neq_run r r'
                  clear hj hj'
                  have hj0 : (0 : Int) ≤ (k : Int) := by omega
                  have hj1 : (k : Int) < (M.runs.length : Int) := by omega
                  have hj2 : (k : Int) < (N.runs.length : Int) := by omega
                  have u1 : decide (k < M.runs.length) = true := decide_eq_true hlt
                  clear h1 h2 h3 h4
                  cases q with
                  | true =>
                    go_wp2_with fail
                    go_quiet (fail)
                    all_goals go_wp2_with fail
                    go_ret
                    exact fin (below_dn hB _)
                  | false =>
                    go_wp2_with fail
                    go_quiet (fail)
                    all_goals go_wp2_with fail
                    go_roundw
                    case rel => exact ⟨k + 1, by omega, by go_num, hb, hb', below_dn hB _⟩
                    case measure => simp [intOf]; omega
                · obtain rfl : k = M.runs.length := by omega
                  clear h1 h2 h3 h4
                  go_wp2_with fail
                  go_ret
                  exact fin hB
section
variable {B d b : Nat} {W0 w : World} {m : Dk.M} {K : Nat → Prop} {X : Man} {A : Option Addr} {cap : Nat} {v0 v1 v2 v3 v4 v5 v6 : Value}
/-- A manifest's block written over. -/
theorem Ms.sit7 (S : Jl.Sit B W0 w d m K) (hb : K b) : Jl.Sit B W0 (man7 w b v0 v1 v2 v3 v4 v5 v6) d m K := by
  refine (S.only (G := fun k => k = b) ?_ fun k hk => hk ▸ hb).sub fun k hk => .inl hk
  unfold man7
  have h0 := Dk.Only.refl (fun k => k = b) w
  exact ((((((h0.setCell (p := ⟨b, 0, none⟩) (.inl rfl) v0).setCell (p := ⟨b, 1, none⟩) (.inl rfl) v1).setCell (p := ⟨b, 2, none⟩) (.inl rfl) v2).setCell (p := ⟨b, 3, none⟩) (.inl rfl) v3).setCell (p := ⟨b, 4, none⟩) (.inl rfl) v4).setCell (p := ⟨b, 5, none⟩) (.inl rfl) v5).setCell (p := ⟨b, 6, none⟩) (.inl rfl) v6
theorem Ms.size7 : (man7 w b v0 v1 v2 v3 v4 v5 v6).heap.size = w.heap.size := by unfold man7; simp [World.setCell]
theorem Ms.seven_eq (a0 a1 a2 a3 a4 a5 a6 v0 v1 v2 v3 v4 v5 v6 : Value) : (((((((#[a0, a1, a2, a3, a4, a5, a6] : Array Value).setIfInBounds 0 v0).setIfInBounds 1 v1).setIfInBounds 2 v2).setIfInBounds 3 v3).setIfInBounds 4 v4).setIfInBounds 5 v5).setIfInBounds 6 v6 = #[v0, v1, v2, v3, v4, v5, v6] := by simp
theorem Ms.blk7 {a0 a1 a2 a3 a4 a5 a6 : Value} (h : Blk w b 31 #[a0, a1, a2, a3, a4, a5, a6]) : Blk (man7 w b v0 v1 v2 v3 v4 v5 v6) b 31 #[v0, v1, v2, v3, v4, v5, v6] := by
  unfold man7
  rw [← Ms.seven_eq a0 a1 a2 a3 a4 a5 a6]
  exact ((((((h.set_ 0 v0).set_ 1 v1).set_ 2 v2).set_ 3 v3).set_ 4 v4).set_ 5 v5).set_ 6 v6
theorem Ms.rs7 {rs : List Run} (h : Rs w w.heap.size A rs) (hA : 0 < rs.length → ∀ g off, A = some ⟨g, off, none⟩ → g ≠ b) : Rs (man7 w b v0 v1 v2 v3 v4 v5 v6) (man7 w b v0 v1 v2 v3 v4 v5 v6).heap.size A rs := by
  rw [Ms.size7]
  intro h0
  obtain ⟨g, off, e, hg, hr⟩ := h h0
  have hk := man7_heap (W := w) (b := b) (hA h0 g off e) v0 v1 v2 v3 v4 v5 v6
  refine ⟨g, off, e, hg, fun j r hj => ?_⟩
  obtain ⟨q0, q1, q2, q3⟩ := hr j r hj
  have hc := fun p (hp : p.block = g) => World.cell?_of_block (a := p) (w := w) (w' := man7 w b v0 v1 v2 v3 v4 v5 v6) (by rw [hp]; exact hk)
  exact ⟨(hc ⟨g, _, none⟩ rfl).trans q0, (hc ⟨g, _, none⟩ rfl).trans q1, (hc ⟨g, _, none⟩ rfl).trans q2, (hc ⟨g, _, none⟩ rfl).trans q3⟩
theorem Ms.Mb.far7 {b2 : Nat} (h : Ms.Mb w K b2 X A cap) (hb : b2 ≠ b) (hA : 0 < X.runs.length → ∀ g off, A = some ⟨g, off, none⟩ → g ≠ b) : Ms.Mb (man7 w b v0 v1 v2 v3 v4 v5 v6) K b2 X A cap := by
  have e := man7_heap (W := w) (b := b) (k := b2) hb v0 v1 v2 v3 v4 v5 v6
  have h1 := h.blk
  unfold Blk at h1
  rw [← e] at h1
  exact ⟨h1, Ms.rs7 h.rs hA, h.kb, h.ka⟩
theorem Ms.Mb.more {K' : Nat → Prop} (h : Ms.Mb w K b X A cap) (hs : ∀ k, K k → K' k) : Ms.Mb w K' b X A cap := ⟨h.blk, h.rs, hs _ h.kb, fun h0 g off e => hs _ (h.ka h0 g off e)⟩
/-- A block more; rows that a call has made. -/
theorem Ms.block_step (S : Jl.Sit B W0 w d m K) (o : Obj) : ∃ K' : Nat → Prop, (∀ k, K k → K' k) ∧ Jl.Sit B W0 (w.alloc o) d m K' ∧ K' w.heap.size ∧ Below w.heap.size w (w.alloc o) := by
  have hA : Below w.heap.size w (w.alloc o) := (Below.refl _ _).alloc (Nat.le_refl _) _
  exact ⟨_, fun k hk => .inl hk, S.grow hA, .inr ⟨Nat.le_refl _, by simp⟩, hA⟩
theorem Ms.row_step {w1 : World} (S : Jl.Sit B W0 w d m K) (hr : Runs w1 w.heap.size A cap X.runs) (hb : Below w.heap.size w w1) :
    ∃ K' : Nat → Prop, (∀ k, K k → K' k) ∧ Jl.Sit B W0 w1 d m K' ∧ (0 < X.runs.length → ∀ g off, A = some ⟨g, off, none⟩ → K' g ∧ w.heap.size ≤ g) := by
  refine ⟨_, fun k hk => .inl hk, S.grow hb, fun h0 g off e => ?_⟩
  subst e
  have := World.ownsRow.lt hr g rfl
  exact ⟨.inr this, this.1⟩
/-- A manifest was made by a call and put into a block of its own. -/
theorem Ms.fresh_step {w1 : World} (S : Jl.Sit B W0 w d m K) (hr : Runs w1 w.heap.size A cap X.runs) (hb : Below w.heap.size w w1) :
    ∃ K' : Nat → Prop, (∀ k, K k → K' k) ∧ Jl.Sit B W0 (w1.alloc (.cells (manCells X A cap) 31)) d m K' ∧ Ms.Mb (w1.alloc (.cells (manCells X A cap) 31)) K' w1.heap.size X A cap ∧ (0 < X.runs.length → ∀ g off, A = some ⟨g, off, none⟩ → w.heap.size ≤ g ∧ g < w1.heap.size) ∧ Below w.heap.size w (w1.alloc (.cells (manCells X A cap) 31)) ∧ w.heap.size ≤ w1.heap.size ∧ (w1.alloc (.cells (manCells X A cap) 31)).heap.size = w1.heap.size + 1 := by
  have hA : Below w1.heap.size w1 (w1.alloc (.cells (manCells X A cap) 31)) := (Below.refl _ _).alloc (Nat.le_refl _) _
  have h2 := hb.trans (hA.mono hb.size)
  refine ⟨_, fun k hk => .inl hk, S.grow h2, (Ms.Mb.fresh (B := w.heap.size) (Nat.le_refl _) hr hb).to (fun k h1 h2 => .inr ⟨h1, h2⟩), fun h0 g off e => ?_, h2, hb.size, by simp⟩
  subst e
  exact World.ownsRow.lt hr g rfl
end
#print axioms Ms.same_some
#print axioms Ms.Mb.far7
end Go.Proofs.YtdhnkcfmjibibaaGreatDoor
