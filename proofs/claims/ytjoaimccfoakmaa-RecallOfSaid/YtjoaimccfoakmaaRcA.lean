/- Lists of hits in memory; contract of the document's has. Conditions: each theorem's own hypotheses. -/
import Derived.Test.YtjoaimccfoakmaaProg
import Derived.WalkKit
import Derived.Lib.Hide
import Derived.Below
namespace Go.Proofs.Ytjoaimccfoakmaa
open Go.RowKit
set_option linter.unusedVariables false

/-- A hit. -/
structure Hit where
  dist : Int
  id : Int
  code : ByteArray

/-- The slice's cells are these hits, below block B. -/
def Hs (W : World) (B : Nat) (A : Option Addr) (hs : List Hit) : Prop :=
  0 < hs.length → ∃ b off, A = some ⟨b, off, none⟩ ∧ b < B ∧ ∀ j h, hs[j]? = some h →
    W.cell? ⟨b, off + j * 3, none⟩ = some (.int .i64 h.dist) ∧ W.cell? ⟨b, off + j * 3 + 1, none⟩ = some (.int .i64 h.id) ∧ W.cell? ⟨b, off + j * 3 + 2, none⟩ = some (.string h.code)

theorem Hs.at_ {W : World} {B : Nat} {A : Option Addr} {hs : List Hit} (H : Hs W B A hs) {k : Nat} (hk : k < hs.length) : ∃ b off h, A = some ⟨b, off, none⟩ ∧ b < B ∧ hs[k]? = some h ∧
    W.cell? ⟨b, off + k * 3, none⟩ = some (.int .i64 h.dist) ∧ W.cell? ⟨b, off + k * 3 + 1, none⟩ = some (.int .i64 h.id) ∧ W.cell? ⟨b, off + k * 3 + 2, none⟩ = some (.string h.code) := by
  obtain ⟨b, off, hA, hb, hc⟩ := H (by omega)
  obtain ⟨h0, h1, h2⟩ := hc k hs[k] (List.getElem?_eq_getElem hk)
  exact ⟨b, off, hs[k], hA, hb, List.getElem?_eq_getElem hk, h0, h1, h2⟩
theorem Hs.keep {W W' : World} {B : Nat} {A : Option Addr} {hs : List Hit} (H : Hs W B A hs) (hk : ∀ p : Addr, p.block < B → W'.cell? p = W.cell? p) : Hs W' B A hs := by
  intro h0
  obtain ⟨b, off, hA, hb, hc⟩ := H h0
  refine ⟨b, off, hA, hb, fun j h hj => ?_⟩
  obtain ⟨h0, h1, h2⟩ := hc j h hj
  exact ⟨(hk _ hb).trans h0, (hk _ hb).trans h1, (hk _ hb).trans h2⟩
theorem Hs.below {W W' : World} {B : Nat} {A : Option Addr} {hs : List Hit} (H : Hs W B A hs) (hb : Below B W W') : Hs W' B A hs := H.keep fun _ hp => hb.cell hp
theorem Hs.more {W : World} {B B' : Nat} {A : Option Addr} {hs : List Hit} (H : Hs W B A hs) (hB : B ≤ B') : Hs W B' A hs := by
  intro h0
  obtain ⟨b, off, hA, hb, hc⟩ := H h0
  exact ⟨b, off, hA, by omega, hc⟩

def ids (hs : List Hit) : List Int := hs.map (·.id)

theorem ids_at {hs : List Hit} {k : Nat} {h : Hit} (hj : hs[k]? = some h) : (ids hs)[k]? = some h.id := by
  unfold ids; rw [List.getElem?_map, hj]; rfl

/-- How many of the first k numbers of W are among F. -/
def cntL (F W : List Int) (k : Nat) : Nat := ((W.take k).filter fun y => F.contains y).length
theorem cntL_le (F W : List Int) (k : Nat) : cntL F W k ≤ k :=
  Nat.le_trans (List.length_filter_le _ _) (List.length_take_le _ _)
theorem cntL_succ (F W : List Int) (k : Nat) (x : Int) (h : W[k]? = some x) : cntL F W (k + 1) = cntL F W k + if F.contains x = true then 1 else 0 := by
  unfold cntL
  rw [List.take_add_one, h, List.filter_append, List.length_append]
  congr 1
  show (List.filter (fun y => F.contains y) [x]).length = _
  rw [List.filter_cons]
  cases hc : F.contains x
  · rfl
  · rfl

/-- None of the first k has this number. -/
def NoneTo (hs : List Hit) (k : Nat) (x : Int) : Prop := ∀ j, j < k → ∀ h, hs[j]? = some h → h.id ≠ x
theorem has_any (hs : List Hit) (A : Option Addr) (c : Nat) (x : Int) (B : Nat) (w : World) (H : Hs w B A hs) (hm : hs.length ≤ 9223372036854775807) (R : Bool) (hR : (ids hs).contains x = R) :
    Calls Try.prog 8 #[.slice A hs.length c, .int .i64 x] w fun e w' => e = .returned (.bool R) ∧ w = w' := by
  have HR := Lib.hid hR
  clear hR
  go_enter Try.func8, Try.ntmps8
  go_wp2_with fail
  go_loop [5] (fun i => ∃ k : Nat, k ≤ hs.length ∧ i = .int .i64 k ∧ NoneTo hs k x) (fun i => hs.length - (intOf i).toNat)
  case atStart => exact ⟨0, Nat.zero_le _, rfl, fun j hj => by omega⟩
  case round =>
    obtain ⟨k, hk, rfl, HN⟩ := hrel
    by_cases hlt : k < hs.length
    · obtain ⟨b, off, h, rfl, hb, hj, c0, c1, c2⟩ := H.at_ hlt
      have HJ := Lib.hid hj
      clear hj
      go_wp2_with fail
      · have hx : h.id = x := by
          have hq : (h.id == x) = true := by assumption
          exact beq_iff_eq.1 hq
        have hr : R = true := by
          rw [← HR.out, List.contains_iff_mem]
          exact hx ▸ List.mem_iff_getElem?.2 ⟨k, ids_at HJ.out⟩
        go_ret
        exact ⟨congrArg (fun z => Ending.returned (Value.bool z)) hr.symm, rfl⟩
      · have hx : h.id ≠ x := by
          have hq : (h.id == x) = false := by assumption
          exact beq_eq_false_iff_ne.1 hq
        go_round
        case rel =>
          refine ⟨k + 1, by omega, by go_num, fun j hj h' hh => ?_⟩
          by_cases e : j = k
          · subst e
            have := HJ.out.symm.trans hh
            have e2 := Option.some.inj this
            rw [← e2]; exact hx
          · exact HN j (by omega) h' hh
        case measure => simp [intOf]; omega
    · have hr : R = false := by
        rw [← HR.out, Bool.eq_false_iff]
        intro hc
        rw [List.contains_iff_mem] at hc
        obtain ⟨j, hj⟩ := List.mem_iff_getElem?.1 hc
        unfold ids at hj
        rw [List.getElem?_map] at hj
        obtain ⟨h, hh, he⟩ := Option.map_eq_some_iff.1 hj
        have hl : j < hs.length := (List.getElem?_eq_some_iff.1 hh).1
        exact HN j (by omega) h hh he
      subst hr
      go_wp2_with fail
      go_ret
      exact ⟨rfl, rfl⟩

/-- Behind k rounds: the count stands in the share's first cell. -/
def OfRel (F W : List Int) (w : World) (i : Value) (wr : World) : Prop :=
  ∃ k n : Nat, k ≤ W.length ∧ i = .int .i64 k ∧ n ≤ k ∧ cntL F W k = n ∧ wr.cell? ⟨w.heap.size + 1, 0, none⟩ = some (.int .i64 n) ∧ wr.cell? ⟨w.heap.size + 1, 1, none⟩ = some (.int .i64 W.length) ∧
      wr.frozen? ⟨w.heap.size + 1, 0, none⟩ = false ∧ (∃ u, wr.cell? ⟨w.heap.size, 0, none⟩ = some u) ∧ (∃ u, wr.cell? ⟨w.heap.size, 1, none⟩ = some u) ∧ wr.frozen? ⟨w.heap.size, 0, none⟩ = false ∧ wr.frozen? ⟨w.heap.size, 1, none⟩ = false ∧ Below w.heap.size w wr
theorem OfRel.start (F W : List Int) (w : World) (t : TypeId) (z : Value) : OfRel F W w (.int .i64 0) ((w.alloc (.cells #[z, z] t)).alloc (.cells #[.int .i64 0, .int .i64 W.length] t)) := by
  have hz : w.heap.size + 1 = (w.alloc (.cells #[z, z] t)).heap.size := by simp
  have old : ∀ j, ((w.alloc (.cells #[z, z] t)).alloc (.cells #[.int .i64 0, .int .i64 W.length] t)).cell? ⟨w.heap.size, j, none⟩ = (w.alloc (.cells #[z, z] t)).cell? ⟨w.heap.size, j, none⟩ := fun j =>
    ((Below.refl _ _).alloc (Nat.le_refl _) _).cell (p := ⟨w.heap.size, j, none⟩) (by simp)
  have oldf : ∀ j, ((w.alloc (.cells #[z, z] t)).alloc (.cells #[.int .i64 0, .int .i64 W.length] t)).frozen? ⟨w.heap.size, j, none⟩ = (w.alloc (.cells #[z, z] t)).frozen? ⟨w.heap.size, j, none⟩ := fun j =>
    ((Below.refl _ _).alloc (Nat.le_refl _) _).frozen (p := ⟨w.heap.size, j, none⟩) (by simp)
  refine ⟨0, 0, Nat.zero_le _, rfl, Nat.le_refl _, rfl, ?_, ?_, ?_, ⟨z, ?_⟩, ⟨z, ?_⟩, ?_, ?_, ((Below.refl _ _).alloc (Nat.le_refl _) _).alloc (by simp) _⟩
  · exact World.cell?_alloc_at _ _ _ _ hz
  · exact World.cell?_alloc_at _ _ _ _ hz
  · exact World.frozen?_alloc_at _ _ _ _ hz
  · rw [old]; exact World.cell?_alloc_at _ _ _ _ rfl
  · rw [old]; exact World.cell?_alloc_at _ _ _ _ rfl
  · rw [oldf]; exact World.frozen?_alloc_at _ _ _ _ rfl
  · rw [oldf]; exact World.frozen?_alloc_at _ _ _ _ rfl

set_option maxRecDepth 100000 in
set_option maxHeartbeats 1000000 in
theorem refOf_any (F W : List Hit) (A C : Option Addr) (c d : Nat) (w : World) (HF : Hs w w.heap.size A F) (HW : Hs w w.heap.size C W) (hf : F.length ≤ 9223372036854775807) (hw : W.length ≤ 9223372036854775807) :
    Calls Try.prog 7 #[.slice A F.length c, .slice C W.length d] w fun e w' => e = .returned (.agg #[.int .i64 (cntL (ids F) (ids W) W.length), .int .i64 W.length]) ∧ Below w.heap.size w w' := by
  have hl : (ids W).length = W.length := List.length_map _
  go_enter Try.func7, Try.ntmps7
  go_wp2_with fail
  go_loopw [6] (fun i wr => OfRel (ids F) (ids W) w i wr) (fun i _ => W.length - (intOf i).toNat)
  case atStart => rw [← hl]; exact OfRel.start _ _ _ _ _
  case round =>
    obtain ⟨k, n, hk, rfl, hn, hcnt, c0, c1, f0, ⟨u0, r0⟩, ⟨u1, r1⟩, g0, g1, hB⟩ := hrel
    rw [hl] at hk c1
    have HC := Lib.hid hcnt
    clear hcnt
    by_cases hlt : k < W.length
    · obtain ⟨b, off, h, rfl, hb, hj, e0, e1, e2⟩ := (HW.below hB).at_ hlt
      have hsc := cntL_succ (ids F) (ids W) k h.id (ids_at hj)
      rw [HC.out] at hsc
      obtain ⟨R, hR⟩ : ∃ R, (ids F).contains h.id = R := ⟨_, rfl⟩
      rw [hR] at hsc
      have HSC := Lib.hid hsc
      have HR := Lib.hid hR
      clear hR hj hsc
      cases R with
      | true =>
        go_wp2_with (go_at_call 8; refine (has_any F A c h.id _ _ (HF.below hB) hf true HR.out).mono ?_; rintro e w' ⟨rfl, rfl⟩)
        go_roundw
        case rel =>
          refine ⟨k + 1, n + 1, by omega, by go_num, by omega, HSC.out, ?_, ?_, ?_, ⟨u0, ?_⟩, ⟨u1, ?_⟩, ?_, ?_, hB.setCell (by simp) _⟩
          · rw [World.cell?_setCell_same _ _ _ c0]; go_num
          · rw [World.cell?_setCell_other _ _ _ _ (by simp), hl]; exact c1
          · rw [World.frozen?_setCell]; exact f0
          · rw [World.cell?_setCell_other _ _ _ _ (by simp)]; exact r0
          · rw [World.cell?_setCell_other _ _ _ _ (by simp)]; exact r1
          · rw [World.frozen?_setCell]; exact g0
          · rw [World.frozen?_setCell]; exact g1
        case measure => simp [intOf]; omega
      | false =>
        go_wp2_with (go_at_call 8; refine (has_any F A c h.id _ _ (HF.below hB) hf false HR.out).mono ?_; rintro e w' ⟨rfl, rfl⟩)
        go_roundw
        case rel => exact ⟨k + 1, n, by omega, by go_num, by omega, HSC.out, c0, by rw [hl]; exact c1, f0, ⟨u0, r0⟩, ⟨u1, r1⟩, g0, g1, hB⟩
        case measure => simp [intOf]; omega
    · obtain rfl : k = W.length := by omega
      have r0' : (wr.setCell ⟨w.heap.size, 0, none⟩ (.int .i64 n)).cell? ⟨w.heap.size, 0, none⟩ = some (.int .i64 n) := World.cell?_setCell_same _ _ _ r0
      have r1' : ((wr.setCell ⟨w.heap.size, 0, none⟩ (.int .i64 n)).setCell ⟨w.heap.size, 1, none⟩ (.int .i64 W.length)).cell? ⟨w.heap.size, 1, none⟩ = some (.int .i64 W.length) :=
        World.cell?_setCell_same _ _ _ (by rw [World.cell?_setCell_other _ _ _ _ (by simp)]; exact r1)
      go_wp2_with fail
      rw [HC.out]
      refine bodyPost_ret (v := .agg #[.int .i64 n, .int .i64 W.length]) (by simp [results, Try.results7, go_sem, r0', r1']) rfl ⟨rfl, ?_⟩
      exact (hB.setCell (Nat.le_refl _) _).setCell (Nat.le_refl _) _
end Go.Proofs.Ytjoaimccfoakmaa
