/- masks.counts returns the address of a new table that holds Pascal's triangle. Conditions: none. -/
import Derived.Test.YtpldjhlhkjmneaaDoorProg
import Derived.Test.YtpldjhlhkjmneaaDoorMm
import Derived.WalkKit
import Derived.BigRegion
import Derived.Lib.Hide
namespace Go.Proofs.YtpldjhlhkjmneaaDoor
open Go.RowKit

def zeroCells : Array Value := Array.replicate 4225 (.int .i64 0)

theorem zero_tab (w : World) : (zeroValue 46).run Tryd.prog w = .ok (.agg zeroCells) w := by kernel_rfl
theorem box_tab (w : World) : (Instr.box 46 (.agg zeroCells)).run Tryd.prog w = .ok (.pointer (some ⟨w.heap.size, 0, none⟩)) (w.alloc (.cells zeroCells 46)) := by kernel_rfl

/-- The table as it is when row n is filled up to column s (exclusive). -/
def tab (n s : Nat) (i j : Nat) : Int := if i < n ∨ (i = n ∧ j < s) then (Mm.C i j : Int) else 0

/-- block B of w is the table. -/
def IsTab (B : Nat) (f : Nat → Nat → Int) (w : World) : Prop :=
  (∀ i j, i ≤ 64 → j ≤ 64 → w.cell? ⟨B, i * 65 + j, none⟩ = some (.int .i64 (f i j))) ∧ (∀ i, w.frozen? ⟨B, i, none⟩ = false)


theorem isTab_set {B : Nat} {f : Nat → Nat → Int} {w : World} (h : IsTab B f w) (n s : Nat) (hn : n ≤ 64) (hs : s ≤ 64) (v : Int) :
    IsTab B (fun i j => if i = n ∧ j = s then v else f i j) (w.setCell ⟨B, n * 65 + s, none⟩ (.int .i64 v)) := by
  refine ⟨fun i j hi hj => ?_, fun i => (World.frozen?_setCell _ _ _ _).trans (h.2 i)⟩
  by_cases e : i = n ∧ j = s
  · obtain ⟨rfl, rfl⟩ := e
    rw [World.cell?_setCell_same' _ _ _ (by rw [h.1 i j hi hj]; rfl)]; simp
  · rw [World.cell?_setCell_other, h.1 i j hi hj]
    · simp only [if_neg e]
    · intro h'
      simp only [Addr.mk.injEq] at h'
      omega

theorem isTab_congr {B : Nat} {f g : Nat → Nat → Int} {w : World} (h : IsTab B f w) (e : ∀ i j, i ≤ 64 → j ≤ 64 → f i j = g i j) : IsTab B g w :=
  ⟨fun i j hi hj => by rw [← e i j hi hj]; exact h.1 i j hi hj, h.2⟩

theorem isTab_zero (w : World) : IsTab w.heap.size (tab 0 0) (w.alloc (.cells zeroCells 46)) := by
  refine ⟨fun i j hi hj => ?_, fun i => World.frozen?_alloc_at _ _ _ _ rfl⟩
  rw [World.cell?_alloc_at _ _ _ _ rfl]
  have : (tab 0 0 i j) = 0 := by unfold tab; rw [if_neg (by omega)]
  rw [this]
  unfold zeroCells
  rw [Array.getElem?_replicate, if_pos (by omega)]

theorem isTab_drew {B : Nat} {f : Nat → Nat → Int} {w : World} (h : IsTab B f w) : IsTab B f w.drew := h

theorem step_sum (n s : Nat) (h1 : 1 ≤ s) (h2 : s ≤ n) : Mm.C n s = Mm.C (n - 1) (s - 1) + Mm.C (n - 1) s := by
  obtain ⟨m, rfl⟩ : ∃ m, n = m + 1 := ⟨n - 1, by omega⟩
  obtain ⟨k, rfl⟩ : ∃ k, s = k + 1 := ⟨s - 1, by omega⟩
  rw [Mm.C_succ]; simp

theorem tab_old (n s i j : Nat) (h : i < n) : tab n s i j = (Mm.C i j : Int) := by unfold tab; rw [if_pos (by omega)]

theorem tab_step (n s : Nat) (v : Int) (hv : v = (Mm.C n s : Int)) : ∀ i j, i ≤ 64 → j ≤ 64 → (if i = n ∧ j = s then v else tab n s i j) = tab n (s + 1) i j := by
  intro i j _ _
  unfold tab
  by_cases e : i = n ∧ j = s
  · obtain ⟨rfl, rfl⟩ := e
    rw [if_pos ⟨rfl, rfl⟩, if_pos (by omega), hv]
  · simp only [if_neg e]
    by_cases h : i < n ∨ (i = n ∧ j < s)
    · rw [if_pos h, if_pos (by omega)]
    · rw [if_neg h, if_neg (by omega)]

theorem tab_row (n : Nat) : ∀ i j, i ≤ 64 → j ≤ 64 → tab n (n + 1) i j = tab (n + 1) 0 i j := by
  intro i j _ _
  unfold tab
  by_cases h : i < n ∨ (i = n ∧ j < n + 1)
  · rw [if_pos h, if_pos (by omega)]
  · rw [if_neg h]
    by_cases h' : i = n
    · rw [if_pos (by omega), h', Mm.C_gt n j (by omega)]; rfl
    · rw [if_neg (by omega)]

set_option maxHeartbeats 400000 in
theorem counts_any (w : World) :
    Calls Tryd.prog 18 #[] w fun e w' => e = .returned (.pointer (some ⟨w.heap.size, 0, none⟩)) ∧ Below w.heap.size w w' ∧ IsTab w.heap.size (fun i j => (Mm.C i j : Int)) w' := by
  have hz := zero_tab
  have hx := box_tab
  go_enter Tryd.func18, Tryd.ntmps18
  go_wp2_with fail
  go_loopw [2, 3, 6] (fun _ _ i wr => ∃ n : Nat, n ≤ 65 ∧ i = .int .i64 n ∧ Below w.heap.size w wr ∧ w.heap.size < wr.heap.size ∧ IsTab w.heap.size (tab n 0) wr) (fun _ _ i _ => 65 - (intOf i).toNat)
  case atStart => exact ⟨0, by omega, rfl, (Below.refl _ _).alloc (Nat.le_refl _) _, by simp, isTab_zero w⟩
  case round =>
    obtain ⟨n, hn, rfl, hB, hsz, hT⟩ := hrel
    have HT : Hid (IsTab w.heap.size (tab n 0) wr) := hT
    clear hT
    by_cases hlt : n < 65
    · have h0 : wr.cell? ⟨w.heap.size, n * 65, none⟩ = some (.int .i64 (tab n 0 n 0)) := HT.out.1 n 0 (by omega) (by omega)
      have hf0 : ∀ i, wr.frozen? ⟨w.heap.size, i, none⟩ = false := HT.out.2
      go_wp2_with fail
      have HT1 : Hid (IsTab w.heap.size (tab n 1) (wr.setCell ⟨w.heap.size, n * 65, none⟩ (.int .i64 1))) := by
        refine isTab_congr (isTab_set HT.out n 0 (by omega) (by omega) 1) ?_
        intro i j hi hj
        unfold tab
        by_cases e : i = n ∧ j = 0
        · obtain ⟨rfl, rfl⟩ := e
          rw [if_pos ⟨rfl, rfl⟩, if_pos (by omega), Mm.C_zero]; rfl
        · simp only [if_neg e]
          by_cases h : i < n
          · rw [if_pos (by omega), if_pos (by omega)]
          · rw [if_neg (by omega), if_neg (by omega)]
      clear h0 hf0
      have hB1 : Below w.heap.size w (wr.setCell ⟨w.heap.size, n * 65, none⟩ (.int .i64 1)) := hB.setCell (p := ⟨w.heap.size, n * 65, none⟩) (Nat.le_refl _) _
      have hsz1 : w.heap.size < (wr.setCell ⟨w.heap.size, n * 65, none⟩ (.int .i64 1)).heap.size := by simpa [World.setCell] using hsz
      obtain ⟨wo, hwo⟩ : ∃ wo : World, wo = wr.setCell ⟨w.heap.size, n * 65, none⟩ (.int .i64 1) := ⟨_, rfl⟩
      rw [← hwo] at HT1 hB1 hsz1 ⊢
      clear hwo hB hsz HT
      go_loopw [3] (fun j wi => ∃ s : Nat, 1 ≤ s ∧ s ≤ n + 1 ∧ j = .int .i64 s ∧ Below w.heap.size w wi ∧ w.heap.size < wi.heap.size ∧ IsTab w.heap.size (tab n s) wi) (fun j _ => 65 - (intOf j).toNat)
      case atStart => exact ⟨1, by omega, by omega, rfl, hB1, hsz1, HT1.out⟩
      case round =>
        obtain ⟨s, hs1, hs2, rfl, hB, hsz, hT⟩ := hrel
        have HT : Hid (IsTab w.heap.size (tab n s) wr) := hT
        clear hT
        by_cases hle : s ≤ n
        · have h1 := HT.out.1 (n - 1) (s - 1) (by omega) (by omega)
          have h2 := HT.out.1 (n - 1) s (by omega) (by omega)
          have h3 := HT.out.1 n s (by omega) (by omega)
          have hf0 : wr.frozen? ⟨w.heap.size, n * 65 + s, none⟩ = false := HT.out.2 _
          obtain ⟨a, ha⟩ : ∃ a : Nat, Mm.C (n - 1) (s - 1) = a := ⟨_, rfl⟩
          obtain ⟨b, hb⟩ : ∃ b : Nat, Mm.C (n - 1) s = b := ⟨_, rfl⟩
          have hs' := step_sum n s hs1 hle
          rw [ha, hb] at hs'
          have hlt' := Mm.C_lt n s (by omega)
          rw [hs'] at hlt'
          have hab : (a : Int) + b ≤ 9223372036854775807 := by omega
          have Hs : Hid (Mm.C n s = a + b) := hs'
          rw [tab_old n s _ _ (by omega), ha] at h1
          rw [tab_old n s _ _ (by omega), hb] at h2
          clear hs' hlt' ha hb
          go_wp2_with fail
          go_region
          go_wp2_with fail
          go_roundw
          case rel =>
            refine ⟨s + 1, by omega, by omega, by go_num, (hB.setCell (p := ⟨w.heap.size, n * 65 + s, none⟩) (Nat.le_refl _) _).drew, by simpa [World.setCell] using hsz, ?_⟩
            refine isTab_drew (isTab_congr (isTab_set HT.out n s (by omega) (by omega) (a + b)) (tab_step n s _ ?_))
            rw [Hs.out]; omega
          case measure => simp [intOf]; omega
        · go_wp2_with fail
          go_roundw
          case rel =>
            refine ⟨n + 1, by omega, by go_num, hB, hsz, isTab_congr HT.out ?_⟩
            obtain rfl : s = n + 1 := by omega
            exact tab_row n
          case measure => simp [intOf]; omega
    · go_wp2_with fail
      go_ret
      obtain rfl : n = 65 := by omega
      refine ⟨rfl, hB, isTab_congr HT.out ?_⟩
      intro i j hi hj
      unfold tab
      rw [if_pos (by omega)]
end Go.Proofs.YtpldjhlhkjmneaaDoor
