/- Contracts of the law's helpers pick, code, goes. Conditions: each theorem's own hypotheses. -/
import Derived.Test.YtffdplmnjlcmnaaDoorJnV
import Derived.Test.YtffdplmnjlcmnaaDoorSealL
namespace Go.Proofs.YtffdplmnjlcmnaaDoor
open Go.RowKit
set_option linter.unusedVariables false

theorem pick_val (k n : Int) (hn : 1 ≤ n) (hn2 : n ≤ 4611686018427387904) :
    (k.tmod n < 0 → wrap64 (k.tmod n + n) = k % n) ∧ (0 ≤ k.tmod n → k.tmod n = k % n) := by
  have h1 := Int.emod_nonneg k (show n ≠ 0 by omega)
  have h2 := Int.emod_lt_of_pos k (show 0 < n by omega)
  have h3 := Int.tmod_eq_emod (a := k) (b := n)
  by_cases hc : 0 ≤ k ∨ n ∣ k
  · rw [if_pos hc] at h3; exact ⟨fun h => by omega, fun _ => by omega⟩
  · rw [if_neg hc, show (n.natAbs : Int) = n from by omega] at h3
    rw [h3]
    refine ⟨fun _ => ?_, fun h => by omega⟩
    rw [IntWalk.wrap64_in _ (by omega)]; omega

theorem pick_any (k n : Int) (w : World) (hn : 1 ≤ n) (hn2 : n ≤ 4611686018427387904) :
    Calls Tryd.prog 23 #[.int .i64 k, .int .i64 n] w fun e w' => e = .returned (.int .i64 (k % n)) ∧ w = w' := by
  have hn0 : (n == 0) = false := by rw [beq_eq_false_iff_ne]; omega
  go_enter Tryd.func23, Tryd.ntmps23
  go_wp2_with fail
  · have h : k.tmod n < 0 := by assumption
    have e := (pick_val k n hn hn2).1 h
    clear h
    go_ret
    exact ⟨congrArg (fun z => Ending.returned (Value.int .i64 z)) e, rfl⟩
  · have h : 0 ≤ k.tmod n := by assumption
    have e := (pick_val k n hn hn2).2 h
    clear h
    go_ret
    exact ⟨congrArg (fun z => Ending.returned (Value.int .i64 z)) e, rfl⟩

theorem code_any (s : ByteArray) (w : World) (hs : s.size ≤ 4611686018427387904) :
    Calls Tryd.prog 60 #[.string s] w fun e w' => e = .returned (str ((s.data.toList ++ [0, 0, 0, 0, 0, 0, 0, 0]).take 8)) ∧ w = w' := by
  go_enter Tryd.func60, Tryd.ntmps60
  go_wp2_with fail
  go_ret
  refine ⟨congrArg Ending.returned (str_eq ?_), rfl⟩
  rw [ext_data, data_append]
  rfl

/-- The cells of an update at a block, from its second on. -/
theorem tri_alloc {b : Nat} {k i : Int} {c : ByteArray} {w : World} (o : Obj) (h : w.cell? ⟨b, 1, none⟩ = some (.int .i64 k) ∧ w.cell? ⟨b, 2, none⟩ = some (.int .i64 i) ∧ w.cell? ⟨b, 3, none⟩ = some (.string c)) :
    (w.alloc o).cell? ⟨b, 1, none⟩ = some (.int .i64 k) ∧ (w.alloc o).cell? ⟨b, 2, none⟩ = some (.int .i64 i) ∧ (w.alloc o).cell? ⟨b, 3, none⟩ = some (.string c) := by
  obtain ⟨h1, h2, h3⟩ := h
  refine ⟨?_, ?_, ?_⟩
  · rw [World.cell?_alloc_some _ _ _ (by rw [h1]; rfl)]; exact h1
  · rw [World.cell?_alloc_some _ _ _ (by rw [h2]; rfl)]; exact h2
  · rw [World.cell?_alloc_some _ _ _ (by rw [h3]; rfl)]; exact h3
theorem tri_set {b : Nat} {k i : Int} {c : ByteArray} {w : World} (p : Addr) (v : Value) (hp : p.block ≠ b) (h : w.cell? ⟨b, 1, none⟩ = some (.int .i64 k) ∧ w.cell? ⟨b, 2, none⟩ = some (.int .i64 i) ∧ w.cell? ⟨b, 3, none⟩ = some (.string c)) :
    (w.setCell p v).cell? ⟨b, 1, none⟩ = some (.int .i64 k) ∧ (w.setCell p v).cell? ⟨b, 2, none⟩ = some (.int .i64 i) ∧ (w.setCell p v).cell? ⟨b, 3, none⟩ = some (.string c) := by
  obtain ⟨h1, h2, h3⟩ := h
  refine ⟨?_, ?_, ?_⟩
  · rw [World.cell?_setCell_far _ _ _ _ hp]; exact h1
  · rw [World.cell?_setCell_far _ _ _ _ hp]; exact h2
  · rw [World.cell?_setCell_far _ _ _ _ hp]; exact h3

set_option maxRecDepth 100000 in
set_option maxHeartbeats 2000000 in
theorem goes_dead (q k i sq : Int) (c : ByteArray) (w : World) (hk : k % 2 = 1) :
    Calls Tryd.prog 22 #[.agg #[.int .i64 q, .int .i64 k, .int .i64 i, .string c], .int .i64 sq] w fun e w' => e = .returned (.agg #[.int .i64 sq, .int .i64 2, .int .i64 (i % 281474976710657), .string ⟨#[]⟩]) ∧ Below w.heap.size w w' := by
  have HK := Lib.hid hk
  clear hk
  have w2 : IntKind.i64.wrap (1 + 1) = 2 := rfl
  have w3 : IntKind.i64.wrap 2 = 2 := rfl
  go_enter Tryd.func22, Tryd.ntmps22
  go_wp2_with fail
  go_region_held3 (fun w' => w'.cell? ⟨w.heap.size, 1, none⟩ = some (.int .i64 k) ∧ w'.cell? ⟨w.heap.size, 2, none⟩ = some (.int .i64 i) ∧ w'.cell? ⟨w.heap.size, 3, none⟩ = some (.string c))
    (first | assumption | exact tri_alloc _ (by assumption) | (refine tri_set _ _ ?_ (by assumption); simp; done) | (refine ⟨?_, ?_, ?_⟩ <;> first | assumption | exact World.cell?_alloc_at _ _ _ _ rfl | go_keep))
    (first
      | (go_at_call_of 23 (Value.int .i64 k); refine (pick_any k 2 _ (by decide) (by decide)).mono ?_; rintro e w' ⟨rfl, rfl⟩; rw [HK.out])
      | (go_at_call_of 23 (Value.int .i64 i); refine (pick_any i 281474976710657 _ (by decide) (by decide)).mono ?_; rintro e w' ⟨rfl, rfl⟩))
  all_goals
    go_wp2_with fail
    refine bodyPost_ret (v := .agg #[.int .i64 sq, .int .i64 2, .int .i64 (i % 281474976710657), .string ⟨#[]⟩]) (by simp [results, Tryd.results22, go_sem]) rfl ⟨rfl, ?_⟩
    exact ((((Below.refl _ _).alloc (Nat.le_refl _) _).alloc (by simp) _).alloc (by simp; omega) _).drew

set_option maxRecDepth 100000 in
set_option maxHeartbeats 2000000 in
theorem goes_put (q k i sq : Int) (c : ByteArray) (D : ByteArray) (w : World) (hk : k % 2 = 0) (hc : c.size ≤ 4611686018427387904) (hD : str ((c.data.toList ++ [0, 0, 0, 0, 0, 0, 0, 0]).take 8) = .string D) :
    Calls Tryd.prog 22 #[.agg #[.int .i64 q, .int .i64 k, .int .i64 i, .string c], .int .i64 sq] w fun e w' => e = .returned (.agg #[.int .i64 sq, .int .i64 1, .int .i64 (i % 281474976710657), .string D]) ∧ Below w.heap.size w w' := by
  have HK := Lib.hid hk
  have HD := Lib.hid hD
  clear hk hD
  have hcd : ∀ w : World, Calls Tryd.prog 60 #[.string c] w fun e w' => e = .returned (.string D) ∧ w = w' := fun w => by rw [← HD.out]; exact code_any c w hc
  have HC := Lib.hid hcd
  clear hcd
  have w2 : IntKind.i64.wrap (1 + 0) = 1 := rfl
  have w3 : IntKind.i64.wrap 1 = 1 := rfl
  go_enter Tryd.func22, Tryd.ntmps22
  go_wp2_with fail
  go_region_held3 (fun w' => w'.cell? ⟨w.heap.size, 1, none⟩ = some (.int .i64 k) ∧ w'.cell? ⟨w.heap.size, 2, none⟩ = some (.int .i64 i) ∧ w'.cell? ⟨w.heap.size, 3, none⟩ = some (.string c))
    (first | assumption | exact tri_alloc _ (by assumption) | (refine tri_set _ _ ?_ (by assumption); simp; done) | (refine ⟨?_, ?_, ?_⟩ <;> first | assumption | exact World.cell?_alloc_at _ _ _ _ rfl | go_keep))
    (first
      | (go_at_call_of 23 (Value.int .i64 k); refine (pick_any k 2 _ (by decide) (by decide)).mono ?_; rintro e w' ⟨rfl, rfl⟩; rw [HK.out])
      | (go_at_call_of 23 (Value.int .i64 i); refine (pick_any i 281474976710657 _ (by decide) (by decide)).mono ?_; rintro e w' ⟨rfl, rfl⟩))
  all_goals
    go_wp2_with (go_at_call 60; refine (HC.out _).mono ?_; rintro e w' ⟨rfl, rfl⟩)
    refine bodyPost_ret (v := .agg #[.int .i64 sq, .int .i64 1, .int .i64 (i % 281474976710657), .string D]) (by simp [results, Tryd.results22, go_sem]) rfl ⟨rfl, ?_⟩
    exact ((((Below.refl _ _).alloc (Nat.le_refl _) _).alloc (by simp) _).alloc (by simp; omega) _).drew
end Go.Proofs.YtffdplmnjlcmnaaDoor
