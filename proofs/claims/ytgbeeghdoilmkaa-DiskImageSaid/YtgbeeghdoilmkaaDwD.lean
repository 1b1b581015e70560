/- Scripts of steps on a disk: play. Conditions: each theorem's own hypotheses. -/
import Derived.Test.YtgbeeghdoilmkaaDwC
namespace Go.Proofs.Ytgbeeghdoilmkaa
open Go.RowKit Go.Maps Go.Sort
set_option linter.unusedVariables false

theorem Dk.Moved.of {W W' : World} {d : Nat} {F : Nat → Prop} {m' : Dk.M} (hA : Dk.At W' d m' F) (ho : Dk.Only F W W') : Dk.Moved W W' d F m' := ⟨F, hA, ho, fun k hk => .inl hk⟩
set_option maxRecDepth 100000 in
set_option maxHeartbeats 4000000 in
theorem Dw.play_any {W : World} {d : Nat} {m : Dk.M} {F : Nat → Prop} (h : Dk.At W d m F) (hG : Dk.Good m) (s : Dw.S) (hs : Dw.Fit W s) :
    Calls Try.prog 28 #[.pointer (some ⟨d, 0, none⟩), .agg (Dw.cells s)] W fun e W' => e = .returned (.int .i64 (Dw.play m s).2) ∧ Dk.Moved W W' d F (Dw.play m s).1 := by
  obtain ⟨Z, hZ⟩ : ∃ Z, Dw.play m s = Z := ⟨_, rfl⟩
  rw [hZ]
  have hB : ∀ o, Below W.heap.size W (W.alloc o) := fun o => (Below.refl _ _).alloc (Nat.le_refl _) o
  have hX : ∀ o, Dk.At (W.alloc o) d m F := fun o => h.later (hB o) (Nat.le_refl _)
  have hF : ∀ o, Dw.Fit (W.alloc o) s := fun o => hs.keep (hB o).size fun k hk => Below.heap_alloc W o k hk
  have a0 : ∀ o, _ := fun o => Dw.done_any (hX o) hG s (hF o)
  obtain ⟨k, nm, to_, da, at_, n, dn, cv, cs⟩ := s
  obtain ⟨f1, f2, f3, f4, f5, f6, f7, f8⟩ := hs
  simp only at f1 f2 f3 f4 f5 f6 f7 f8
  have hC : ∀ o, Dk.Cts (W.alloc o) cv cs := fun o => (hF o).cuts
  unfold Dw.cells at a0 ⊢
  unfold Dw.play at hZ
  simp only at hZ a0 ⊢
  obtain ⟨nb, hnb, hnbs⟩ := Tx.of nm
  obtain ⟨tb, htb, htbs⟩ := Tx.of to_
  obtain ⟨db, hdb, hdbs⟩ := Tx.of da
  rw [Tx.v_eq hnb, Tx.v_eq htb, Tx.v_eq hdb] at a0 ⊢
  have n1 : nb.size ≤ 9223372036854775807 := by omega
  by_cases e7 : k = 7
  · subst e7
    rw [if_pos rfl] at hZ
    have a1 : ∀ o, _ := fun o => Dk.read_any (hX o) hG nb n1 at_ n f4 f5
    rw [hnb] at a1
    simp only [Dw.read_eq] at a1
    obtain ⟨z, hz⟩ : ∃ z, Dw.readE m nm at_ n = z := ⟨_, rfl⟩
    rw [hz] at a1 hZ
    obtain ⟨y, hy⟩ : ∃ y, Dw.readT m nm at_ n = y := ⟨_, rfl⟩
    rw [hy] at a1
    subst hZ
    clear a0 hF hC hnb htb hdb hnbs htbs hdbs hz hy
    go_enter Try.func28, Try.ntmps28
    go_wp2_with (go_at_call 14; refine (a1 _).mono ?_; rintro e w' ⟨rfl, rfl⟩)
    go_ret
    exact ⟨rfl, Dk.Moved.same h (hB _)⟩
  rw [if_neg e7] at hZ
  by_cases e8 : k = 8
  · subst e8
    rw [if_pos rfl] at hZ
    have a1 : ∀ o, _ := fun o => Dk.arm_any (hX o) n f5 dn
    obtain ⟨y, hy⟩ : ∃ y, Dk.arm m n dn = y := ⟨_, rfl⟩
    rw [hy] at a1 hZ
    subst hZ
    clear a0 hF hC hnb htb hdb hnbs htbs hdbs hy
    go_enter Try.func28, Try.ntmps28
    go_wp2_with (go_at_call 16; refine (a1 _).mono ?_; rintro e w' ⟨rfl, hm, ho⟩)
    go_ret
    exact ⟨rfl, (Dk.Moved.of hm ho).from (hB _)⟩
  rw [if_neg e8] at hZ
  by_cases e9 : k = 9
  · subst e9
    rw [if_pos rfl] at hZ
    have a1 : ∀ o, _ := fun o => Dk.crash_any (hX o) hG (hC o) f7 fun c hc => Nat.le_trans (f8 c hc) (by decide)
    obtain ⟨y, hy⟩ : ∃ y, Dk.crash m cs = y := ⟨_, rfl⟩
    rw [hy] at a1 hZ
    subst hZ
    clear a0 hF hC hnb htb hdb hnbs htbs hdbs hy
    go_enter Try.func28, Try.ntmps28
    go_wp2_with (go_at_call 18; refine (a1 _).mono ?_; rintro e w' ⟨rfl, hm⟩)
    go_ret
    exact ⟨rfl, hm.from (hB _)⟩
  rw [if_neg e9] at hZ
  by_cases hk : k = 1 ∨ k = 2 ∨ k = 3 ∨ k = 4 ∨ k = 5 ∨ k = 6
  · rw [if_pos hk] at hZ
    rw [hZ] at a0
    clear hZ hF hC hnb htb hdb hnbs htbs hdbs e7 e8 e9
    rcases hk with rfl | rfl | rfl | rfl | rfl | rfl <;>
    · go_enter Try.func28, Try.ntmps28
      go_wp2_with (go_at_call 20; refine (a0 _).mono ?_; rintro e w' ⟨rfl, hm⟩)
      go_ret
      exact ⟨rfl, hm.from (hB _)⟩
  · rw [if_neg hk] at hZ
    subst hZ
    have t1 : (k == 1) = false := beq_eq_false_iff_ne.2 fun e => hk (.inl e)
    have t2 : (k == 2) = false := beq_eq_false_iff_ne.2 fun e => hk (.inr (.inl e))
    have t3 : (k == 3) = false := beq_eq_false_iff_ne.2 fun e => hk (.inr (.inr (.inl e)))
    have t4 : (k == 4) = false := beq_eq_false_iff_ne.2 fun e => hk (.inr (.inr (.inr (.inl e))))
    have t5 : (k == 5) = false := beq_eq_false_iff_ne.2 fun e => hk (.inr (.inr (.inr (.inr (.inl e)))))
    have t6 : (k == 6) = false := beq_eq_false_iff_ne.2 fun e => hk (.inr (.inr (.inr (.inr (.inr e)))))
    have t7 : (k == 7) = false := beq_eq_false_iff_ne.2 e7
    have t8 : (k == 8) = false := beq_eq_false_iff_ne.2 e8
    have t9 : (k == 9) = false := beq_eq_false_iff_ne.2 e9
    clear a0 hF hC hnb htb hdb hnbs htbs hdbs hk e7 e8 e9
    go_enter Try.func28, Try.ntmps28
    go_wp2_with fail
    go_ret
    exact ⟨rfl, Dk.Moved.same h (hB _)⟩
end Go.Proofs.Ytgbeeghdoilmkaa
