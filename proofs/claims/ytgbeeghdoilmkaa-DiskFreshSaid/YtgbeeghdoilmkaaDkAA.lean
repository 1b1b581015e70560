/- Disks: Rename, whole. Conditions: each theorem's own hypotheses. -/
import Derived.Test.YtgbeeghdoilmkaaDkZ
namespace Go.Proofs.Ytgbeeghdoilmkaa
open Go.RowKit Go.Maps Go.Sort
set_option linter.unusedVariables false

set_option maxRecDepth 100000 in
set_option maxHeartbeats 4000000 in
theorem Dk.rename_any {W : World} {d : Nat} {m : Dk.M} {F : Nat → Prop} (h : Dk.At W d m F) (hG : Dk.Good m) (s t : ByteArray) (hs : s.size ≤ maxLen) (ht : t.size ≤ maxLen) :
    Calls Try.prog 52 #[.pointer (some ⟨d, 0, none⟩), .string s, .string t] W fun e W' => e = .returned (.int .i64 (Dk.rename m s.data.toList t.data.toList).2) ∧ Dk.Moved W W' d F (Dk.rename m s.data.toList t.data.toList).1 := by
  obtain ⟨b, L, hS0, rfl⟩ := h
  obtain ⟨Z, hZ⟩ : ∃ Z, Dk.rename m s.data.toList t.data.toList = Z := ⟨_, rfl⟩
  rw [hZ]
  unfold Dk.rename at hZ
  have HZ := Lib.hid hZ
  clear hZ
  have hX : ∃ X bd bo bt, ((W.alloc (.cells #[.pointer (some ⟨d, 0, none⟩)] 22)).alloc (.cells #[.string s] 9)).alloc (.cells #[.string t] 9) = X ∧ W.heap.size = bd ∧ W.heap.size + 1 = bo ∧ W.heap.size + 1 + 1 = bt ∧ Below W.heap.size W X ∧
      Blk X bd 22 #[.pointer (some ⟨d, 0, none⟩)] ∧ Blk X bo 9 #[.string s] ∧ Blk X bt 9 #[.string t] := by
    refine ⟨_, _, _, _, rfl, rfl, rfl, rfl, (((Below.refl _ _).alloc (Nat.le_refl _) _).alloc (by simp) _).alloc (by simp; omega) _, ((Blk.new W _ _).alloc _).alloc _, ?_, ?_⟩
    · have := (Blk.new (W.alloc (.cells #[.pointer (some ⟨d, 0, none⟩)] 22)) 9 #[.string s]).alloc (.cells #[.string t] 9)
      rw [World.size_alloc] at this
      exact this
    · have := Blk.new ((W.alloc (.cells #[.pointer (some ⟨d, 0, none⟩)] 22)).alloc (.cells #[.string s] 9)) 9 #[.string t]
      rw [World.size_alloc, World.size_alloc] at this
      exact this
  obtain ⟨X, bd, bo, bt, hXe, hbde, hboe, hbte, hBX, k1, k2, k3⟩ := hX
  rw [hboe] at hbte
  rw [hbde] at hboe
  have hbo2 : bd + 2 = bt := by omega
  have hS := hS0.later hBX (Nat.le_refl _)
  have p1 := k1.cell 0
  have p2 := k2.cell 0
  have p3 := k3.cell 0
  simp only [List.getElem?_toArray, List.getElem?_cons_zero] at p1 p2 p3
  have hlook := Dk.look_any hS s (by unfold maxLen at hs; omega)
  have hA0 : Dk.At W d m (Dk.foot d b L) := ⟨b, L, hS0, rfl⟩
  obtain ⟨q, hq⟩ : ∃ q, Dk.named t.data.toList = q := ⟨_, rfl⟩
  have hname : ∀ w : World, Calls Try.prog 70 #[.string t] w fun e w' => e = .returned (.bool q) ∧ w = w' := fun w => Dk.isName_any t (by unfold maxLen at ht; omega) q hq w
  rw [hq] at HZ
  by_cases hc : Dk.code m s.data.toList = 0
  · obtain ⟨x, hx1, hx, hx2, hx3⟩ := Dk.found_file hS hc
    rw [hx1, hc] at hlook
    unfold Dk.ptr at hlook
    simp only at hlook
    have hZ := HZ.out
    rw [hc, if_neg (by decide), ← hx3] at hZ
    have hY : ∃ Y bf, X.alloc (.cells #[.pointer (some ⟨x.blk, 0, none⟩)] 80) = Y ∧ X.heap.size = bf ∧ Blk Y bf 80 #[.pointer (some ⟨x.blk, 0, none⟩)] ∧ Blk Y bd 22 #[.pointer (some ⟨d, 0, none⟩)] ∧ Blk Y bo 9 #[.string s] ∧ Blk Y bt 9 #[.string t] ∧ Dk.Stand Y d b m L ∧ Below W.heap.size W Y :=
      ⟨_, _, rfl, rfl, Blk.new X _ _, k1.alloc _, k2.alloc _, k3.alloc _, hS.later ((Below.refl _ _).alloc (Nat.le_refl _) _) (Nat.le_refl _), hBX.alloc hBX.size _⟩
    obtain ⟨Y, bf, hYe, hbfe, j4, j1, j2, j3, hSY, hBY⟩ := hY
    have r1 := j1.cell 0
    have r3 := j3.cell 0
    simp only [List.getElem?_toArray, List.getElem?_cons_zero] at r1 r3
    have hsame : Dk.Moved W Y d (Dk.foot d b L) m := Dk.Moved.same hA0 hBY
    cases q with
    | false =>
      rw [if_pos (.inr rfl)] at hZ
      subst hZ
      clear hc hx1 hx2 hx3 HZ k1 k2 k3 hS hS0 hBX hq
      go_enter Try.func52, Try.ntmps52
      go_wp2_with (first
        | (go_at_call 47; refine hlook.mono ?_; rintro e w2 ⟨rfl, rfl⟩)
        | (go_at_call 70; refine (hname _).mono ?_; rintro e w2 ⟨rfl, rfl⟩))
      go_ret
      exact ⟨rfl, hsame⟩
    | true =>
      rw [if_neg (by decide), if_neg (fun h => h rfl)] at hZ
      have hSd : Dk.Stand Y.drew d b m L := hSY.keep fun _ _ => rfl
      have hdo := Dk.rename1 hSd hG hx (bo := bo) (bt := bt) (bd := bd) (bf := bf) s t hs ht hx2 j2 j3 j1 j4
      have hacc := Dk.accepted_any hSd hG.left m.done _ _ _ hdo (Dk.run_enter Try.func75 (by kernel_rfl) rfl)
      have hdn := Dk.acc_done m m.done (Dk.ren s.data.toList t.data.toList x.f m.files)
      rw [hZ] at hacc hdn
      obtain ⟨c0, c1, c2, c3, c4, c5, c6, c7⟩ := hSY.eight
      have nb1 := hSY.off j1 (by decide) (by decide) (by decide)
      have hbd0 := j1.lt
      have S0 : Y.cell? ⟨bd, 0, none⟩ = some (.pointer (some ⟨d, 0, none⟩)) ∧ Y.cell? ⟨d, 7, none⟩ = some (.bool m.done) := ⟨r1, c7⟩
      clear hc hx1 hx2 hx3 HZ k1 k2 k3 hS hS0 hBX hq hZ hdo c0 c1 c2 c3 c4 c5 c6 j2 j3 j4
      go_enter Try.func52, Try.ntmps52
      go_upto_region 8 with (first
        | (go_at_call 47; refine hlook.mono ?_; rintro e w2 ⟨rfl, rfl⟩)
        | (go_at_call 70; refine (hname _).mono ?_; rintro e w2 ⟨rfl, rfl⟩))
      go_region_held_law (fun W' => W'.cell? ⟨bd, 0, none⟩ = some (.pointer (some ⟨d, 0, none⟩)) ∧ W'.cell? ⟨d, 7, none⟩ = some (.bool m.done))
        (first
          | with_reducible assumption
          | exact S0
          | exact S9)
        (first
          | (go_at_call 55; refine hacc.mono ?_; rintro e w2 ⟨rfl, hM⟩
             have S9 : w2.cell? ⟨bd, 0, none⟩ = some (.pointer (some ⟨d, 0, none⟩)) ∧ w2.cell? ⟨d, 7, none⟩ = some (.bool m.done) := by
               obtain ⟨F', ⟨b', L', h3, rfl⟩, o3, f3⟩ := hM
               refine ⟨(World.cell?_of_block (o3.block bd hbd0 nb1)).trans r1, ?_⟩
               rw [← hdn]
               exact h3.eight.2.2.2.2.2.2.2))
      all_goals (try go_wp2_with fail)
      all_goals
        go_ret
        exact ⟨rfl, Dk.Moved.from hBY.drew hM⟩
  · have hnone := Dk.found_none hS hc
    rw [hnone] at hlook
    unfold Dk.ptr at hlook
    simp only at hlook
    have hZ := HZ.out
    have r3 := (k3.alloc (.cells #[.pointer none] 80)).cell 0
    simp only [List.getElem?_toArray, List.getElem?_cons_zero] at r3
    have hsame : Dk.Moved W (X.alloc (.cells #[.pointer none] 80)) d (Dk.foot d b L) m := Dk.Moved.same hA0 (hBX.alloc hBX.size _)
    rcases Dk.code_range m s.data.toList with hc2 | hc2 | hc2 | hc2
    · rw [hc2, if_pos rfl] at hZ
      rw [hc2] at hlook
      subst hZ
      clear hc hc2 HZ k1 k2 k3 hS hS0 hBX hq hnone
      go_enter Try.func52, Try.ntmps52
      go_wp2_with (go_at_call 47; refine hlook.mono ?_; rintro e w2 ⟨rfl, rfl⟩)
      go_ret
      exact ⟨rfl, hsame⟩
    · rw [hc2, if_neg (by decide), if_pos (.inl rfl)] at hZ
      rw [hc2] at hlook
      subst hZ
      clear hc hc2 HZ k1 k2 k3 hS hS0 hBX hq hnone
      go_enter Try.func52, Try.ntmps52
      go_wp2_with (go_at_call 47; refine hlook.mono ?_; rintro e w2 ⟨rfl, rfl⟩)
      go_ret
      exact ⟨rfl, hsame⟩
    · rw [hc2, if_neg (by decide)] at hZ
      rw [hc2] at hlook
      cases q with
      | false =>
        rw [if_pos (.inr rfl)] at hZ
        subst hZ
        clear hc hc2 HZ k1 k2 k3 hS hS0 hBX hq hnone
        go_enter Try.func52, Try.ntmps52
        go_wp2_with (first
          | (go_at_call 47; refine hlook.mono ?_; rintro e w2 ⟨rfl, rfl⟩)
          | (go_at_call 70; refine (hname _).mono ?_; rintro e w2 ⟨rfl, rfl⟩))
        go_ret
        exact ⟨rfl, hsame⟩
      | true =>
        rw [if_neg (by decide), if_pos (by decide)] at hZ
        subst hZ
        clear hc hc2 HZ k1 k2 k3 hS hS0 hBX hq hnone
        go_enter Try.func52, Try.ntmps52
        go_wp2_with (first
          | (go_at_call 47; refine hlook.mono ?_; rintro e w2 ⟨rfl, rfl⟩)
          | (go_at_call 70; refine (hname _).mono ?_; rintro e w2 ⟨rfl, rfl⟩))
        go_ret
        exact ⟨rfl, hsame⟩
    · exact absurd hc2 hc
end Go.Proofs.Ytgbeeghdoilmkaa
