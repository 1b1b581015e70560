/- Disks: Delete. Conditions: each theorem's own hypotheses. -/
import Derived.Test.YtgbeeghdoilmkaaDkX
namespace Go.Proofs.Ytgbeeghdoilmkaa
open Go.RowKit Go.Maps Go.Sort
set_option linter.unusedVariables false

/-- What Delete does and answers. -/
def Dk.delete (m : Dk.M) (nm : List UInt8) : Dk.M × Int :=
  if Dk.code m nm ≠ 0 then (m, Dk.code m nm)
  else Dk.acc m m.done (Dk.del Dk.F.name nm m.files)
theorem Dk.del_good {m : Dk.M} (hG : Dk.Good m) (nm : List UInt8) (last : Bool) : Dk.Good (Dk.acc m last (Dk.del Dk.F.name nm m.files)).1 := by
  refine Dk.acc_good hG last _ (Dk.up_del Dk.F.name hG.up nm) (fun f hf => hG.file f (Dk.del_names nm hf)) (Nat.le_trans (List.length_filter_le _ _) hG.many) ?_
  cases hx : Dk.get Dk.F.name nm m.files with
  | none => rw [Dk.del_none (Dk.get_none hx)]; exact hG.used
  | some f => have := Dk.used_del hG.up hx; have := hG.used; omega
theorem Dk.delete_good {m : Dk.M} (hG : Dk.Good m) (nm : List UInt8) : Dk.Good (Dk.delete m nm).1 := by
  unfold Dk.delete
  split
  · exact hG
  · exact Dk.del_good hG nm m.done
set_option maxRecDepth 100000 in
theorem Dk.delete1 {W : World} {d b : Nat} {m : Dk.M} {L : List Dk.X} (h : Dk.Stand W d b m L) (hG : Dk.Good m) {bd bn : Nat} (s : ByteArray) (hs : s.size ≤ maxLen)
    (h1 : Blk W bd 22 #[.pointer (some ⟨d, 0, none⟩)]) (h2 : Blk W bn 9 #[.string s]) :
    Dk.Doing W d b m L 57 #[.pointer (some ⟨bd, 0, none⟩), .pointer (some ⟨bn, 0, none⟩)] (Dk.del Dk.F.name s.data.toList m.files) := by
  intro W1 m1 hS hf hcap ho
  obtain ⟨k1, nf1, l1⟩ := h.box ho h1 (by decide) (by decide) (by decide)
  obtain ⟨k2, nf2, l2⟩ := h.box ho h2 (by decide) (by decide) (by decide)
  have p1 := k1.cell 0
  have p2 := k2.cell 0
  simp only [List.getElem?_toArray, List.getElem?_cons_zero] at p1 p2
  have hc := Dk.remove_any hS (by rw [hf]; exact hG.up) (by rw [hf]; have := hG.used; have := hG.cap; omega) s hs
  rw [hf] at hc
  clear hf hcap ho h hG h1 h2 k1 k2
  go_enter Try.func57, Try.ntmps57
  go_wp2_with (go_at_call 58; refine hc.mono ?_; rintro e w2 ⟨rfl, hS2, ho2⟩)
  go_end0
  refine ⟨rfl, _, ⟨b, _, hS2, rfl⟩, ho2.wide fun k _ hk => ?_, fun k hk => .inl (Dk.foot_del hk)⟩
  rcases hk with rfl | rfl
  · exact .inl rfl
  · exact .inr (.inl rfl)
set_option maxRecDepth 100000 in
set_option maxHeartbeats 4000000 in
theorem Dk.delete_any {W : World} {d : Nat} {m : Dk.M} {F : Nat → Prop} (h : Dk.At W d m F) (hG : Dk.Good m) (s : ByteArray) (hs : s.size ≤ maxLen) :
    Calls Try.prog 24 #[.pointer (some ⟨d, 0, none⟩), .string s] W fun e W' => e = .returned (.int .i64 (Dk.delete m s.data.toList).2) ∧ Dk.Moved W W' d F (Dk.delete m s.data.toList).1 := by
  obtain ⟨b, L, hS0, rfl⟩ := h
  obtain ⟨Z, hZ⟩ : ∃ Z, Dk.delete m s.data.toList = Z := ⟨_, rfl⟩
  rw [hZ]
  unfold Dk.delete at hZ
  have hX : ∃ X bd bn, (W.alloc (.cells #[.pointer (some ⟨d, 0, none⟩)] 22)).alloc (.cells #[.string s] 9) = X ∧ W.heap.size = bd ∧ W.heap.size + 1 = bn ∧ Below W.heap.size W X ∧ Blk X bd 22 #[.pointer (some ⟨d, 0, none⟩)] ∧ Blk X bn 9 #[.string s] := by
    refine ⟨_, _, _, rfl, rfl, rfl, ((Below.refl _ _).alloc (Nat.le_refl _) _).alloc (by simp) _, (Blk.new W _ _).alloc _, ?_⟩
    have := Blk.new (W.alloc (.cells #[.pointer (some ⟨d, 0, none⟩)] 22)) 9 #[.string s]
    rw [World.size_alloc] at this
    exact this
  obtain ⟨X, bd, bn, hXe, hbde, hbne, hBX, k1, k2⟩ := hX
  rw [hbde] at hbne
  have hS := hS0.later hBX (Nat.le_refl _)
  have p1 := k1.cell 0
  have p2 := k2.cell 0
  simp only [List.getElem?_toArray, List.getElem?_cons_zero] at p1 p2
  have hlook := Dk.look_any hS s (by unfold maxLen at hs; omega)
  have hsame : Dk.Moved W X d (Dk.foot d b L) m := Dk.Moved.same ⟨b, L, hS0, rfl⟩ hBX
  obtain ⟨pv, hpv⟩ : ∃ pv, Dk.ptr (Dk.found m L s.data.toList) = pv := ⟨_, rfl⟩
  rw [hpv] at hlook
  clear hpv
  by_cases hc : Dk.code m s.data.toList = 0
  · rw [hc] at hlook
    rw [if_neg (fun h => h hc)] at hZ
    have hSd : Dk.Stand X.drew d b m L := hS.keep fun _ _ => rfl
    have hdo := Dk.delete1 hSd hG (bd := bd) (bn := bn) s hs k1 k2
    have hacc := Dk.accepted_any hSd hG.left m.done _ _ _ hdo (Dk.run_enter Try.func57 (by kernel_rfl) rfl)
    have hdn := Dk.acc_done m m.done (Dk.del Dk.F.name s.data.toList m.files)
    rw [hZ] at hacc hdn
    obtain ⟨c0, c1, c2, c3, c4, c5, c6, c7⟩ := hS.eight
    have nb1 := hS.off k1 (by decide) (by decide) (by decide)
    have hbd0 := k1.lt
    have S0 : X.cell? ⟨bd, 0, none⟩ = some (.pointer (some ⟨d, 0, none⟩)) ∧ X.cell? ⟨d, 7, none⟩ = some (.bool m.done) := ⟨p1, c7⟩
    clear hc hZ hdo c0 c1 c2 c3 c4 c5 c6 k1 k2 hS hS0
    go_enter Try.func24, Try.ntmps24
    go_upto_region 4 with (go_at_call 47; refine hlook.mono ?_; rintro e w2 ⟨rfl, rfl⟩)
    go_region_held_law (fun W' => W'.cell? ⟨bd, 0, none⟩ = some (.pointer (some ⟨d, 0, none⟩)) ∧ W'.cell? ⟨d, 7, none⟩ = some (.bool m.done))
      (first
        | with_reducible assumption
        | exact S0
        | exact S9)
      (first
        | (go_at_call 55; refine hacc.mono ?_; rintro e w2 ⟨rfl, hM⟩
           have S9 : w2.cell? ⟨bd, 0, none⟩ = some (.pointer (some ⟨d, 0, none⟩)) ∧ w2.cell? ⟨d, 7, none⟩ = some (.bool m.done) := by
             obtain ⟨F', ⟨b', L', h3, rfl⟩, o3, f3⟩ := hM
             refine ⟨(World.cell?_of_block (o3.block bd hbd0 nb1)).trans p1, ?_⟩
             rw [← hdn]
             exact h3.eight.2.2.2.2.2.2.2))
    all_goals (try go_wp2_with fail)
    all_goals
      go_ret
      exact ⟨rfl, Dk.Moved.from hBX.drew hM⟩
  · rw [if_pos hc] at hZ
    obtain ⟨e, he⟩ : ∃ e, Dk.code m s.data.toList = e := ⟨_, rfl⟩
    rw [he] at hlook hZ hc
    have u1 : (e != 0) = true := by rw [bne_iff_ne]; exact hc
    subst hZ
    clear he hc k1 k2 hS hS0
    go_enter Try.func24, Try.ntmps24
    go_wp2_with (go_at_call 47; refine hlook.mono ?_; rintro e w2 ⟨rfl, rfl⟩)
    go_ret
    exact ⟨rfl, hsame⟩
end Go.Proofs.Ytgbeeghdoilmkaa
