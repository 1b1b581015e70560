/- Disks: Sync. Conditions: each theorem's own hypotheses. -/
import Derived.Test.YtgbeeghdoilmkaaDkT
namespace Go.Proofs.Ytgbeeghdoilmkaa
open Go.RowKit Go.Maps Go.Sort
set_option linter.unusedVariables false

def Dk.synced (f : Dk.F) : Dk.F := ⟨f.name, f.data, f.data.length⟩
/-- What Sync does and answers. -/
def Dk.sync (m : Dk.M) (nm : List UInt8) : Dk.M × Int :=
  if Dk.code m nm ≠ 0 then (m, Dk.code m nm)
  else Dk.acc m false (Dk.upd nm (Dk.synced (Dk.file m nm)) m.files)
theorem Dk.used_same {m : Dk.M} (hG : Dk.Good m) {nm : List UInt8} {f g : Dk.F} (hf : Dk.get Dk.F.name nm m.files = some f) (hl : g.data.length = f.data.length) : Dk.used (Dk.upd nm g m.files) = Dk.used m.files := by
  have := Dk.used_upd g hG.up hf
  omega
theorem Dk.sync_good {m : Dk.M} (hG : Dk.Good m) (nm : List UInt8) : Dk.Good (Dk.sync m nm).1 := by
  unfold Dk.sync
  split
  · exact hG
  · rename_i hc
    obtain ⟨h1, h2, h3, h4, h5⟩ := Dk.code_zero (Decidable.not_not.1 hc)
    obtain ⟨f1, f2, f3⟩ := hG.file _ h5
    have hu := Dk.used_same (g := Dk.synced (Dk.file m nm)) hG h3 rfl
    exact Dk.upd_good (f := Dk.synced (Dk.file m nm)) hG h4 h2 f2 (Nat.le_refl _) false (by rw [hu]; exact hG.used)
theorem Dk.Stand.got {W : World} {d b : Nat} {m : Dk.M} {L : List Dk.X} (h : Dk.Stand W d b m L) (hu : Dk.Up Dk.F.name m.files) {x : Dk.X} (hx : x ∈ L) : Dk.get Dk.F.name x.nm m.files = some x.f := by
  have hg := Dk.get_at (h.up hu) (List.mem_iff_getElem?.1 hx).choose_spec
  have := h.get x.nm
  rw [hg] at this
  exact this.symm
set_option maxRecDepth 100000 in
set_option maxHeartbeats 2000000 in
theorem Dk.sync1 {W : World} {d b : Nat} {m : Dk.M} {L : List Dk.X} (h : Dk.Stand W d b m L) (hG : Dk.Good m) {x : Dk.X} (hx : x ∈ L) {bf : Nat}
    (h1 : Blk W bf 80 #[.pointer (some ⟨x.blk, 0, none⟩)]) :
    Dk.Doing W d b m L 73 #[.pointer (some ⟨bf, 0, none⟩)] (Dk.upd x.nm (Dk.synced x.f) m.files) := by
  intro W1 m1 hS hf hcap ho
  obtain ⟨k1, nf1, l1⟩ := h.box ho h1 (by decide) (by decide) (by decide)
  obtain ⟨q0, q1⟩ := hS.two hx
  have hR := (hS.file x hx).2
  obtain ⟨a, c, hxv⟩ := hR.slice
  have fx : Dk.foot d b L x.blk := .inr (.inr ⟨x, hx, .inl rfl⟩)
  have hxd := hS.lone x.blk (.inr ⟨x, hx, .inl rfl⟩)
  have p1 := k1.cell 0
  simp only [List.getElem?_toArray, List.getElem?_cons_zero] at p1
  have hfz := (hS.file x hx).1.frozen 1
  have hbfx : bf ≠ x.blk := fun e => nf1 (e ▸ fx)
  have hus := Dk.used_same (g := Dk.synced x.f) hG (h.got hG.up hx) rfl
  have hM : Dk.Moved W1 (W1.setCell ⟨x.blk, 1, none⟩ (.int .i64 (x.f.data.length : Nat))) d (Dk.foot d b L) { m1 with files := Dk.upd x.nm (Dk.synced x.f) m.files } := by
    have hold : ∀ k, k ≠ x.blk → (W1.setCell ⟨x.blk, 1, none⟩ (.int .i64 (x.f.data.length : Nat))).heap[k]? = W1.heap[k]? := fun k h1 => Below.heap_setCell W1 ⟨x.blk, 1, none⟩ _ k h1
    have hvk : ∀ k, x.v.ownBlock = some k → x.v.ownBlock = some k ∨ W1.heap.size ≤ k := fun k e => .inl e
    refine ⟨_, ⟨b, L.map (Dk.alt x.nm (Dk.synced x.f) x.v), ?_, rfl⟩, Dk.Only.setCell (Dk.Only.refl _ _) (.inl fx) _, fun k hk => Dk.foot_alter hx hvk hk⟩
    refine hS.alter (by rw [hf]; exact hG.up) hx _ _ rfl ?_ (by rw [hf]) ((hS.file x hx).1.set_ 1 _) (hR.keep fun k e => hold k fun e2 => ?_) hvk (fun k hk h1 h2 h3 => hold k h2)
    · have e : Dk.cells b m1 = Dk.cells b { m1 with files := Dk.upd x.nm (Dk.synced x.f) m.files } := by
        unfold Dk.cells
        rw [hus, hf]
      rw [← e]
      exact (hold d (fun e => hxd e.symm)).trans hS.disk
    · obtain ⟨cur, fz, h3⟩ := hR.type e
      have h4 := (hS.file x hx).1
      unfold Blk at h4
      rw [e2, h4] at h3
      injection h3 with h3
      injection h3 with _ h3 _
      cases h3
  rw [hxv] at q0
  have S0 : W1.frozen? ⟨x.blk, 1, none⟩ = false ∧ W1.cell? ⟨bf, 0, none⟩ = some (.pointer (some ⟨x.blk, 0, none⟩)) ∧ W1.cell? ⟨x.blk, 0, none⟩ = some (.slice a x.f.data.length c) := ⟨hfz, p1, q0⟩
  have S9 : ∀ v : Value, (W1.setCell ⟨x.blk, 1, none⟩ v).frozen? ⟨x.blk, 1, none⟩ = false ∧ (W1.setCell ⟨x.blk, 1, none⟩ v).cell? ⟨bf, 0, none⟩ = some (.pointer (some ⟨x.blk, 0, none⟩)) ∧ (W1.setCell ⟨x.blk, 1, none⟩ v).cell? ⟨x.blk, 0, none⟩ = some (.slice a x.f.data.length c) := fun v =>
    ⟨by rw [World.frozen?_setCell]; exact hfz, (World.cell?_of_block (Below.heap_setCell W1 ⟨x.blk, 1, none⟩ v bf hbfx)).trans p1, by rw [World.cell?_setCell_other W1 _ _ v (by simp)]; exact q0⟩
  clear hf hcap ho hus h hG k1 h1 hR hxv
  go_enter Try.func73, Try.ntmps73
  go_region_held_law (fun W' => W'.frozen? ⟨x.blk, 1, none⟩ = false ∧ W'.cell? ⟨bf, 0, none⟩ = some (.pointer (some ⟨x.blk, 0, none⟩)) ∧ W'.cell? ⟨x.blk, 0, none⟩ = some (.slice a x.f.data.length c))
    (first
      | with_reducible assumption
      | exact S0
      | exact S9 _)
    (fail)
  all_goals (try go_wp2_with fail)
  all_goals
    go_end0
    exact ⟨rfl, hM.drew⟩
set_option maxRecDepth 100000 in
set_option maxHeartbeats 4000000 in
theorem Dk.sync_any {W : World} {d : Nat} {m : Dk.M} {F : Nat → Prop} (h : Dk.At W d m F) (hG : Dk.Good m) (s : ByteArray) (hs : s.size ≤ 9223372036854775807) :
    Calls Try.prog 49 #[.pointer (some ⟨d, 0, none⟩), .string s] W fun e W' => e = .returned (.int .i64 (Dk.sync m s.data.toList).2) ∧ Dk.Moved W W' d F (Dk.sync m s.data.toList).1 := by
  obtain ⟨b, L, hS, rfl⟩ := h
  obtain ⟨Z, hZ⟩ : ∃ Z, Dk.sync m s.data.toList = Z := ⟨_, rfl⟩
  rw [hZ]
  unfold Dk.sync at hZ
  have hA0 : Dk.At W d m (Dk.foot d b L) := ⟨b, L, hS, rfl⟩
  have hlook := Dk.look_any hS s hs
  by_cases hc : Dk.code m s.data.toList = 0
  · obtain ⟨x, hx1, hx, hx2, hx3⟩ := Dk.found_file hS hc
    rw [hx1, hc] at hlook
    unfold Dk.ptr at hlook
    simp only at hlook
    rw [if_neg (fun h => h hc), ← hx3, ← hx2] at hZ
    have hY : ∃ Y bf, W.alloc (.cells #[.pointer (some ⟨x.blk, 0, none⟩)] 80) = Y ∧ W.heap.size = bf ∧ Blk Y bf 80 #[.pointer (some ⟨x.blk, 0, none⟩)] ∧ Dk.Stand Y d b m L ∧ Below W.heap.size W Y :=
      ⟨_, _, rfl, rfl, Blk.new W _ _, hS.later ((Below.refl _ _).alloc (Nat.le_refl _) _) (Nat.le_refl _), (Below.refl _ _).alloc (Nat.le_refl _) _⟩
    obtain ⟨Y, bf, hYe, hbfe, j3, hSY, hBY⟩ := hY
    have hdo := Dk.sync1 hSY hG hx (bf := bf) j3
    have hacc := Dk.accepted_any hSY hG.left false _ _ _ hdo (Dk.run_enter Try.func73 (by kernel_rfl) rfl)
    rw [hZ] at hacc
    clear hZ hdo hc hx1 hx2 hx3
    go_enter Try.func49, Try.ntmps49
    go_wp2_with (first
      | (go_at_call 47; refine hlook.mono ?_; rintro e w2 ⟨rfl, rfl⟩)
      | (go_at_call 55; refine hacc.mono ?_; rintro e w3 ⟨rfl, hM⟩))
    go_ret
    exact ⟨rfl, Dk.Moved.from hBY hM⟩
  · have hnone := Dk.found_none hS hc
    rw [hnone] at hlook
    unfold Dk.ptr at hlook
    simp only at hlook
    rw [if_pos hc] at hZ
    obtain ⟨e, he⟩ : ∃ e, Dk.code m s.data.toList = e := ⟨_, rfl⟩
    rw [he] at hlook hZ hc
    have u1 : (e != 0) = true := by rw [bne_iff_ne]; exact hc
    subst hZ
    have hsame : Dk.Moved W (W.alloc (.cells #[.pointer none] 80)) d (Dk.foot d b L) m := Dk.Moved.same hA0 ((Below.refl _ _).alloc (Nat.le_refl _) _)
    clear he hc hnone
    go_enter Try.func49, Try.ntmps49
    go_wp2_with (go_at_call 47; refine hlook.mono ?_; rintro e w2 ⟨rfl, rfl⟩)
    go_ret
    exact ⟨rfl, hsame⟩
end Go.Proofs.Ytgbeeghdoilmkaa
