/- Disks: Append, whole. Conditions: each theorem's own hypotheses. -/
import Derived.Test.YtgbeeghdoilmkaaDkQ
import Derived.BigQuiet
namespace Go.Proofs.Ytgbeeghdoilmkaa
open Go.RowKit Go.Maps Go.Sort
set_option linter.unusedVariables false

/-- The file of a name. -/
def Dk.file (m : Dk.M) (nm : List UInt8) : Dk.F := (Dk.get Dk.F.name nm m.files).getD (Dk.empty nm)
theorem Dk.Moved.dn {W W' : World} {d : Nat} {F : Nat → Prop} {m' : Dk.M} (h : Dk.Moved W W' d F m') (n : Nat) : Dk.Moved W (W'.drewN n) d F m' := by
  obtain ⟨F', hA, ho, hf⟩ := h
  exact ⟨F', hA.keep fun _ _ => rfl, ho.trans (.of (below_dn (Below.refl _ _) n)), hf⟩
/-- What Append does and answers. -/
def Dk.append (m : Dk.M) (nm s : List UInt8) : Dk.M × Int :=
  if Dk.code m nm ≠ 0 then (m, Dk.code m nm)
  else if 268435456 - (Dk.file m nm).data.length < s.length then (m, 36)
  else if s ≠ [] ∧ m.cap - Dk.used m.files < s.length then (m, 44)
  else Dk.acc m true (Dk.upd nm (Dk.grow (Dk.file m nm) s) m.files)
theorem Dk.code_zero {m : Dk.M} {nm : List UInt8} (h : Dk.code m nm = 0) : m.off = false ∧ Dk.named nm = true ∧ Dk.get Dk.F.name nm m.files = some (Dk.file m nm) ∧ (Dk.file m nm).name = nm ∧ Dk.file m nm ∈ m.files := by
  unfold Dk.code at h
  cases ho : m.off with
  | true => rw [ho, if_pos rfl] at h; cases h
  | false =>
    rw [ho, if_neg (by decide)] at h
    cases hn : Dk.named nm with
    | false => rw [hn, if_neg (by decide)] at h; cases h
    | true =>
      rw [hn, if_pos rfl] at h
      cases hg : Dk.get Dk.F.name nm m.files with
      | none => rw [hg] at h; cases h
      | some f =>
        have : Dk.file m nm = f := by unfold Dk.file; rw [hg]; rfl
        obtain ⟨h1, h2⟩ := Dk.get_mem hg
        exact ⟨rfl, rfl, by rw [this], this ▸ h2, this ▸ h1⟩
theorem Dk.append_good {m : Dk.M} (hG : Dk.Good m) (nm s : List UInt8) : Dk.Good (Dk.append m nm s).1 := by
  unfold Dk.append
  split
  · exact hG
  · rename_i hc
    obtain ⟨h1, h2, h3, h4, h5⟩ := Dk.code_zero (Decidable.not_not.1 hc)
    obtain ⟨f1, f2, f3⟩ := hG.file _ h5
    split
    · exact hG
    · split
      · exact hG
      · rename_i q1 q2
        have hu := Dk.used_upd (Dk.grow (Dk.file m nm) s) hG.up h3
        have hl : (Dk.grow (Dk.file m nm) s).data.length = (Dk.file m nm).data.length + s.length := by unfold Dk.grow; rw [List.length_append]
        have hs : s.length = 0 ∨ s.length ≤ m.cap - Dk.used m.files := by
          by_cases e : s = []
          · exact .inl (by rw [e]; rfl)
          · exact .inr (by have : ¬ m.cap - Dk.used m.files < s.length := fun h => q2 ⟨e, h⟩
                           omega)
        have := hG.used
        exact Dk.upd_good (f := Dk.grow (Dk.file m nm) s) hG h4 h2 (by omega) (by show (Dk.file m nm).sure ≤ _; omega) true (by omega)
theorem Dk.found_file {W : World} {d b : Nat} {m : Dk.M} {L : List Dk.X} (h : Dk.Stand W d b m L) {nm : List UInt8} (hc : Dk.code m nm = 0) : ∃ x, Dk.found m L nm = some x ∧ x ∈ L ∧ x.nm = nm ∧ x.f = Dk.file m nm := by
  rcases Dk.look_cases h nm with ⟨h1, _⟩ | ⟨_, _, _, x, h4, _, h6, h7, h8⟩
  · exact absurd hc h1
  · refine ⟨x, h4, h6, h7, ?_⟩
    unfold Dk.file
    rw [h8]; rfl
theorem Dk.found_none {W : World} {d b : Nat} {m : Dk.M} {L : List Dk.X} (h : Dk.Stand W d b m L) {nm : List UInt8} (hc : Dk.code m nm ≠ 0) : Dk.found m L nm = none := by
  unfold Dk.found
  rw [if_neg hc]
set_option maxRecDepth 100000 in
set_option maxHeartbeats 4000000 in
theorem Dk.append_any {W : World} {d : Nat} {m : Dk.M} {F : Nat → Prop} (h : Dk.At W d m F) (hG : Dk.Good m) (s t : ByteArray) (hs : s.size ≤ 9223372036854775807) (ht : t.size ≤ 9223372036854775807) :
    Calls Try.prog 48 #[.pointer (some ⟨d, 0, none⟩), .string s, .string t] W fun e W' => e = .returned (.int .i64 (Dk.append m s.data.toList t.data.toList).2) ∧ Dk.Moved W W' d F (Dk.append m s.data.toList t.data.toList).1 := by
  obtain ⟨b, L, hS0, rfl⟩ := h
  obtain ⟨Z, hZ⟩ : ∃ Z, Dk.append m s.data.toList t.data.toList = Z := ⟨_, rfl⟩
  rw [hZ]
  have hB0 : ∀ o1 o2 : Obj, Below W.heap.size W ((W.alloc o1).alloc o2) := fun o1 o2 => ((Below.refl _ _).alloc (Nat.le_refl _) o1).alloc (by simp) o2
  unfold Dk.append at hZ
  have HZ := Lib.hid hZ
  clear hZ
  go_enter Try.func48, Try.ntmps48
  go_upto_region 1 with fail
  obtain ⟨X, hX⟩ : ∃ X, (W.alloc (.cells #[.pointer (some ⟨d, 0, none⟩)] 22)).alloc (.cells #[.string t] 9) = X := ⟨_, rfl⟩
  have hBX : Below W.heap.size W X := by rw [← hX]; exact hB0 _ _
  have k1 : Blk X W.heap.size 22 #[.pointer (some ⟨d, 0, none⟩)] := by rw [← hX]; exact (Blk.new W _ _).alloc _
  have k2 : Blk X (W.heap.size + 1) 9 #[.string t] := by
    rw [← hX]
    have := Blk.new (W.alloc (.cells #[.pointer (some ⟨d, 0, none⟩)] 22)) 9 #[.string t]
    rw [World.size_alloc] at this
    exact this
  rw [hX]
  obtain ⟨bd, hbd⟩ : ∃ bd, W.heap.size = bd := ⟨_, rfl⟩
  obtain ⟨bs, hbs⟩ : ∃ bs, W.heap.size + 1 = bs := ⟨_, rfl⟩
  rw [hbs] at k2 ⊢
  rw [hbd] at k1 ⊢
  have hS := hS0.later hBX (Nat.le_refl _)
  have p1 := k1.cell 0
  have p2 := k2.cell 0
  simp only [List.getElem?_toArray, List.getElem?_cons_zero] at p1 p2
  have hlook := Dk.look_any hS s hs
  have hA0 : Dk.At W d m (Dk.foot d b L) := ⟨b, L, hS0, rfl⟩
  have HX := Lib.hid hX
  have HB := Lib.hid (And.intro hbd hbs)
  clear hX hbd hbs hB0
  by_cases hc : Dk.code m s.data.toList = 0
  · obtain ⟨x, hx1, hx, hx2, hx3⟩ := Dk.found_file hS hc
    rw [hx1, hc] at hlook
    unfold Dk.ptr at hlook
    simp only at hlook
    obtain ⟨n1, n2, n3, n4, n5⟩ := Dk.code_zero hc
    obtain ⟨f1, f2, f3⟩ := hG.file _ n5
    have hZ := HZ.out
    rw [if_neg (fun h => h hc), ← hx3] at hZ
    rw [← hx3] at f2 f3
    obtain ⟨n, hn⟩ : ∃ n, x.f.data.length = n := ⟨_, rfl⟩
    rw [hn, ← Tx.size] at hZ
    rw [hn] at f2 f3
    obtain ⟨r, hr⟩ : ∃ r, 268435456 - n = r := ⟨_, rfl⟩
    have hwr : IntKind.i64.wrap (268435456 - (n : Int)) = (r : Int) := (IntWalk.i64_in _ (by omega)).trans (by omega)
    rw [hr] at hZ
    -- the world behind the look
    have hY : ∃ Y bf, X.alloc (.cells #[.pointer (some ⟨x.blk, 0, none⟩)] 80) = Y ∧ X.heap.size = bf ∧ Blk Y bf 80 #[.pointer (some ⟨x.blk, 0, none⟩)] ∧ Blk Y bd 22 #[.pointer (some ⟨d, 0, none⟩)] ∧ Blk Y bs 9 #[.string t] ∧ Dk.Stand Y d b m L ∧ Below W.heap.size W Y :=
      ⟨_, _, rfl, rfl, Blk.new X _ _, k1.alloc _, k2.alloc _, hS.later ((Below.refl _ _).alloc (Nat.le_refl _) _) (Nat.le_refl _), hBX.alloc hBX.size _⟩
    obtain ⟨Y, bf, hYe, hbfe, j3, j1, j2, hSY, hBY⟩ := hY
    have r1 := j1.cell 0
    have r2 := j2.cell 0
    have r3 := j3.cell 0
    simp only [List.getElem?_toArray, List.getElem?_cons_zero] at r1 r2 r3
    obtain ⟨q0, q1⟩ := hSY.two hx
    obtain ⟨a, c, hxv⟩ := (hSY.file x hx).2.slice
    rw [hxv, hn] at q0
    obtain ⟨c0, c1, c2, c3, c4, c5, c6, c7⟩ := hSY.eight
    have HN := Lib.hid (And.intro hn (And.intro hr hxv))
    have HC := Lib.hid (And.intro hc (And.intro hx2 hx3))
    have hsame : Dk.Moved W Y d (Dk.foot d b L) m := Dk.Moved.same hA0 hBY
    clear hn hr hxv hc hx2 hx3 HZ n1 n2 n3 n4 n5 f1 k1 k2 hS hS0 hBX hx1 c0 c3 c4 c5 c6 c7
    go_upto_region 4 with (go_at_call 47; refine hlook.mono ?_; rintro e w2 ⟨rfl, rfl⟩)
    by_cases g1 : r < t.size
    · have u1 : decide (r < t.size) = true := decide_eq_true g1
      rw [if_pos g1] at hZ
      subst hZ
      clear g1
      go_quiet (fail)
      go_wp2_with fail
      go_ret
      exact ⟨rfl, hsame.dn _⟩
    · have u1 : decide (r < t.size) = false := decide_eq_false g1
      rw [if_neg g1] at hZ
      have hacc : ∀ i : Nat, Calls Try.prog 55 #[.pointer (some ⟨d, 0, none⟩), .bool true, .func (.func 72) #[] #[.pointer (some ⟨bf, 0, none⟩), .pointer (some ⟨bs, 0, none⟩), .pointer (some ⟨bd, 0, none⟩)]] (Y.drewN i)
          fun e W' => e = .returned (.int .i64 (Dk.acc m true (Dk.upd s.data.toList (Dk.grow x.f t.data.toList) m.files)).2) ∧ Dk.Moved W W' d (Dk.foot d b L) (Dk.acc m true (Dk.upd s.data.toList (Dk.grow x.f t.data.toList) m.files)).1 := by
        intro i
        have hSd : Dk.Stand (Y.drewN i) d b m L := hSY.keep fun _ _ => rfl
        have hdo := Dk.append1 hSd hG hx (bf := bf) (bs := bs) (bd := bd) t (by have := HN.out.1; have := HN.out.2.1; omega) j3 j2 j1
        rw [HC.out.2.1] at hdo
        exact (Dk.accepted_any hSd hG.left true _ _ _ hdo (Dk.run_enter Try.func72 (by kernel_rfl) rfl)).mono fun e W' h => ⟨h.1, Dk.Moved.from (below_dn hBY i) h.2⟩
      have hus := hG.used
      have hcp := hG.cap
      obtain ⟨u, hu⟩ : ∃ u, Dk.used m.files = u := ⟨_, rfl⟩
      obtain ⟨v, hv⟩ : ∃ v, m.cap - u = v := ⟨_, rfl⟩
      rw [hu] at hus c2 hZ
      rw [hv] at hZ
      have hwv : IntKind.i64.wrap ((m.cap : Int) - (u : Int)) = (v : Int) := (IntWalk.i64_in _ (by omega)).trans (by omega)
      have HV := Lib.hid (And.intro hu hv)
      clear hu hv hus
      by_cases ht0 : t.data.toList = []
      · have hb : (t.toList == []) = true := by rw [ByteArray.toList_eq, ht0]; rfl
        rw [if_neg (fun h => h.1 ht0)] at hZ
        have HT := Lib.hid ht0
        clear ht0 g1
        go_quiet (fail)
        go_upto_region 6 with fail
        go_quiet (fail)
        rw [hZ] at hacc
        go_wp2_with (go_at_call 55; refine (hacc _).mono ?_; rintro e w3 ⟨rfl, hM⟩)
        go_ret
        exact ⟨rfl, hM⟩
      · have hb : (t.toList == []) = false := by
          rw [ByteArray.toList_eq]
          cases h : t.data.toList with
          | nil => exact absurd h ht0
          | cons _ _ => rfl
        by_cases g2 : v < t.size
        · have u2 : decide (v < t.size) = true := decide_eq_true g2
          rw [if_pos ⟨ht0, g2⟩] at hZ
          subst hZ
          clear g1 g2 ht0
          go_quiet (fail)
          go_upto_region 6 with fail
          go_quiet (fail)
          go_wp2_with fail
          go_ret
          exact ⟨rfl, hsame.dn _⟩
        · have u2 : decide (v < t.size) = false := decide_eq_false g2
          rw [if_neg (fun h => g2 h.2)] at hZ
          clear g1 ht0
          go_quiet (fail)
          go_upto_region 6 with fail
          go_quiet (fail)
          rw [hZ] at hacc
          go_wp2_with (go_at_call 55; refine (hacc _).mono ?_; rintro e w3 ⟨rfl, hM⟩)
          go_ret
          exact ⟨rfl, hM⟩
  · have hnone := Dk.found_none hS hc
    rw [hnone] at hlook
    unfold Dk.ptr at hlook
    simp only at hlook
    have hZ := HZ.out
    rw [if_pos hc] at hZ
    obtain ⟨e, he⟩ : ∃ e, Dk.code m s.data.toList = e := ⟨_, rfl⟩
    rw [he] at hlook hZ hc
    have u1 : (e != 0) = true := by rw [bne_iff_ne]; exact hc
    subst hZ
    have hB2 : Below W.heap.size W (X.alloc (.cells #[.pointer none] 80)) := hBX.alloc hBX.size _
    have hsame : Dk.Moved W (X.alloc (.cells #[.pointer none] 80)) d (Dk.foot d b L) m := Dk.Moved.same hA0 hB2
    clear he hc HZ hnone
    go_wp2_with (go_at_call 47; refine hlook.mono ?_; rintro e w2 ⟨rfl, rfl⟩)
    go_ret
    exact ⟨rfl, hsame⟩
end Go.Proofs.Ytgbeeghdoilmkaa
/- Disks: Sync. Conditions: each theorem's own hypotheses. -/
namespace Go.Proofs.Ytgbeeghdoilmkaa
open Go.RowKit Go.Maps Go.Sort
set_option linter.unusedVariables false

def Dk.synced (f : Dk.F) : Dk.F := ⟨f.name, f.data, f.data.length⟩
/-- What Sync does and answers. -/
def Dk.sync (m : Dk.M) (nm : List UInt8) : Dk.M × Int :=
  if Dk.code m nm ≠ 0 then (m, Dk.code m nm)
  else Dk.acc m false (Dk.upd nm (Dk.synced (Dk.file m nm)) m.files)
theorem Dk.used_same {m : Dk.M} (hG : Dk.Good m) {nm : List UInt8} {f g : Dk.F} (hf : Dk.get Dk.F.name nm m.files = some f) (hl : g.data.length = f.data.length) : Dk.used (Dk.upd nm g m.files) = Dk.used m.files := by
  have := Dk.used_upd g hG.up hf
  omega
theorem Dk.sync_good {m : Dk.M} (hG : Dk.Good m) (nm : List UInt8) : Dk.Good (Dk.sync m nm).1 := by
  unfold Dk.sync
  split
  · exact hG
  · rename_i hc
    obtain ⟨h1, h2, h3, h4, h5⟩ := Dk.code_zero (Decidable.not_not.1 hc)
    obtain ⟨f1, f2, f3⟩ := hG.file _ h5
    have hu := Dk.used_same (g := Dk.synced (Dk.file m nm)) hG h3 rfl
    exact Dk.upd_good (f := Dk.synced (Dk.file m nm)) hG h4 h2 f2 (Nat.le_refl _) false (by rw [hu]; exact hG.used)
theorem Dk.Stand.got {W : World} {d b : Nat} {m : Dk.M} {L : List Dk.X} (h : Dk.Stand W d b m L) (hu : Dk.Up Dk.F.name m.files) {x : Dk.X} (hx : x ∈ L) : Dk.get Dk.F.name x.nm m.files = some x.f := by
  have hg := Dk.get_at (h.up hu) (List.mem_iff_getElem?.1 hx).choose_spec
  have := h.get x.nm
  rw [hg] at this
  exact this.symm
set_option maxRecDepth 100000 in
set_option maxHeartbeats 2000000 in
theorem Dk.sync1 {W : World} {d b : Nat} {m : Dk.M} {L : List Dk.X} (h : Dk.Stand W d b m L) (hG : Dk.Good m) {x : Dk.X} (hx : x ∈ L) {bf : Nat}
    (h1 : Blk W bf 80 #[.pointer (some ⟨x.blk, 0, none⟩)]) :
    Dk.Doing W d b m L 73 #[.pointer (some ⟨bf, 0, none⟩)] (Dk.upd x.nm (Dk.synced x.f) m.files) := by
  intro W1 m1 hS hf hcap ho
  obtain ⟨k1, nf1, l1⟩ := h.box ho h1 (by decide) (by decide) (by decide)
  obtain ⟨q0, q1⟩ := hS.two hx
  have hR := (hS.file x hx).2
  obtain ⟨a, c, hxv⟩ := hR.slice
  have fx : Dk.foot d b L x.blk := .inr (.inr ⟨x, hx, .inl rfl⟩)
  have hxd := hS.lone x.blk (.inr ⟨x, hx, .inl rfl⟩)
  have p1 := k1.cell 0
  simp only [List.getElem?_toArray, List.getElem?_cons_zero] at p1
  have hfz := (hS.file x hx).1.frozen 1
  have hbfx : bf ≠ x.blk := fun e => nf1 (e ▸ fx)
  have hus := Dk.used_same (g := Dk.synced x.f) hG (h.got hG.up hx) rfl
  have hM : Dk.Moved W1 (W1.setCell ⟨x.blk, 1, none⟩ (.int .i64 (x.f.data.length : Nat))) d (Dk.foot d b L) { m1 with files := Dk.upd x.nm (Dk.synced x.f) m.files } := by
    have hold : ∀ k, k ≠ x.blk → (W1.setCell ⟨x.blk, 1, none⟩ (.int .i64 (x.f.data.length : Nat))).heap[k]? = W1.heap[k]? := fun k h1 => Below.heap_setCell W1 ⟨x.blk, 1, none⟩ _ k h1
    have hvk : ∀ k, x.v.ownBlock = some k → x.v.ownBlock = some k ∨ W1.heap.size ≤ k := fun k e => .inl e
    refine ⟨_, ⟨b, L.map (Dk.alt x.nm (Dk.synced x.f) x.v), ?_, rfl⟩, Dk.Only.setCell (Dk.Only.refl _ _) (.inl fx) _, fun k hk => Dk.foot_alter hx hvk hk⟩
    refine hS.alter (by rw [hf]; exact hG.up) hx _ _ rfl ?_ (by rw [hf]) ((hS.file x hx).1.set_ 1 _) (hR.keep fun k e => hold k fun e2 => ?_) hvk (fun k hk h1 h2 h3 => hold k h2)
    · have e : Dk.cells b m1 = Dk.cells b { m1 with files := Dk.upd x.nm (Dk.synced x.f) m.files } := by
        unfold Dk.cells
        rw [hus, hf]
      rw [← e]
      exact (hold d (fun e => hxd e.symm)).trans hS.disk
    · obtain ⟨cur, fz, h3⟩ := hR.type e
      have h4 := (hS.file x hx).1
      unfold Blk at h4
      rw [e2, h4] at h3
      injection h3 with h3
      injection h3 with _ h3 _
      cases h3
  rw [hxv] at q0
  have S0 : W1.frozen? ⟨x.blk, 1, none⟩ = false ∧ W1.cell? ⟨bf, 0, none⟩ = some (.pointer (some ⟨x.blk, 0, none⟩)) ∧ W1.cell? ⟨x.blk, 0, none⟩ = some (.slice a x.f.data.length c) := ⟨hfz, p1, q0⟩
  have S9 : ∀ v : Value, (W1.setCell ⟨x.blk, 1, none⟩ v).frozen? ⟨x.blk, 1, none⟩ = false ∧ (W1.setCell ⟨x.blk, 1, none⟩ v).cell? ⟨bf, 0, none⟩ = some (.pointer (some ⟨x.blk, 0, none⟩)) ∧ (W1.setCell ⟨x.blk, 1, none⟩ v).cell? ⟨x.blk, 0, none⟩ = some (.slice a x.f.data.length c) := fun v =>
    ⟨by rw [World.frozen?_setCell]; exact hfz, (World.cell?_of_block (Below.heap_setCell W1 ⟨x.blk, 1, none⟩ v bf hbfx)).trans p1, by rw [World.cell?_setCell_other W1 _ _ v (by simp)]; exact q0⟩
  clear hf hcap ho hus h hG k1 h1 hR hxv
  go_enter Try.func73, Try.ntmps73
  go_region_held_law (fun W' => W'.frozen? ⟨x.blk, 1, none⟩ = false ∧ W'.cell? ⟨bf, 0, none⟩ = some (.pointer (some ⟨x.blk, 0, none⟩)) ∧ W'.cell? ⟨x.blk, 0, none⟩ = some (.slice a x.f.data.length c))
    (first
      | with_reducible assumption
      | exact S0
      | exact S9 _)
    (fail)
  all_goals (try go_wp2_with fail)
  all_goals
    go_end0
    exact ⟨rfl, hM.drew⟩
set_option maxRecDepth 100000 in
set_option maxHeartbeats 4000000 in
theorem Dk.sync_any {W : World} {d : Nat} {m : Dk.M} {F : Nat → Prop} (h : Dk.At W d m F) (hG : Dk.Good m) (s : ByteArray) (hs : s.size ≤ 9223372036854775807) :
    Calls Try.prog 49 #[.pointer (some ⟨d, 0, none⟩), .string s] W fun e W' => e = .returned (.int .i64 (Dk.sync m s.data.toList).2) ∧ Dk.Moved W W' d F (Dk.sync m s.data.toList).1 := by
  obtain ⟨b, L, hS, rfl⟩ := h
  obtain ⟨Z, hZ⟩ : ∃ Z, Dk.sync m s.data.toList = Z := ⟨_, rfl⟩
  rw [hZ]
  unfold Dk.sync at hZ
  have hA0 : Dk.At W d m (Dk.foot d b L) := ⟨b, L, hS, rfl⟩
  have hlook := Dk.look_any hS s hs
  by_cases hc : Dk.code m s.data.toList = 0
  · obtain ⟨x, hx1, hx, hx2, hx3⟩ := Dk.found_file hS hc
    rw [hx1, hc] at hlook
    unfold Dk.ptr at hlook
    simp only at hlook
    rw [if_neg (fun h => h hc), ← hx3, ← hx2] at hZ
    have hY : ∃ Y bf, W.alloc (.cells #[.pointer (some ⟨x.blk, 0, none⟩)] 80) = Y ∧ W.heap.size = bf ∧ Blk Y bf 80 #[.pointer (some ⟨x.blk, 0, none⟩)] ∧ Dk.Stand Y d b m L ∧ Below W.heap.size W Y :=
      ⟨_, _, rfl, rfl, Blk.new W _ _, hS.later ((Below.refl _ _).alloc (Nat.le_refl _) _) (Nat.le_refl _), (Below.refl _ _).alloc (Nat.le_refl _) _⟩
    obtain ⟨Y, bf, hYe, hbfe, j3, hSY, hBY⟩ := hY
    have hdo := Dk.sync1 hSY hG hx (bf := bf) j3
    have hacc := Dk.accepted_any hSY hG.left false _ _ _ hdo (Dk.run_enter Try.func73 (by kernel_rfl) rfl)
    rw [hZ] at hacc
    clear hZ hdo hc hx1 hx2 hx3
    go_enter Try.func49, Try.ntmps49
    go_wp2_with (first
      | (go_at_call 47; refine hlook.mono ?_; rintro e w2 ⟨rfl, rfl⟩)
      | (go_at_call 55; refine hacc.mono ?_; rintro e w3 ⟨rfl, hM⟩))
    go_ret
    exact ⟨rfl, Dk.Moved.from hBY hM⟩
  · have hnone := Dk.found_none hS hc
    rw [hnone] at hlook
    unfold Dk.ptr at hlook
    simp only at hlook
    rw [if_pos hc] at hZ
    obtain ⟨e, he⟩ : ∃ e, Dk.code m s.data.toList = e := ⟨_, rfl⟩
    rw [he] at hlook hZ hc
    have u1 : (e != 0) = true := by rw [bne_iff_ne]; exact hc
    subst hZ
    have hsame : Dk.Moved W (W.alloc (.cells #[.pointer none] 80)) d (Dk.foot d b L) m := Dk.Moved.same hA0 ((Below.refl _ _).alloc (Nat.le_refl _) _)
    clear he hc hnone
    go_enter Try.func49, Try.ntmps49
    go_wp2_with (go_at_call 47; refine hlook.mono ?_; rintro e w2 ⟨rfl, rfl⟩)
    go_ret
    exact ⟨rfl, hsame⟩
end Go.Proofs.Ytgbeeghdoilmkaa
