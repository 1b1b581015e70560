/- Disks: Append, whole. Conditions: each theorem's own hypotheses. -/
import Derived.Test.YtifkhjihgnnpfaaGreatDoorDkQ
import Derived.BigQuiet
namespace Go.Proofs.YtifkhjihgnnpfaaGreatDoor
open Go.RowKit Go.Maps Go.Sort
set_option linter.unusedVariables false

/-- The file of a name. -/
def Dk.file (m : Dk.M) (nm : List UInt8) : Dk.F := (Dk.get Dk.F.name nm m.files).getD (Dk.empty nm)
theorem Dk.Moved.dn {W W' : World} {d : Nat} {F : Nat → Prop} {m' : Dk.M} (h : Dk.Moved W W' d F m') (n : Nat) : Dk.Moved W (W'.drewN n) d F m' := by
  obtain ⟨F', hA, ho, hf⟩ := h
  exact ⟨F', hA.keep fun _ _ => rfl, ho.trans (.of (below_dn (Below.refl _ _) n)), hf⟩
/-- What Append does and answers. -/
def Dk.append (m : Dk.M) (nm s : List UInt8) : Dk.M × Int :=
  if Dk.code m nm ≠ 0 then (m, Dk.code m nm)
  else if 268435456 - (Dk.file m nm).data.length < s.length then (m, 36)
  else if s ≠ [] ∧ m.cap - Dk.used m.files < s.length then (m, 44)
  else Dk.acc m true (Dk.upd nm (Dk.grow (Dk.file m nm) s) m.files)
theorem Dk.code_zero {m : Dk.M} {nm : List UInt8} (h : Dk.code m nm = 0) : m.off = false ∧ Dk.named nm = true ∧ Dk.get Dk.F.name nm m.files = some (Dk.file m nm) ∧ (Dk.file m nm).name = nm ∧ Dk.file m nm ∈ m.files := by
  unfold Dk.code at h
  cases ho : m.off with
  | true => rw [ho, if_pos rfl] at h; cases h
  | false =>
    rw [ho, if_neg (by decide)] at h
    cases hn : Dk.named nm with
    | false => rw [hn, if_neg (by decide)] at h; cases h
    | true =>
      rw [hn, if_pos rfl] at h
      cases hg : Dk.get Dk.F.name nm m.files with
      | none => rw [hg] at h; cases h
      | some f =>
        have : Dk.file m nm = f := by unfold Dk.file; rw [hg]; rfl
        obtain ⟨h1, h2⟩ := Dk.get_mem hg
        exact ⟨rfl, rfl, by rw [this], this ▸ h2, this ▸ h1⟩
theorem Dk.append_good {m : Dk.M} (hG : Dk.Good m) (nm s : List UInt8) : Dk.Good (Dk.append m nm s).1 := by
  unfold Dk.append
  split
  · exact hG
  · rename_i hc
    obtain ⟨h1, h2, h3, h4, h5⟩ := Dk.code_zero (Decidable.not_not.1 hc)
    obtain ⟨f1, f2, f3⟩ := hG.file _ h5
    split
    · exact hG
    · split
      · exact hG
      · rename_i q1 q2
        have hu := Dk.used_upd (Dk.grow (Dk.file m nm) s) hG.up h3
        have hl : (Dk.grow (Dk.file m nm) s).data.length = (Dk.file m nm).data.length + s.length := by unfold Dk.grow; rw [List.length_append]
        have hs : s.length = 0 ∨ s.length ≤ m.cap - Dk.used m.files := by
          by_cases e : s = []
          · exact .inl (by rw [e]; rfl)
          · exact .inr (by have : ¬ m.cap - Dk.used m.files < s.length := fun h => q2 ⟨e, h⟩
                           omega)
        have := hG.used
        exact Dk.upd_good (f := Dk.grow (Dk.file m nm) s) hG h4 h2 (by omega) (by show (Dk.file m nm).sure ≤ _; omega) true (by omega)
theorem Dk.found_file {W : World} {d b : Nat} {m : Dk.M} {L : List Dk.X} (h : Dk.Stand W d b m L) {nm : List UInt8} (hc : Dk.code m nm = 0) : ∃ x, Dk.found m L nm = some x ∧ x ∈ L ∧ x.nm = nm ∧ x.f = Dk.file m nm := by
  rcases Dk.look_cases h nm with ⟨h1, _⟩ | ⟨_, _, _, x, h4, _, h6, h7, h8⟩
  · exact absurd hc h1
  · refine ⟨x, h4, h6, h7, ?_⟩
    unfold Dk.file
    rw [h8]; rfl
theorem Dk.found_none {W : World} {d b : Nat} {m : Dk.M} {L : List Dk.X} (h : Dk.Stand W d b m L) {nm : List UInt8} (hc : Dk.code m nm ≠ 0) : Dk.found m L nm = none := by
  unfold Dk.found
  rw [if_neg hc]
set_option maxRecDepth 100000 in
set_option maxHeartbeats 4000000 in
theorem Dk.append_any {W : World} {d : Nat} {m : Dk.M} {F : Nat → Prop} (h : Dk.At W d m F) (hG : Dk.Good m) (s t : ByteArray) (hs : s.size ≤ 9223372036854775807) (ht : t.size ≤ 9223372036854775807) :
    Calls Tryz.prog 39 #[.pointer (some ⟨d, 0, none⟩), .string s, .string t] W fun e W' => e = .returned (.int .i64 (Dk.append m s.data.toList t.data.toList).2) ∧ Dk.Moved W W' d F (Dk.append m s.data.toList t.data.toList).1 := by
  obtain ⟨b, L, hS0, rfl⟩ := h
  obtain ⟨Z, hZ⟩ : ∃ Z, Dk.append m s.data.toList t.data.toList = Z := ⟨_, rfl⟩
  rw [hZ]
  have hB0 : ∀ o1 o2 : Obj, Below W.heap.size W ((W.alloc o1).alloc o2) := fun o1 o2 => ((Below.refl _ _).alloc (Nat.le_refl _) o1).alloc (by simp) o2
  unfold Dk.append at hZ
  have HZ := Lib.hid hZ
  clear hZ
  go_enter Tryz.func39, Tryz.ntmps39
  go_upto_region 1 with fail
  obtain ⟨X, hX⟩ : ∃ X, (W.alloc (.cells #[.pointer (some ⟨d, 0, none⟩)] 24)).alloc (.cells #[.string t] 9) = X := ⟨_, rfl⟩
  have hBX : Below W.heap.size W X := by rw [← hX]; exact hB0 _ _
  have k1 : Blk X W.heap.size 24 #[.pointer (some ⟨d, 0, none⟩)] := by rw [← hX]; exact (Blk.new W _ _).alloc _
  have k2 : Blk X (W.heap.size + 1) 9 #[.string t] := by
    rw [← hX]
    have := Blk.new (W.alloc (.cells #[.pointer (some ⟨d, 0, none⟩)] 24)) 9 #[.string t]
    rw [World.size_alloc] at this
    exact this
  rw [hX]
  obtain ⟨bd, hbd⟩ : ∃ bd, W.heap.size = bd := ⟨_, rfl⟩
  obtain ⟨bs, hbs⟩ : ∃ bs, W.heap.size + 1 = bs := ⟨_, rfl⟩
  rw [hbs] at k2 ⊢
  rw [hbd] at k1 ⊢
  have hS := hS0.later hBX (Nat.le_refl _)
  have p1 := k1.cell 0
  have p2 := k2.cell 0
  simp only [List.getElem?_toArray, List.getElem?_cons_zero] at p1 p2
  have hlook := Dk.look_any hS s hs
  have hA0 : Dk.At W d m (Dk.foot d b L) := ⟨b, L, hS0, rfl⟩
  have HX := Lib.hid hX
  have HB := Lib.hid (And.intro hbd hbs)
  clear hX hbd hbs hB0
  by_cases hc : Dk.code m s.data.toList = 0
  · obtain ⟨x, hx1, hx, hx2, hx3⟩ := Dk.found_file hS hc
    rw [hx1, hc] at hlook
    unfold Dk.ptr at hlook
    simp only at hlook
    obtain ⟨n1, n2, n3, n4, n5⟩ := Dk.code_zero hc
    obtain ⟨f1, f2, f3⟩ := hG.file _ n5
    have hZ := HZ.out
    rw [if_neg (fun h => h hc), ← hx3] at hZ
    rw [← hx3] at f2 f3
    obtain ⟨n, hn⟩ : ∃ n, x.f.data.length = n := ⟨_, rfl⟩
    rw [hn, ← Tx.size] at hZ
    rw [hn] at f2 f3
    obtain ⟨r, hr⟩ : ∃ r, 268435456 - n = r := ⟨_, rfl⟩
    have hwr : IntKind.i64.wrap (268435456 - (n : Int)) = (r : Int) := (IntWalk.i64_in _ (by omega)).trans (by omega)
    rw [hr] at hZ
    -- the world behind the look
    have hY : ∃ Y bf, X.alloc (.cells #[.pointer (some ⟨x.blk, 0, none⟩)] 87) = Y ∧ X.heap.size = bf ∧ Blk Y bf 87 #[.pointer (some ⟨x.blk, 0, none⟩)] ∧ Blk Y bd 24 #[.pointer (some ⟨d, 0, none⟩)] ∧ Blk Y bs 9 #[.string t] ∧ Dk.Stand Y d b m L ∧ Below W.heap.size W Y :=
      ⟨_, _, rfl, rfl, Blk.new X _ _, k1.alloc _, k2.alloc _, hS.later ((Below.refl _ _).alloc (Nat.le_refl _) _) (Nat.le_refl _), hBX.alloc hBX.size _⟩
    obtain ⟨Y, bf, hYe, hbfe, j3, j1, j2, hSY, hBY⟩ := hY
    have r1 := j1.cell 0
    have r2 := j2.cell 0
    have r3 := j3.cell 0
    simp only [List.getElem?_toArray, List.getElem?_cons_zero] at r1 r2 r3
    obtain ⟨q0, q1⟩ := hSY.two hx
    obtain ⟨a, c, hxv⟩ := (hSY.file x hx).2.slice
    rw [hxv, hn] at q0
    obtain ⟨c0, c1, c2, c3, c4, c5, c6, c7⟩ := hSY.eight
    have HN := Lib.hid (And.intro hn (And.intro hr hxv))
    have HC := Lib.hid (And.intro hc (And.intro hx2 hx3))
    have hsame : Dk.Moved W Y d (Dk.foot d b L) m := Dk.Moved.same hA0 hBY
    clear hn hr hxv hc hx2 hx3 HZ n1 n2 n3 n4 n5 f1 k1 k2 hS hS0 hBX hx1 c0 c3 c4 c5 c6 c7
    go_upto_region 4 with (go_at_call 61; refine hlook.mono ?_; rintro e w2 ⟨rfl, rfl⟩)
    by_cases g1 : r < t.size
    · have u1 : decide (r < t.size) = true := decide_eq_true g1
      rw [if_pos g1] at hZ
      subst hZ
      clear g1
      go_quiet (fail)
      go_wp2_with fail
      go_ret
      exact ⟨rfl, hsame.dn _⟩
    · have u1 : decide (r < t.size) = false := decide_eq_false g1
      rw [if_neg g1] at hZ
      have hacc : ∀ i : Nat, Calls Tryz.prog 62 #[.pointer (some ⟨d, 0, none⟩), .bool true, .func (.func 68) #[] #[.pointer (some ⟨bf, 0, none⟩), .pointer (some ⟨bs, 0, none⟩), .pointer (some ⟨bd, 0, none⟩)]] (Y.drewN i)
          fun e W' => e = .returned (.int .i64 (Dk.acc m true (Dk.upd s.data.toList (Dk.grow x.f t.data.toList) m.files)).2) ∧ Dk.Moved W W' d (Dk.foot d b L) (Dk.acc m true (Dk.upd s.data.toList (Dk.grow x.f t.data.toList) m.files)).1 := by
        intro i
        have hSd : Dk.Stand (Y.drewN i) d b m L := hSY.keep fun _ _ => rfl
        have hdo := Dk.append1 hSd hG hx (bf := bf) (bs := bs) (bd := bd) t (by have := HN.out.1; have := HN.out.2.1; omega) j3 j2 j1
        rw [HC.out.2.1] at hdo
        exact (Dk.accepted_any hSd hG.left true _ _ _ hdo (Dk.run_enter Tryz.func68 (by kernel_rfl) rfl)).mono fun e W' h => ⟨h.1, Dk.Moved.from (below_dn hBY i) h.2⟩
      have hus := hG.used
      have hcp := hG.cap
      obtain ⟨u, hu⟩ : ∃ u, Dk.used m.files = u := ⟨_, rfl⟩
      obtain ⟨v, hv⟩ : ∃ v, m.cap - u = v := ⟨_, rfl⟩
      rw [hu] at hus c2 hZ
      rw [hv] at hZ
      have hwv : IntKind.i64.wrap ((m.cap : Int) - (u : Int)) = (v : Int) := (IntWalk.i64_in _ (by omega)).trans (by omega)
      have HV := Lib.hid (And.intro hu hv)
      clear hu hv hus
      by_cases ht0 : t.data.toList = []
      · have hb : (t.toList == []) = true := by rw [ByteArray.toList_eq, ht0]; rfl
        rw [if_neg (fun h => h.1 ht0)] at hZ
        have HT := Lib.hid ht0
        clear ht0 g1
        go_quiet (fail)
        go_upto_region 6 with fail
        go_quiet (fail)
        rw [hZ] at hacc
        go_wp2_with (go_at_call 62; refine (hacc _).mono ?_; rintro e w3 ⟨rfl, hM⟩)
        go_ret
        exact ⟨rfl, hM⟩
      · have hb : (t.toList == []) = false := by
          rw [ByteArray.toList_eq]
          cases h : t.data.toList with
          | nil => exact absurd h ht0
          | cons _ _ => rfl
        by_cases g2 : v < t.size
        · have u2 : decide (v < t.size) = true := decide_eq_true g2
          rw [if_pos ⟨ht0, g2⟩] at hZ
          subst hZ
          clear g1 g2 ht0
          go_quiet (fail)
          go_upto_region 6 with fail
          go_quiet (fail)
          go_wp2_with fail
          go_ret
          exact ⟨rfl, hsame.dn _⟩
        · have u2 : decide (v < t.size) = false := decide_eq_false g2
          rw [if_neg (fun h => g2 h.2)] at hZ
          clear g1 ht0
          go_quiet (fail)
          go_upto_region 6 with fail
          go_quiet (fail)
          rw [hZ] at hacc
          go_wp2_with (go_at_call 62; refine (hacc _).mono ?_; rintro e w3 ⟨rfl, hM⟩)
          go_ret
          exact ⟨rfl, hM⟩
  · have hnone := Dk.found_none hS hc
    rw [hnone] at hlook
    unfold Dk.ptr at hlook
    simp only at hlook
    have hZ := HZ.out
    rw [if_pos hc] at hZ
    obtain ⟨e, he⟩ : ∃ e, Dk.code m s.data.toList = e := ⟨_, rfl⟩
    rw [he] at hlook hZ hc
    have u1 : (e != 0) = true := by rw [bne_iff_ne]; exact hc
    subst hZ
    have hB2 : Below W.heap.size W (X.alloc (.cells #[.pointer none] 87)) := hBX.alloc hBX.size _
    have hsame : Dk.Moved W (X.alloc (.cells #[.pointer none] 87)) d (Dk.foot d b L) m := Dk.Moved.same hA0 hB2
    clear he hc HZ hnone
    go_wp2_with (go_at_call 61; refine hlook.mono ?_; rintro e w2 ⟨rfl, rfl⟩)
    go_ret
    exact ⟨rfl, hsame⟩
end Go.Proofs.YtifkhjihgnnpfaaGreatDoor
/- Disks: Sync. Conditions: each theorem's own hypotheses. -/
namespace Go.Proofs.YtifkhjihgnnpfaaGreatDoor
open Go.RowKit Go.Maps Go.Sort
set_option linter.unusedVariables false

def Dk.synced (f : Dk.F) : Dk.F := ⟨f.name, f.data, f.data.length⟩
/-- What Sync does and answers. -/
def Dk.sync (m : Dk.M) (nm : List UInt8) : Dk.M × Int :=
  if Dk.code m nm ≠ 0 then (m, Dk.code m nm)
  else Dk.acc m false (Dk.upd nm (Dk.synced (Dk.file m nm)) m.files)
theorem Dk.used_same {m : Dk.M} (hG : Dk.Good m) {nm : List UInt8} {f g : Dk.F} (hf : Dk.get Dk.F.name nm m.files = some f) (hl : g.data.length = f.data.length) : Dk.used (Dk.upd nm g m.files) = Dk.used m.files := by
  have := Dk.used_upd g hG.up hf
  omega
theorem Dk.sync_good {m : Dk.M} (hG : Dk.Good m) (nm : List UInt8) : Dk.Good (Dk.sync m nm).1 := by
  unfold Dk.sync
  split
  · exact hG
  · rename_i hc
    obtain ⟨h1, h2, h3, h4, h5⟩ := Dk.code_zero (Decidable.not_not.1 hc)
    obtain ⟨f1, f2, f3⟩ := hG.file _ h5
    have hu := Dk.used_same (g := Dk.synced (Dk.file m nm)) hG h3 rfl
    exact Dk.upd_good (f := Dk.synced (Dk.file m nm)) hG h4 h2 f2 (Nat.le_refl _) false (by rw [hu]; exact hG.used)
theorem Dk.Stand.got {W : World} {d b : Nat} {m : Dk.M} {L : List Dk.X} (h : Dk.Stand W d b m L) (hu : Dk.Up Dk.F.name m.files) {x : Dk.X} (hx : x ∈ L) : Dk.get Dk.F.name x.nm m.files = some x.f := by
  have hg := Dk.get_at (h.up hu) (List.mem_iff_getElem?.1 hx).choose_spec
  have := h.get x.nm
  rw [hg] at this
  exact this.symm
set_option maxRecDepth 100000 in
set_option maxHeartbeats 2000000 in
theorem Dk.sync1 {W : World} {d b : Nat} {m : Dk.M} {L : List Dk.X} (h : Dk.Stand W d b m L) (hG : Dk.Good m) {x : Dk.X} (hx : x ∈ L) {bf : Nat}
    (h1 : Blk W bf 87 #[.pointer (some ⟨x.blk, 0, none⟩)]) :
    Dk.Doing W d b m L 100 #[.pointer (some ⟨bf, 0, none⟩)] (Dk.upd x.nm (Dk.synced x.f) m.files) := by
  intro W1 m1 hS hf hcap ho
  obtain ⟨k1, nf1, l1⟩ := h.box ho h1 (by decide) (by decide) (by decide)
  obtain ⟨q0, q1⟩ := hS.two hx
  have hR := (hS.file x hx).2
  obtain ⟨a, c, hxv⟩ := hR.slice
  have fx : Dk.foot d b L x.blk := .inr (.inr ⟨x, hx, .inl rfl⟩)
  have hxd := hS.lone x.blk (.inr ⟨x, hx, .inl rfl⟩)
  have p1 := k1.cell 0
  simp only [List.getElem?_toArray, List.getElem?_cons_zero] at p1
  have hfz := (hS.file x hx).1.frozen 1
  have hbfx : bf ≠ x.blk := fun e => nf1 (e ▸ fx)
  have hus := Dk.used_same (g := Dk.synced x.f) hG (h.got hG.up hx) rfl
  have hM : Dk.Moved W1 (W1.setCell ⟨x.blk, 1, none⟩ (.int .i64 (x.f.data.length : Nat))) d (Dk.foot d b L) { m1 with files := Dk.upd x.nm (Dk.synced x.f) m.files } := by
    have hold : ∀ k, k ≠ x.blk → (W1.setCell ⟨x.blk, 1, none⟩ (.int .i64 (x.f.data.length : Nat))).heap[k]? = W1.heap[k]? := fun k h1 => Below.heap_setCell W1 ⟨x.blk, 1, none⟩ _ k h1
    have hvk : ∀ k, x.v.ownBlock = some k → x.v.ownBlock = some k ∨ W1.heap.size ≤ k := fun k e => .inl e
    refine ⟨_, ⟨b, L.map (Dk.alt x.nm (Dk.synced x.f) x.v), ?_, rfl⟩, Dk.Only.setCell (Dk.Only.refl _ _) (.inl fx) _, fun k hk => Dk.foot_alter hx hvk hk⟩
    refine hS.alter (by rw [hf]; exact hG.up) hx _ _ rfl ?_ (by rw [hf]) ((hS.file x hx).1.set_ 1 _) (hR.keep fun k e => hold k fun e2 => ?_) hvk (fun k hk h1 h2 h3 => hold k h2)
    · have e : Dk.cells b m1 = Dk.cells b { m1 with files := Dk.upd x.nm (Dk.synced x.f) m.files } := by
        unfold Dk.cells
        rw [hus, hf]
      rw [← e]
      exact (hold d (fun e => hxd e.symm)).trans hS.disk
    · obtain ⟨cur, fz, h3⟩ := hR.type e
      have h4 := (hS.file x hx).1
      unfold Blk at h4
      rw [e2, h4] at h3
      injection h3 with h3
      injection h3 with _ h3 _
      cases h3
  rw [hxv] at q0
  have S0 : W1.frozen? ⟨x.blk, 1, none⟩ = false ∧ W1.cell? ⟨bf, 0, none⟩ = some (.pointer (some ⟨x.blk, 0, none⟩)) ∧ W1.cell? ⟨x.blk, 0, none⟩ = some (.slice a x.f.data.length c) := ⟨hfz, p1, q0⟩
  have S9 : ∀ v : Value, (W1.setCell ⟨x.blk, 1, none⟩ v).frozen? ⟨x.blk, 1, none⟩ = false ∧ (W1.setCell ⟨x.blk, 1, none⟩ v).cell? ⟨bf, 0, none⟩ = some (.pointer (some ⟨x.blk, 0, none⟩)) ∧ (W1.setCell ⟨x.blk, 1, none⟩ v).cell? ⟨x.blk, 0, none⟩ = some (.slice a x.f.data.length c) := fun v =>
    ⟨by rw [World.frozen?_setCell]; exact hfz, (World.cell?_of_block (Below.heap_setCell W1 ⟨x.blk, 1, none⟩ v bf hbfx)).trans p1, by rw [World.cell?_setCell_other W1 _ _ v (by simp)]; exact q0⟩
  clear hf hcap ho hus h hG k1 h1 hR hxv
  go_enter Tryz.func100, Tryz.ntmps100
  go_region_held_law (fun W' => W'.frozen? ⟨x.blk, 1, none⟩ = false ∧ W'.cell? ⟨bf, 0, none⟩ = some (.pointer (some ⟨x.blk, 0, none⟩)) ∧ W'.cell? ⟨x.blk, 0, none⟩ = some (.slice a x.f.data.length c))
    (first
      | with_reducible assumption
      | exact S0
      | exact S9 _)
    (fail)
  all_goals (try go_wp2_with fail)
  all_goals
    go_end0
    exact ⟨rfl, hM.drew⟩
set_option maxRecDepth 100000 in
set_option maxHeartbeats 4000000 in
theorem Dk.sync_any {W : World} {d : Nat} {m : Dk.M} {F : Nat → Prop} (h : Dk.At W d m F) (hG : Dk.Good m) (s : ByteArray) (hs : s.size ≤ 9223372036854775807) :
    Calls Tryz.prog 77 #[.pointer (some ⟨d, 0, none⟩), .string s] W fun e W' => e = .returned (.int .i64 (Dk.sync m s.data.toList).2) ∧ Dk.Moved W W' d F (Dk.sync m s.data.toList).1 := by
  obtain ⟨b, L, hS, rfl⟩ := h
  obtain ⟨Z, hZ⟩ : ∃ Z, Dk.sync m s.data.toList = Z := ⟨_, rfl⟩
  rw [hZ]
  unfold Dk.sync at hZ
  have hA0 : Dk.At W d m (Dk.foot d b L) := ⟨b, L, hS, rfl⟩
  have hlook := Dk.look_any hS s hs
  by_cases hc : Dk.code m s.data.toList = 0
  · obtain ⟨x, hx1, hx, hx2, hx3⟩ := Dk.found_file hS hc
    rw [hx1, hc] at hlook
    unfold Dk.ptr at hlook
    simp only at hlook
    rw [if_neg (fun h => h hc), ← hx3, ← hx2] at hZ
    have hY : ∃ Y bf, W.alloc (.cells #[.pointer (some ⟨x.blk, 0, none⟩)] 87) = Y ∧ W.heap.size = bf ∧ Blk Y bf 87 #[.pointer (some ⟨x.blk, 0, none⟩)] ∧ Dk.Stand Y d b m L ∧ Below W.heap.size W Y :=
      ⟨_, _, rfl, rfl, Blk.new W _ _, hS.later ((Below.refl _ _).alloc (Nat.le_refl _) _) (Nat.le_refl _), (Below.refl _ _).alloc (Nat.le_refl _) _⟩
    obtain ⟨Y, bf, hYe, hbfe, j3, hSY, hBY⟩ := hY
    have hdo := Dk.sync1 hSY hG hx (bf := bf) j3
    have hacc := Dk.accepted_any hSY hG.left false _ _ _ hdo (Dk.run_enter Tryz.func100 (by kernel_rfl) rfl)
    rw [hZ] at hacc
    clear hZ hdo hc hx1 hx2 hx3
    go_enter Tryz.func77, Tryz.ntmps77
    go_wp2_with (first
      | (go_at_call 61; refine hlook.mono ?_; rintro e w2 ⟨rfl, rfl⟩)
      | (go_at_call 62; refine hacc.mono ?_; rintro e w3 ⟨rfl, hM⟩))
    go_ret
    exact ⟨rfl, Dk.Moved.from hBY hM⟩
  · have hnone := Dk.found_none hS hc
    rw [hnone] at hlook
    unfold Dk.ptr at hlook
    simp only at hlook
    rw [if_pos hc] at hZ
    obtain ⟨e, he⟩ : ∃ e, Dk.code m s.data.toList = e := ⟨_, rfl⟩
    rw [he] at hlook hZ hc
    have u1 : (e != 0) = true := by rw [bne_iff_ne]; exact hc
    subst hZ
    have hsame : Dk.Moved W (W.alloc (.cells #[.pointer none] 87)) d (Dk.foot d b L) m := Dk.Moved.same hA0 ((Below.refl _ _).alloc (Nat.le_refl _) _)
    clear he hc hnone
    go_enter Tryz.func77, Tryz.ntmps77
    go_wp2_with (go_at_call 61; refine hlook.mono ?_; rintro e w2 ⟨rfl, rfl⟩)
    go_ret
    exact ⟨rfl, hsame⟩
end Go.Proofs.YtifkhjihgnnpfaaGreatDoor
/- Disks: Cut. Conditions: each theorem's own hypotheses. -/
namespace Go.Proofs.YtifkhjihgnnpfaaGreatDoor
open Go.RowKit Go.Maps Go.Sort
set_option linter.unusedVariables false

def Dk.cutF (f : Dk.F) (n : Nat) : Dk.F := ⟨f.name, f.data.take n, min f.sure n⟩
/-- What Cut does and answers. -/
def Dk.cut (m : Dk.M) (nm : List UInt8) (n : Int) : Dk.M × Int :=
  if Dk.code m nm ≠ 0 then (m, Dk.code m nm)
  else if n < 0 ∨ (Dk.file m nm).data.length < n then (m, 13)
  else Dk.acc m m.done (Dk.upd nm (Dk.cutF (Dk.file m nm) n.toNat) m.files)
theorem Dk.cut_good {m : Dk.M} (hG : Dk.Good m) (nm : List UInt8) (n : Int) : Dk.Good (Dk.cut m nm n).1 := by
  unfold Dk.cut
  split
  · exact hG
  · rename_i hc
    obtain ⟨h1, h2, h3, h4, h5⟩ := Dk.code_zero (Decidable.not_not.1 hc)
    obtain ⟨f1, f2, f3⟩ := hG.file _ h5
    split
    · exact hG
    · rename_i hn
      have hu := Dk.used_upd (Dk.cutF (Dk.file m nm) n.toNat) hG.up h3
      have hl : (Dk.cutF (Dk.file m nm) n.toNat).data.length = n.toNat := by
        unfold Dk.cutF
        show ((Dk.file m nm).data.take n.toNat).length = _
        rw [List.length_take]; omega
      have := hG.used
      exact Dk.upd_good (f := Dk.cutF (Dk.file m nm) n.toNat) hG h4 h2 (by omega) (by rw [hl]; exact Nat.min_le_right _ _) m.done (by omega)
theorem Dk.Row.cut {W : World} {a : Option Addr} {k c : Nat} {l : List UInt8} (h : Dk.Row W (.slice a k c) l) (n : Nat) (hn : n ≤ l.length) : Dk.Row W (.slice a n c) (l.take n) := by
  rcases h with ⟨h1, rfl⟩ | ⟨g, cap, cur, fz, h1, hg, hf, h2, h3, h4, h5⟩
  · have hn0 : n = 0 := by simpa using hn
    subst hn0
    injection h1 with e1 e2 e3
    exact .inl ⟨by rw [e1, e3], rfl⟩
  · injection h1 with e1 e2 e3
    have hl : (l.take n).length = n := by rw [List.length_take]; omega
    refine .inr ⟨g, cap, cur, fz, by rw [e1, e3, hl], hg, hf, by rw [hl]; omega, h3, h4, ?_⟩
    rw [hl]
    have h6 := congrArg (List.take n) h5
    rw [List.take_take, Nat.min_eq_left hn] at h6
    rw [h6]
    unfold Lib.byteCells
    rw [List.map_take]
theorem Dk.own_len (a : Option Addr) (n m c : Nat) : (Value.slice a n c).ownBlock = (Value.slice a m c).ownBlock := by cases a <;> rfl
theorem Dk.four_set {w : World} {xb bf bn : Nat} {P Q : Value} (h : w.frozen? ⟨xb, 0, none⟩ = false ∧ w.frozen? ⟨xb, 1, none⟩ = false ∧ w.cell? ⟨bf, 0, none⟩ = some P ∧ w.cell? ⟨bn, 0, none⟩ = some Q) (h1 : bf ≠ xb) (h2 : bn ≠ xb) (i : Nat) (v : Value) :
    (w.setCell ⟨xb, i, none⟩ v).frozen? ⟨xb, 0, none⟩ = false ∧ (w.setCell ⟨xb, i, none⟩ v).frozen? ⟨xb, 1, none⟩ = false ∧ (w.setCell ⟨xb, i, none⟩ v).cell? ⟨bf, 0, none⟩ = some P ∧ (w.setCell ⟨xb, i, none⟩ v).cell? ⟨bn, 0, none⟩ = some Q :=
  ⟨by rw [World.frozen?_setCell]; exact h.1, by rw [World.frozen?_setCell]; exact h.2.1, (World.cell?_of_block (Below.heap_setCell w ⟨xb, i, none⟩ v bf h1)).trans h.2.2.1, (World.cell?_of_block (Below.heap_setCell w ⟨xb, i, none⟩ v bn h2)).trans h.2.2.2⟩
def Dk.o6 : Op := Op.load 3 (Operand.tmp 5)
attribute [go_sem] Dk.o6
def Dk.o22 : Op := Op.load 84 (Operand.tmp 21)
attribute [go_sem] Dk.o22
def Dk.o28 : Op := Op.load 3 (Operand.tmp 27)
attribute [go_sem] Dk.o28
set_option maxRecDepth 100000 in
set_option maxHeartbeats 4000000 in
theorem Dk.cut1 {W : World} {d b : Nat} {m : Dk.M} {L : List Dk.X} (h : Dk.Stand W d b m L) (hG : Dk.Good m) {x : Dk.X} (hx : x ∈ L) {bd bf bn : Nat} (n : Nat) (hn : n ≤ x.f.data.length)
    (h1 : Blk W bd 24 #[.pointer (some ⟨d, 0, none⟩)]) (h2 : Blk W bf 87 #[.pointer (some ⟨x.blk, 0, none⟩)]) (h3 : Blk W bn 3 #[.int .i64 n]) :
    Dk.Doing W d b m L 63 #[.pointer (some ⟨bd, 0, none⟩), .pointer (some ⟨bf, 0, none⟩), .pointer (some ⟨bn, 0, none⟩)] (Dk.upd x.nm (Dk.cutF x.f n) m.files) := by
  intro W1 m1 hS hf hcap ho
  obtain ⟨k1, nf1, l1⟩ := h.box ho h1 (by decide) (by decide) (by decide)
  obtain ⟨k2, nf2, l2⟩ := h.box ho h2 (by decide) (by decide) (by decide)
  obtain ⟨k3, nf3, l3⟩ := h.box ho h3 (by decide) (by decide) (by decide)
  obtain ⟨q0, q1⟩ := hS.two hx
  have hR := (hS.file x hx).2
  obtain ⟨a, c, hxv⟩ := hR.slice
  have fx : Dk.foot d b L x.blk := .inr (.inr ⟨x, hx, .inl rfl⟩)
  have fo : ∀ k, x.v.ownBlock = some k → Dk.foot d b L k := fun k e => .inr (.inr ⟨x, hx, .inr e⟩)
  have hxd := hS.lone x.blk (.inr ⟨x, hx, .inl rfl⟩)
  have hod : ∀ k, x.v.ownBlock = some k → k ≠ d := fun k e => hS.lone k (.inr ⟨x, hx, .inr e⟩)
  have hoxb : ∀ k, x.v.ownBlock = some k → k ≠ x.blk := fun k e e2 => by
    obtain ⟨cur, fz, h3⟩ := hR.type e
    have h4 := (hS.file x hx).1
    unfold Blk at h4
    rw [e2, h4] at h3
    injection h3 with h3
    injection h3 with _ h3 _
    cases h3
  have p1 := k1.cell 0
  have p2 := k2.cell 0
  have p3 := k3.cell 0
  simp only [List.getElem?_toArray, List.getElem?_cons_zero] at p1 p2 p3
  have hfd := hS.disk.frozen 2
  have hu0 := h.got hG.up hx
  have huu := Dk.used_upd (Dk.cutF x.f n) hG.up hu0
  have hgl : (Dk.cutF x.f n).data.length = n := by unfold Dk.cutF; show (x.f.data.take n).length = n; rw [List.length_take]; omega
  rw [hgl] at huu
  have hum := hG.used
  have hcm := hG.cap
  obtain ⟨u, hu⟩ : ∃ u, Dk.used (Dk.upd x.nm (Dk.cutF x.f n) m.files) = u := ⟨_, rfl⟩
  obtain ⟨u0, hu1⟩ : ∃ u0, Dk.used m.files = u0 := ⟨_, rfl⟩
  obtain ⟨k, hk⟩ : ∃ k, x.f.data.length = k := ⟨_, rfl⟩
  obtain ⟨r, hr⟩ : ∃ r, k - n = r := ⟨_, rfl⟩
  rw [hu, hu1, hk] at huu
  rw [hu1] at hum
  rw [hk] at hn hxv
  have hw1 : IntKind.i64.wrap ((k : Int) - (n : Int)) = (r : Int) := (IntWalk.i64_in _ (by have := hG.file x.f (by rw [← h.fs]; exact List.mem_map_of_mem hx); omega)).trans (by omega)
  have hw2 : IntKind.i64.wrap ((u0 : Int) - (r : Int)) = (u : Int) := (IntWalk.i64_in _ (by omega)).trans (by omega)
  have c2 := hS.eight.2.2.1
  rw [hf, hu1] at c2
  rw [hxv] at q0
  have hmn : ∀ ts t (w : World), (Builtin.min_ ts t #[.int .i64 (x.f.sure : Int), .int .i64 (n : Int)]).run Tryz.prog w = .ok (.int .i64 ((min x.f.sure n : Nat) : Int)) w := by
    intro ts t w
    rw [run_min_int2]
    congr 2
    split <;> omega
  -- the world behind the first store
  obtain ⟨W2, hW2⟩ : ∃ W2, W1.setCell ⟨d, 2, none⟩ (.int .i64 (u : Int)) = W2 := ⟨_, rfl⟩
  have o2 : ∀ g, g ≠ d → W2.heap[g]? = W1.heap[g]? := fun g hg => by rw [← hW2]; exact Below.heap_setCell W1 ⟨d, 2, none⟩ _ g hg
  have nd1 : bd ≠ d := fun e => nf1 (.inl e)
  have nd2 : bf ≠ d := fun e => nf2 (.inl e)
  have nd3 : bn ≠ d := fun e => nf3 (.inl e)
  have nx1 : bd ≠ x.blk := fun e => nf1 (e ▸ fx)
  have nx2 : bf ≠ x.blk := fun e => nf2 (e ▸ fx)
  have nx3 : bn ≠ x.blk := fun e => nf3 (e ▸ fx)
  have t2 : W2.cell? ⟨bf, 0, none⟩ = some (.pointer (some ⟨x.blk, 0, none⟩)) := (World.cell?_of_block (o2 bf nd2)).trans p2
  have t3 : W2.cell? ⟨bn, 0, none⟩ = some (.int .i64 n) := (World.cell?_of_block (o2 bn nd3)).trans p3
  have t4 : W2.cell? ⟨x.blk, 0, none⟩ = some (.slice a k c) := (World.cell?_of_block (o2 x.blk hxd)).trans q0
  have t5 : W2.cell? ⟨x.blk, 1, none⟩ = some (.int .i64 x.f.sure) := (World.cell?_of_block (o2 x.blk hxd)).trans q1
  have t6 : W2.frozen? ⟨x.blk, 0, none⟩ = false := (World.frozen?_of_block (o2 x.blk hxd)).trans ((hS.file x hx).1.frozen 0)
  have t7 : W2.frozen? ⟨x.blk, 1, none⟩ = false := (World.frozen?_of_block (o2 x.blk hxd)).trans ((hS.file x hx).1.frozen 1)
  have hfin : ∀ w9 : World, Blk w9 x.blk 89 #[.slice a n c, .int .i64 ((min x.f.sure n : Nat) : Int)] → (∀ g, g ≠ x.blk → w9.heap[g]? = W2.heap[g]?) → Dk.Only (Dk.foot d b L) W1 w9 → Dk.Moved W1 w9 d (Dk.foot d b L) { m1 with files := Dk.upd x.nm (Dk.cutF x.f n) m.files } := by
    intro w9 hb9 ho9 hO
    have hold : ∀ g, g ≠ d → g ≠ x.blk → w9.heap[g]? = W1.heap[g]? := fun g h1 h2 => (ho9 g h2).trans (o2 g h1)
    have hvk : ∀ k, (Value.slice a n c).ownBlock = some k → x.v.ownBlock = some k ∨ W1.heap.size ≤ k := fun k e => .inl (by rw [hxv, Dk.own_len a _ n]; exact e)
    refine ⟨_, ⟨b, L.map (Dk.alt x.nm (Dk.cutF x.f n) (.slice a n c)), ?_, rfl⟩, hO, fun k hk => Dk.foot_alter hx hvk hk⟩
    refine hS.alter (by rw [hf]; exact hG.up) hx _ _ rfl ?_ (by rw [hf]) hb9 ?_ hvk (fun k hk h1 h2 h3 => hold k h1 h2)
    · have hD2 : Blk W2 d 44 ((Dk.cells b m1).setIfInBounds 2 (.int .i64 (u : Int))) := by rw [← hW2]; exact hS.disk.set_ 2 _
      have e : (Dk.cells b m1).setIfInBounds 2 (.int .i64 (u : Int)) = Dk.cells b { m1 with files := Dk.upd x.nm (Dk.cutF x.f n) m.files } := by
        unfold Dk.cells
        rw [hu]
        rfl
      rw [← e]
      exact (ho9 d (fun e => hxd e.symm)).trans hD2
    · have hR2 : Dk.Row W1 (.slice a n c) (x.f.data.take n) := by
        rw [hxv] at hR
        exact hR.cut n (by omega)
      refine Dk.Row.keep hR2 fun k e => ?_
      have e2 : x.v.ownBlock = some k := by rw [hxv, Dk.own_len a _ n]; exact e
      exact hold k (hod k e2) (hoxb k e2)
  have hO2 : Dk.Only (Dk.foot d b L) W1 W2 := by rw [← hW2]; exact Dk.Only.setCell (Dk.Only.refl _ _) (.inl (.inl rfl)) _
  have hb2 : Blk W2 x.blk 89 #[.slice a k c, .int .i64 x.f.sure] := by
    have := (o2 x.blk hxd).trans (hS.file x hx).1
    rw [hxv] at this
    exact this
  have hcl := hR.form
  rw [hxv] at hcl
  have hac : a = none → n = 0 ∧ k = 0 ∧ c = 0 := by
    intro ha
    rcases hcl with ⟨h1, h2⟩ | ⟨g, cap, h1, _⟩
    · injection h1 with _ e2 e3
      exact ⟨by omega, e2, e3⟩
    · rw [ha] at h1; injection h1 with h1; cases h1
  have hnc : n ≤ c := by
    rcases hcl with ⟨h1, h2⟩ | ⟨g, cap, h1, h2, _⟩
    · injection h1 with _ e2 e3; omega
    · injection h1 with _ e2 e3; omega
  have hnc2 : (n : Int) ≤ (c : Int) := by omega
  have S0 : W1.frozen? ⟨d, 2, none⟩ = false ∧ W1.cell? ⟨bd, 0, none⟩ = some (.pointer (some ⟨d, 0, none⟩)) ∧ W1.cell? ⟨bf, 0, none⟩ = some (.pointer (some ⟨x.blk, 0, none⟩)) ∧ W1.cell? ⟨bn, 0, none⟩ = some (.int .i64 n) ∧ W1.cell? ⟨x.blk, 0, none⟩ = some (.slice a k c) := ⟨hfd, p1, p2, p3, q0⟩
  have S9 : W2.frozen? ⟨d, 2, none⟩ = false ∧ W2.cell? ⟨bd, 0, none⟩ = some (.pointer (some ⟨d, 0, none⟩)) ∧ W2.cell? ⟨bf, 0, none⟩ = some (.pointer (some ⟨x.blk, 0, none⟩)) ∧ W2.cell? ⟨bn, 0, none⟩ = some (.int .i64 n) ∧ W2.cell? ⟨x.blk, 0, none⟩ = some (.slice a k c) :=
    ⟨by rw [← hW2, World.frozen?_setCell]; exact hfd, (World.cell?_of_block (o2 bd nd1)).trans p1, t2, t3, t4⟩
  clear hf hcap ho huu hum hcm hu hu1 hu0 hgl h hG k1 k2 k3 h1 h2 h3 hcl hk hr hR hxv
  go_enter Tryz.func63, Tryz.ntmps63
  go_wp2_with fail
  rw [show Op.load 3 (Operand.tmp 5) = Dk.o6 from rfl]
  go_region_held_law (fun W' => W'.frozen? ⟨d, 2, none⟩ = false ∧ W'.cell? ⟨bd, 0, none⟩ = some (.pointer (some ⟨d, 0, none⟩)) ∧ W'.cell? ⟨bf, 0, none⟩ = some (.pointer (some ⟨x.blk, 0, none⟩)) ∧ W'.cell? ⟨bn, 0, none⟩ = some (.int .i64 n) ∧ W'.cell? ⟨x.blk, 0, none⟩ = some (.slice a k c))
    (first
      | with_reducible assumption
      | exact S0
      | exact S9)
    (fail)
  all_goals
    obtain ⟨V, hV⟩ : ∃ V, W2.drew = V := ⟨_, rfl⟩
    have T0 : V.frozen? ⟨x.blk, 0, none⟩ = false ∧ V.frozen? ⟨x.blk, 1, none⟩ = false ∧ V.cell? ⟨bf, 0, none⟩ = some (.pointer (some ⟨x.blk, 0, none⟩)) ∧ V.cell? ⟨bn, 0, none⟩ = some (.int .i64 n) := by rw [← hV]; exact ⟨t6, t7, t2, t3⟩
    have v4 : V.cell? ⟨x.blk, 0, none⟩ = some (.slice a k c) := by rw [← hV]; exact t4
    have v5 : V.cell? ⟨x.blk, 1, none⟩ = some (.int .i64 x.f.sure) := by rw [← hV]; exact t5
    have hM : ∀ w9 : World, Blk w9 x.blk 89 #[.slice a n c, .int .i64 ((min x.f.sure n : Nat) : Int)] → (∀ g, g ≠ x.blk → w9.heap[g]? = V.heap[g]?) → Dk.Only (Dk.foot d b L) V w9 → Dk.Moved W1 w9 d (Dk.foot d b L) { m1 with files := Dk.upd x.nm (Dk.cutF x.f n) m.files } := fun w9 h1 h2 h3 =>
      hfin w9 h1 (fun g hg => (h2 g hg).trans (by rw [← hV]; rfl)) ((hV ▸ hO2.drew).trans h3)
    have hbV : Blk V x.blk 89 #[.slice a k c, .int .i64 x.f.sure] := by rw [← hV]; exact hb2
    rw [hV]
    clear hfin S0 S9 t2 t3 t4 t5 t6 t7 hV q0 q1 c2 p1 p2 p3 hO2 hb2 hW2 hfd o2 hw1 hw2
    go_wp2_with fail
    rw [show Op.load 84 (Operand.tmp 21) = Dk.o22 from rfl, show Op.load 3 (Operand.tmp 27) = Dk.o28 from rfl]
    clear hac
    go_region_held_law (fun W' => W'.frozen? ⟨x.blk, 0, none⟩ = false ∧ W'.frozen? ⟨x.blk, 1, none⟩ = false ∧ W'.cell? ⟨bf, 0, none⟩ = some (.pointer (some ⟨x.blk, 0, none⟩)) ∧ W'.cell? ⟨bn, 0, none⟩ = some (.int .i64 n))
      (first
        | with_reducible assumption
        | exact T0
        | exact Dk.four_set (by assumption) nx2 nx3 _ _
        | exact Dk.four_set T0 nx2 nx3 _ _)
      (fail)
    all_goals (try go_wp2_with fail)
    all_goals
      go_end0
      refine ⟨rfl, Dk.Moved.drew (hM _ ?_ ?_ ?_)⟩
      · first | exact (hbV.set_ 0 _).set_ 1 _ | exact (hbV.set_ 1 _).set_ 0 _
      · exact fun g hg => (Below.heap_setCell _ ⟨x.blk, _, none⟩ _ g hg).trans (Below.heap_setCell _ ⟨x.blk, _, none⟩ _ g hg)
      · exact Dk.Only.setCell (Dk.Only.setCell (Dk.Only.refl _ _) (.inl fx) _) (.inl fx) _
end Go.Proofs.YtifkhjihgnnpfaaGreatDoor
/- Disks: Cut, whole. Conditions: each theorem's own hypotheses. -/
namespace Go.Proofs.YtifkhjihgnnpfaaGreatDoor
open Go.RowKit Go.Maps Go.Sort
set_option linter.unusedVariables false

set_option maxRecDepth 100000 in
set_option maxHeartbeats 4000000 in
theorem Dk.cut_any {W : World} {d : Nat} {m : Dk.M} {F : Nat → Prop} (h : Dk.At W d m F) (hG : Dk.Good m) (s : ByteArray) (hs : s.size ≤ 9223372036854775807) (n : Int) (hn : -9223372036854775808 ≤ n ∧ n < 9223372036854775808) :
    Calls Tryz.prog 35 #[.pointer (some ⟨d, 0, none⟩), .string s, .int .i64 n] W fun e W' => e = .returned (.int .i64 (Dk.cut m s.data.toList n).2) ∧ Dk.Moved W W' d F (Dk.cut m s.data.toList n).1 := by
  obtain ⟨b, L, hS0, rfl⟩ := h
  obtain ⟨Z, hZ⟩ : ∃ Z, Dk.cut m s.data.toList n = Z := ⟨_, rfl⟩
  rw [hZ]
  unfold Dk.cut at hZ
  have HZ := Lib.hid hZ
  clear hZ
  have hX : ∃ X bd bn, (W.alloc (.cells #[.pointer (some ⟨d, 0, none⟩)] 24)).alloc (.cells #[.int .i64 n] 3) = X ∧ W.heap.size = bd ∧ W.heap.size + 1 = bn ∧ Below W.heap.size W X ∧ Blk X bd 24 #[.pointer (some ⟨d, 0, none⟩)] ∧ Blk X bn 3 #[.int .i64 n] := by
    refine ⟨_, _, _, rfl, rfl, rfl, ((Below.refl _ _).alloc (Nat.le_refl _) _).alloc (by simp) _, (Blk.new W _ _).alloc _, ?_⟩
    have := Blk.new (W.alloc (.cells #[.pointer (some ⟨d, 0, none⟩)] 24)) 3 #[.int .i64 n]
    rw [World.size_alloc] at this
    exact this
  obtain ⟨X, bd, bn, hXe, hbde, hbne, hBX, k1, k2⟩ := hX
  rw [hbde] at hbne
  have hS := hS0.later hBX (Nat.le_refl _)
  have p1 := k1.cell 0
  have p2 := k2.cell 0
  simp only [List.getElem?_toArray, List.getElem?_cons_zero] at p1 p2
  have hlook := Dk.look_any hS s hs
  have hA0 : Dk.At W d m (Dk.foot d b L) := ⟨b, L, hS0, rfl⟩
  by_cases hc : Dk.code m s.data.toList = 0
  · obtain ⟨x, hx1, hx, hx2, hx3⟩ := Dk.found_file hS hc
    rw [hx1, hc] at hlook
    unfold Dk.ptr at hlook
    simp only at hlook
    obtain ⟨n1, n2, n3, n4, n5⟩ := Dk.code_zero hc
    obtain ⟨f1, f2, f3⟩ := hG.file _ n5
    have hZ := HZ.out
    rw [if_neg (fun h => h hc), ← hx3] at hZ
    rw [← hx3] at f2 f3
    obtain ⟨k, hk⟩ : ∃ k, x.f.data.length = k := ⟨_, rfl⟩
    rw [hk] at hZ f2 f3
    have hY : ∃ Y bf, X.alloc (.cells #[.pointer (some ⟨x.blk, 0, none⟩)] 87) = Y ∧ X.heap.size = bf ∧ Blk Y bf 87 #[.pointer (some ⟨x.blk, 0, none⟩)] ∧ Blk Y bd 24 #[.pointer (some ⟨d, 0, none⟩)] ∧ Blk Y bn 3 #[.int .i64 n] ∧ Dk.Stand Y d b m L ∧ Below W.heap.size W Y :=
      ⟨_, _, rfl, rfl, Blk.new X _ _, k1.alloc _, k2.alloc _, hS.later ((Below.refl _ _).alloc (Nat.le_refl _) _) (Nat.le_refl _), hBX.alloc hBX.size _⟩
    obtain ⟨Y, bf, hYe, hbfe, j3, j1, j2, hSY, hBY⟩ := hY
    have r1 := j1.cell 0
    have r2 := j2.cell 0
    have r3 := j3.cell 0
    simp only [List.getElem?_toArray, List.getElem?_cons_zero] at r1 r2 r3
    obtain ⟨q0, q1⟩ := hSY.two hx
    obtain ⟨a, c, hxv⟩ := (hSY.file x hx).2.slice
    rw [hxv, hk] at q0
    obtain ⟨c0, c1, c2, c3, c4, c5, c6, c7⟩ := hSY.eight
    have HN := Lib.hid (And.intro hk hxv)
    have HC := Lib.hid (And.intro hc (And.intro hx2 hx3))
    have hsame : Dk.Moved W Y d (Dk.foot d b L) m := Dk.Moved.same hA0 hBY
    clear hk hxv hc hx2 hx3 HZ n1 n2 n3 n4 n5 f1 k1 k2 hS hS0 hBX hx1 c0 c1 c2 c3 c4 c5 c6
    by_cases g1 : n < 0
    · have u1 : decide (n < 0) = true := decide_eq_true g1
      rw [if_pos (.inl g1)] at hZ
      subst hZ
      clear g1
      go_enter Tryz.func35, Tryz.ntmps35
      go_upto_region 4 with (go_at_call 61; refine hlook.mono ?_; rintro e w2 ⟨rfl, rfl⟩)
      go_quiet (fail)
      go_wp2_with fail
      go_ret
      exact ⟨rfl, hsame.dn _⟩
    · have u1 : decide (n < 0) = false := decide_eq_false g1
      obtain ⟨n, rfl⟩ := Int.eq_ofNat_of_zero_le (Int.not_lt.1 g1)
      by_cases g2 : k < n
      · have u2 : decide (k < n) = true := decide_eq_true g2
        rw [if_pos (.inr (by omega))] at hZ
        subst hZ
        clear g1 g2
        go_enter Tryz.func35, Tryz.ntmps35
        go_upto_region 4 with (go_at_call 61; refine hlook.mono ?_; rintro e w2 ⟨rfl, rfl⟩)
        go_quiet (fail)
        go_wp2_with fail
        go_ret
        exact ⟨rfl, hsame.dn _⟩
      · have u2 : decide (k < n) = false := decide_eq_false g2
        rw [if_neg (by omega), Int.toNat_natCast] at hZ
        have hacc : ∀ V : World, V.heap = Y.heap → Below W.heap.size W V → Calls Tryz.prog 62 #[.pointer (some ⟨d, 0, none⟩), .bool m.done, .func (.func 63) #[] #[.pointer (some ⟨bd, 0, none⟩), .pointer (some ⟨bf, 0, none⟩), .pointer (some ⟨bn, 0, none⟩)]] V
            fun e W' => e = .returned (.int .i64 Z.2) ∧ Dk.Moved W W' d (Dk.foot d b L) Z.1 ∧ W'.cell? ⟨bd, 0, none⟩ = some (.pointer (some ⟨d, 0, none⟩)) ∧ W'.cell? ⟨d, 7, none⟩ = some (.bool m.done) := by
          intro V hV hBV
          have hh : ∀ k : Nat, V.heap[k]? = Y.heap[k]? := fun k => by rw [hV]
          have hSd : Dk.Stand V d b m L := hSY.keep fun k _ => hh k
          have i1 : Blk V bd 24 #[.pointer (some ⟨d, 0, none⟩)] := (hh _).trans j1
          have hdo := Dk.cut1 hSd hG hx (bd := bd) (bf := bf) (bn := bn) n (by have := HN.out.1; omega) i1 ((hh _).trans j3) ((hh _).trans j2)
          rw [HC.out.2.1] at hdo
          have hdn := Dk.acc_done m m.done (Dk.upd s.data.toList (Dk.cutF x.f n) m.files)
          rw [hZ] at hdn
          have nb1 := hSd.off i1 (by decide) (by decide) (by decide)
          have := Dk.accepted_any hSd hG.left m.done _ _ _ hdo (Dk.run_enter Tryz.func63 (by kernel_rfl) rfl)
          rw [hZ] at this
          refine this.mono fun e W' h => ⟨h.1, Dk.Moved.from hBV h.2, ?_⟩
          obtain ⟨F', ⟨b', L', h3, rfl⟩, o3, f3⟩ := h.2
          refine ⟨(World.cell?_of_block (o3.block bd i1.lt nb1)).trans ((World.cell?_of_block (hh bd)).trans r1), ?_⟩
          rw [← hdn]
          exact h3.eight.2.2.2.2.2.2.2
        clear hZ
        go_enter Tryz.func35, Tryz.ntmps35
        go_upto_region 4 with (go_at_call 61; refine hlook.mono ?_; rintro e w2 ⟨rfl, rfl⟩)
        go_quiet (fail)
        go_upto_region 6 with fail
        obtain ⟨V, hV, hVY, hBV, v1, v7⟩ : ∃ V, Y.drewN nq = V ∧ V.drew.heap = Y.heap ∧ Below W.heap.size W V.drew ∧ V.cell? ⟨bd, 0, none⟩ = some (.pointer (some ⟨d, 0, none⟩)) ∧ V.cell? ⟨d, 7, none⟩ = some (.bool m.done) := ⟨_, rfl, rfl, (below_dn hBY nq).drew, r1, c7⟩
        have hacc2 := hacc V.drew hVY hBV
        rw [hV]
        clear hacc hV hVY hBV
        go_region_held_law (fun W' => W'.cell? ⟨bd, 0, none⟩ = some (.pointer (some ⟨d, 0, none⟩)) ∧ W'.cell? ⟨d, 7, none⟩ = some (.bool m.done))
          (first
            | with_reducible assumption
            | exact ⟨v1, v7⟩
            | exact S9)
          (first
            | (go_at_call 62; refine hacc2.mono ?_; rintro e w2 ⟨rfl, hM, S9⟩))
        all_goals (try go_wp2_with fail)
        all_goals
          go_ret
          exact ⟨rfl, hM⟩
  · have hnone := Dk.found_none hS hc
    rw [hnone] at hlook
    unfold Dk.ptr at hlook
    simp only at hlook
    have hZ := HZ.out
    rw [if_pos hc] at hZ
    obtain ⟨e, he⟩ : ∃ e, Dk.code m s.data.toList = e := ⟨_, rfl⟩
    rw [he] at hlook hZ hc
    have u1 : (e != 0) = true := by rw [bne_iff_ne]; exact hc
    subst hZ
    have hB2 : Below W.heap.size W (X.alloc (.cells #[.pointer none] 87)) := hBX.alloc hBX.size _
    have hsame : Dk.Moved W (X.alloc (.cells #[.pointer none] 87)) d (Dk.foot d b L) m := Dk.Moved.same hA0 hB2
    clear he hc HZ hnone
    go_enter Tryz.func35, Tryz.ntmps35
    go_wp2_with (go_at_call 61; refine hlook.mono ?_; rintro e w2 ⟨rfl, rfl⟩)
    go_ret
    exact ⟨rfl, hsame⟩
end Go.Proofs.YtifkhjihgnnpfaaGreatDoor
/- Disks: a file taken away. Conditions: each theorem's own hypotheses. -/
namespace Go.Proofs.YtifkhjihgnnpfaaGreatDoor
open Go.RowKit Go.Maps Go.Sort
set_option linter.unusedVariables false

theorem Dk.map_tight {W : World} {b n : Nat} {D : DataW Unit} (h : W.ownsMap Tryz.prog 9 Dk.R b n D) : W.ownsMap Tryz.prog 9 Dk.R b (Maps.size D) D := by
  obtain ⟨es, clock, hb, F, hs, rfl⟩ := h
  refine ⟨es, clock, hb, F, Nat.le_of_eq ?_, rfl⟩
  exact (length_read (H := Unit) (P := Tryz.prog) (k := 9) (R0 := Dk.R) es).symm
theorem Dk.turned {w w' : World} {b : Nat} (h : w.mapTurned w' b) : w.grownBy w' (some b) := by
  obtain ⟨es, clock, es', clock', hb, rfl⟩ := h
  exact ⟨rfl, rfl, rfl, by simp [Go.ChangeMaps.setBlock], fun i _ hi => Go.ChangeMaps.heap_setBlock_other hb _ (fun e => hi (by rw [e]))⟩
theorem Dk.del_names {α : Type} {key : α → List UInt8} (nm : List UInt8) {l : List α} {x : α} (h : x ∈ Dk.del key nm l) : x ∈ l := ((Dk.mem_del key).1 h).1
theorem Dk.used_del {nm : List UInt8} {l : List Dk.F} (h : Dk.Up Dk.F.name l) {f : Dk.F} (hf : Dk.get Dk.F.name nm l = some f) : Dk.used (Dk.del Dk.F.name nm l) + f.data.length = Dk.used l := by
  rw [Dk.used_perm (Dk.perm_get h hf), Dk.used_cons]
  omega
theorem Dk.Stand.without {W W' : World} {d b : Nat} {m m' : Dk.M} {L : List Dk.X} (h : Dk.Stand W d b m L) (nm : List UInt8)
    (hd : Blk W' d 44 (Dk.cells b m')) {n : Nat} (hm : W'.ownsMap Tryz.prog 9 Dk.R b n ((Dk.dat L).del (.string nm))) (hf : m'.files = Dk.del Dk.F.name nm m.files)
    (hk : ∀ k, k < W.heap.size → k ≠ d → k ≠ b → W'.heap[k]? = W.heap[k]?) : Dk.Stand W' d b m' (Dk.del Dk.X.nm nm L) := by
  have hlone := h.lone
  have hbl : ∀ y ∈ L, (∀ k, (y.blk = k ∨ y.v.ownBlock = some k) → k ≠ b) := by
    intro y hy k hk2 hkb
    subst hkb
    obtain ⟨es, clock, hmb, _⟩ := h.map
    rcases hk2 with e | e
    · have h1 := (h.file y hy).1
      unfold Blk at h1
      rw [e, hmb] at h1
      cases h1
    · obtain ⟨cur, fz, h1⟩ := (h.file y hy).2.type e
      rw [hmb] at h1
      cases h1
  refine ⟨hd, ?_, ?_, fun y hy => ?_, ?_⟩
  · rw [Dk.dat_del] at hm
    have := Dk.map_tight hm
    rw [Dk.dat_size] at this
    exact this
  · rw [Dk.map_del (g := fun x : Dk.X => x.f) (key' := Dk.F.name) (fun y => rfl), h.fs, hf]
  · have hy := Dk.del_names nm hy
    obtain ⟨h1, h2⟩ := h.file y hy
    exact ⟨(hk y.blk h1.lt (hlone _ (.inr ⟨y, hy, .inl rfl⟩)) (hbl y hy _ (.inl rfl))).trans h1, h2.keep fun k e => hk k (h2.lt k e) (hlone k (.inr ⟨y, hy, .inr e⟩)) (hbl y hy k (.inr e))⟩
  · exact List.Pairwise.filter _ h.apart
theorem Dk.foot_del {d b : Nat} {L : List Dk.X} {nm : List UInt8} {k : Nat} (h : Dk.foot d b (Dk.del Dk.X.nm nm L) k) : Dk.foot d b L k := by
  rcases h with rfl | rfl | ⟨x, hx, hk⟩
  · exact .inl rfl
  · exact .inr (.inl rfl)
  · exact .inr (.inr ⟨x, Dk.del_names nm hx, hk⟩)
def Dk.o19 : Op := Op.load 3 (Operand.tmp 18)
attribute [go_sem] Dk.o19
end Go.Proofs.YtifkhjihgnnpfaaGreatDoor
/- Disks: Delete. Conditions: each theorem's own hypotheses. -/
namespace Go.Proofs.YtifkhjihgnnpfaaGreatDoor
open Go.RowKit Go.Maps Go.Sort
set_option linter.unusedVariables false

/-- What Delete does and answers. -/
def Dk.delete (m : Dk.M) (nm : List UInt8) : Dk.M × Int :=
  if Dk.code m nm ≠ 0 then (m, Dk.code m nm)
  else Dk.acc m m.done (Dk.del Dk.F.name nm m.files)
theorem Dk.del_good {m : Dk.M} (hG : Dk.Good m) (nm : List UInt8) (last : Bool) : Dk.Good (Dk.acc m last (Dk.del Dk.F.name nm m.files)).1 := by
  refine Dk.acc_good hG last _ (Dk.up_del Dk.F.name hG.up nm) (fun f hf => hG.file f (Dk.del_names nm hf)) (Nat.le_trans (List.length_filter_le _ _) hG.many) ?_
  cases hx : Dk.get Dk.F.name nm m.files with
  | none => rw [Dk.del_none (Dk.get_none hx)]; exact hG.used
  | some f => have := Dk.used_del hG.up hx; have := hG.used; omega
theorem Dk.delete_good {m : Dk.M} (hG : Dk.Good m) (nm : List UInt8) : Dk.Good (Dk.delete m nm).1 := by
  unfold Dk.delete
  split
  · exact hG
  · exact Dk.del_good hG nm m.done
end Go.Proofs.YtifkhjihgnnpfaaGreatDoor
