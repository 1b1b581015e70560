/- Disks: Cut, whole. Conditions: each theorem's own hypotheses. -/
import Derived.Test.YtgbeeghdoilmkaaDkV
namespace Go.Proofs.Ytgbeeghdoilmkaa
open Go.RowKit Go.Maps Go.Sort
set_option linter.unusedVariables false

set_option maxRecDepth 100000 in
set_option maxHeartbeats 4000000 in
theorem Dk.cut_any {W : World} {d : Nat} {m : Dk.M} {F : Nat → Prop} (h : Dk.At W d m F) (hG : Dk.Good m) (s : ByteArray) (hs : s.size ≤ 9223372036854775807) (n : Int) (hn : -9223372036854775808 ≤ n ∧ n < 9223372036854775808) :
    Calls Try.prog 51 #[.pointer (some ⟨d, 0, none⟩), .string s, .int .i64 n] W fun e W' => e = .returned (.int .i64 (Dk.cut m s.data.toList n).2) ∧ Dk.Moved W W' d F (Dk.cut m s.data.toList n).1 := by
  obtain ⟨b, L, hS0, rfl⟩ := h
  obtain ⟨Z, hZ⟩ : ∃ Z, Dk.cut m s.data.toList n = Z := ⟨_, rfl⟩
  rw [hZ]
  unfold Dk.cut at hZ
  have HZ := Lib.hid hZ
  clear hZ
  have hX : ∃ X bd bn, (W.alloc (.cells #[.pointer (some ⟨d, 0, none⟩)] 22)).alloc (.cells #[.int .i64 n] 3) = X ∧ W.heap.size = bd ∧ W.heap.size + 1 = bn ∧ Below W.heap.size W X ∧ Blk X bd 22 #[.pointer (some ⟨d, 0, none⟩)] ∧ Blk X bn 3 #[.int .i64 n] := by
    refine ⟨_, _, _, rfl, rfl, rfl, ((Below.refl _ _).alloc (Nat.le_refl _) _).alloc (by simp) _, (Blk.new W _ _).alloc _, ?_⟩
    have := Blk.new (W.alloc (.cells #[.pointer (some ⟨d, 0, none⟩)] 22)) 3 #[.int .i64 n]
    rw [World.size_alloc] at this
    exact this
  obtain ⟨X, bd, bn, hXe, hbde, hbne, hBX, k1, k2⟩ := hX
  rw [hbde] at hbne
  have hS := hS0.later hBX (Nat.le_refl _)
  have p1 := k1.cell 0
  have p2 := k2.cell 0
  simp only [List.getElem?_toArray, List.getElem?_cons_zero] at p1 p2
  have hlook := Dk.look_any hS s hs
  have hA0 : Dk.At W d m (Dk.foot d b L) := ⟨b, L, hS0, rfl⟩
  by_cases hc : Dk.code m s.data.toList = 0
  · obtain ⟨x, hx1, hx, hx2, hx3⟩ := Dk.found_file hS hc
    rw [hx1, hc] at hlook
    unfold Dk.ptr at hlook
    simp only at hlook
    obtain ⟨n1, n2, n3, n4, n5⟩ := Dk.code_zero hc
    obtain ⟨f1, f2, f3⟩ := hG.file _ n5
    have hZ := HZ.out
    rw [if_neg (fun h => h hc), ← hx3] at hZ
    rw [← hx3] at f2 f3
    obtain ⟨k, hk⟩ : ∃ k, x.f.data.length = k := ⟨_, rfl⟩
    rw [hk] at hZ f2 f3
    have hY : ∃ Y bf, X.alloc (.cells #[.pointer (some ⟨x.blk, 0, none⟩)] 80) = Y ∧ X.heap.size = bf ∧ Blk Y bf 80 #[.pointer (some ⟨x.blk, 0, none⟩)] ∧ Blk Y bd 22 #[.pointer (some ⟨d, 0, none⟩)] ∧ Blk Y bn 3 #[.int .i64 n] ∧ Dk.Stand Y d b m L ∧ Below W.heap.size W Y :=
      ⟨_, _, rfl, rfl, Blk.new X _ _, k1.alloc _, k2.alloc _, hS.later ((Below.refl _ _).alloc (Nat.le_refl _) _) (Nat.le_refl _), hBX.alloc hBX.size _⟩
    obtain ⟨Y, bf, hYe, hbfe, j3, j1, j2, hSY, hBY⟩ := hY
    have r1 := j1.cell 0
    have r2 := j2.cell 0
    have r3 := j3.cell 0
    simp only [List.getElem?_toArray, List.getElem?_cons_zero] at r1 r2 r3
    obtain ⟨q0, q1⟩ := hSY.two hx
    obtain ⟨a, c, hxv⟩ := (hSY.file x hx).2.slice
    rw [hxv, hk] at q0
    obtain ⟨c0, c1, c2, c3, c4, c5, c6, c7⟩ := hSY.eight
    have HN := Lib.hid (And.intro hk hxv)
    have HC := Lib.hid (And.intro hc (And.intro hx2 hx3))
    have hsame : Dk.Moved W Y d (Dk.foot d b L) m := Dk.Moved.same hA0 hBY
    clear hk hxv hc hx2 hx3 HZ n1 n2 n3 n4 n5 f1 k1 k2 hS hS0 hBX hx1 c0 c1 c2 c3 c4 c5 c6
    by_cases g1 : n < 0
    · have u1 : decide (n < 0) = true := decide_eq_true g1
      rw [if_pos (.inl g1)] at hZ
      subst hZ
      clear g1
      go_enter Try.func51, Try.ntmps51
      go_upto_region 4 with (go_at_call 47; refine hlook.mono ?_; rintro e w2 ⟨rfl, rfl⟩)
      go_quiet (fail)
      go_wp2_with fail
      go_ret
      exact ⟨rfl, hsame.dn _⟩
    · have u1 : decide (n < 0) = false := decide_eq_false g1
      obtain ⟨n, rfl⟩ := Int.eq_ofNat_of_zero_le (Int.not_lt.1 g1)
      by_cases g2 : k < n
      · have u2 : decide (k < n) = true := decide_eq_true g2
        rw [if_pos (.inr (by omega))] at hZ
        subst hZ
        clear g1 g2
        go_enter Try.func51, Try.ntmps51
        go_upto_region 4 with (go_at_call 47; refine hlook.mono ?_; rintro e w2 ⟨rfl, rfl⟩)
        go_quiet (fail)
        go_wp2_with fail
        go_ret
        exact ⟨rfl, hsame.dn _⟩
      · have u2 : decide (k < n) = false := decide_eq_false g2
        rw [if_neg (by omega), Int.toNat_natCast] at hZ
        have hacc : ∀ V : World, V.heap = Y.heap → Below W.heap.size W V → Calls Try.prog 55 #[.pointer (some ⟨d, 0, none⟩), .bool m.done, .func (.func 74) #[] #[.pointer (some ⟨bd, 0, none⟩), .pointer (some ⟨bf, 0, none⟩), .pointer (some ⟨bn, 0, none⟩)]] V
            fun e W' => e = .returned (.int .i64 Z.2) ∧ Dk.Moved W W' d (Dk.foot d b L) Z.1 ∧ W'.cell? ⟨bd, 0, none⟩ = some (.pointer (some ⟨d, 0, none⟩)) ∧ W'.cell? ⟨d, 7, none⟩ = some (.bool m.done) := by
          intro V hV hBV
          have hh : ∀ k : Nat, V.heap[k]? = Y.heap[k]? := fun k => by rw [hV]
          have hSd : Dk.Stand V d b m L := hSY.keep fun k _ => hh k
          have i1 : Blk V bd 22 #[.pointer (some ⟨d, 0, none⟩)] := (hh _).trans j1
          have hdo := Dk.cut1 hSd hG hx (bd := bd) (bf := bf) (bn := bn) n (by have := HN.out.1; omega) i1 ((hh _).trans j3) ((hh _).trans j2)
          rw [HC.out.2.1] at hdo
          have hdn := Dk.acc_done m m.done (Dk.upd s.data.toList (Dk.cutF x.f n) m.files)
          rw [hZ] at hdn
          have nb1 := hSd.off i1 (by decide) (by decide) (by decide)
          have := Dk.accepted_any hSd hG.left m.done _ _ _ hdo (Dk.run_enter Try.func74 (by kernel_rfl) rfl)
          rw [hZ] at this
          refine this.mono fun e W' h => ⟨h.1, Dk.Moved.from hBV h.2, ?_⟩
          obtain ⟨F', ⟨b', L', h3, rfl⟩, o3, f3⟩ := h.2
          refine ⟨(World.cell?_of_block (o3.block bd i1.lt nb1)).trans ((World.cell?_of_block (hh bd)).trans r1), ?_⟩
          rw [← hdn]
          exact h3.eight.2.2.2.2.2.2.2
        clear hZ
        go_enter Try.func51, Try.ntmps51
        go_upto_region 4 with (go_at_call 47; refine hlook.mono ?_; rintro e w2 ⟨rfl, rfl⟩)
        go_quiet (fail)
        go_upto_region 6 with fail
        obtain ⟨V, hV, hVY, hBV, v1, v7⟩ : ∃ V, Y.drewN nq = V ∧ V.drew.heap = Y.heap ∧ Below W.heap.size W V.drew ∧ V.cell? ⟨bd, 0, none⟩ = some (.pointer (some ⟨d, 0, none⟩)) ∧ V.cell? ⟨d, 7, none⟩ = some (.bool m.done) := ⟨_, rfl, rfl, (below_dn hBY nq).drew, r1, c7⟩
        have hacc2 := hacc V.drew hVY hBV
        rw [hV]
        clear hacc hV hVY hBV
        go_region_held_law (fun W' => W'.cell? ⟨bd, 0, none⟩ = some (.pointer (some ⟨d, 0, none⟩)) ∧ W'.cell? ⟨d, 7, none⟩ = some (.bool m.done))
          (first
            | with_reducible assumption
            | exact ⟨v1, v7⟩
            | exact S9)
          (first
            | (go_at_call 55; refine hacc2.mono ?_; rintro e w2 ⟨rfl, hM, S9⟩))
        all_goals (try go_wp2_with fail)
        all_goals
          go_ret
          exact ⟨rfl, hM⟩
  · have hnone := Dk.found_none hS hc
    rw [hnone] at hlook
    unfold Dk.ptr at hlook
    simp only at hlook
    have hZ := HZ.out
    rw [if_pos hc] at hZ
    obtain ⟨e, he⟩ : ∃ e, Dk.code m s.data.toList = e := ⟨_, rfl⟩
    rw [he] at hlook hZ hc
    have u1 : (e != 0) = true := by rw [bne_iff_ne]; exact hc
    subst hZ
    have hB2 : Below W.heap.size W (X.alloc (.cells #[.pointer none] 80)) := hBX.alloc hBX.size _
    have hsame : Dk.Moved W (X.alloc (.cells #[.pointer none] 80)) d (Dk.foot d b L) m := Dk.Moved.same hA0 hB2
    clear he hc HZ hnone
    go_enter Try.func51, Try.ntmps51
    go_wp2_with (go_at_call 47; refine hlook.mono ?_; rintro e w2 ⟨rfl, rfl⟩)
    go_ret
    exact ⟨rfl, hsame⟩
end Go.Proofs.Ytgbeeghdoilmkaa
/- Disks: a file taken away. Conditions: each theorem's own hypotheses. -/
namespace Go.Proofs.Ytgbeeghdoilmkaa
open Go.RowKit Go.Maps Go.Sort
set_option linter.unusedVariables false

theorem Dk.map_tight {W : World} {b n : Nat} {D : DataW Unit} (h : W.ownsMap Try.prog 9 Dk.R b n D) : W.ownsMap Try.prog 9 Dk.R b (Maps.size D) D := by
  obtain ⟨es, clock, hb, F, hs, rfl⟩ := h
  refine ⟨es, clock, hb, F, Nat.le_of_eq ?_, rfl⟩
  exact (length_read (H := Unit) (P := Try.prog) (k := 9) (R0 := Dk.R) es).symm
theorem Dk.turned {w w' : World} {b : Nat} (h : w.mapTurned w' b) : w.grownBy w' (some b) := by
  obtain ⟨es, clock, es', clock', hb, rfl⟩ := h
  exact ⟨rfl, rfl, rfl, by simp [Go.ChangeMaps.setBlock], fun i _ hi => Go.ChangeMaps.heap_setBlock_other hb _ (fun e => hi (by rw [e]))⟩
theorem Dk.del_names {α : Type} {key : α → List UInt8} (nm : List UInt8) {l : List α} {x : α} (h : x ∈ Dk.del key nm l) : x ∈ l := ((Dk.mem_del key).1 h).1
theorem Dk.used_del {nm : List UInt8} {l : List Dk.F} (h : Dk.Up Dk.F.name l) {f : Dk.F} (hf : Dk.get Dk.F.name nm l = some f) : Dk.used (Dk.del Dk.F.name nm l) + f.data.length = Dk.used l := by
  rw [Dk.used_perm (Dk.perm_get h hf), Dk.used_cons]
  omega
theorem Dk.Stand.without {W W' : World} {d b : Nat} {m m' : Dk.M} {L : List Dk.X} (h : Dk.Stand W d b m L) (nm : List UInt8)
    (hd : Blk W' d 77 (Dk.cells b m')) {n : Nat} (hm : W'.ownsMap Try.prog 9 Dk.R b n ((Dk.dat L).del (.string nm))) (hf : m'.files = Dk.del Dk.F.name nm m.files)
    (hk : ∀ k, k < W.heap.size → k ≠ d → k ≠ b → W'.heap[k]? = W.heap[k]?) : Dk.Stand W' d b m' (Dk.del Dk.X.nm nm L) := by
  have hlone := h.lone
  have hbl : ∀ y ∈ L, (∀ k, (y.blk = k ∨ y.v.ownBlock = some k) → k ≠ b) := by
    intro y hy k hk2 hkb
    subst hkb
    obtain ⟨es, clock, hmb, _⟩ := h.map
    rcases hk2 with e | e
    · have h1 := (h.file y hy).1
      unfold Blk at h1
      rw [e, hmb] at h1
      cases h1
    · obtain ⟨cur, fz, h1⟩ := (h.file y hy).2.type e
      rw [hmb] at h1
      cases h1
  refine ⟨hd, ?_, ?_, fun y hy => ?_, ?_⟩
  · rw [Dk.dat_del] at hm
    have := Dk.map_tight hm
    rw [Dk.dat_size] at this
    exact this
  · rw [Dk.map_del (g := fun x : Dk.X => x.f) (key' := Dk.F.name) (fun y => rfl), h.fs, hf]
  · have hy := Dk.del_names nm hy
    obtain ⟨h1, h2⟩ := h.file y hy
    exact ⟨(hk y.blk h1.lt (hlone _ (.inr ⟨y, hy, .inl rfl⟩)) (hbl y hy _ (.inl rfl))).trans h1, h2.keep fun k e => hk k (h2.lt k e) (hlone k (.inr ⟨y, hy, .inr e⟩)) (hbl y hy k (.inr e))⟩
  · exact List.Pairwise.filter _ h.apart
theorem Dk.foot_del {d b : Nat} {L : List Dk.X} {nm : List UInt8} {k : Nat} (h : Dk.foot d b (Dk.del Dk.X.nm nm L) k) : Dk.foot d b L k := by
  rcases h with rfl | rfl | ⟨x, hx, hk⟩
  · exact .inl rfl
  · exact .inr (.inl rfl)
  · exact .inr (.inr ⟨x, Dk.del_names nm hx, hk⟩)
def Dk.o19 : Op := Op.load 3 (Operand.tmp 18)
attribute [go_sem] Dk.o19
set_option maxRecDepth 100000 in
set_option maxHeartbeats 2000000 in
theorem Dk.remove_any {W : World} {d b : Nat} {m : Dk.M} {L : List Dk.X} (h : Dk.Stand W d b m L) (hu : Dk.Up Dk.F.name m.files) (hul : Dk.used m.files ≤ 1099511627776) (s : ByteArray) (hs : s.size ≤ maxLen) :
    Calls Try.prog 58 #[.pointer (some ⟨d, 0, none⟩), .string s] W fun e W' => e = .returned (.tuple #[]) ∧
      Dk.Stand W' d b { m with files := Dk.del Dk.F.name s.data.toList m.files } (Dk.del Dk.X.nm s.data.toList L) ∧ Dk.Only (fun k => k = d ∨ k = b) W W' := by
  obtain ⟨c0, c1, c2, c3, c4, c5, c6, c7⟩ := h.eight
  have hr := h.run_look s hs
  have hkey : keyOf Try.prog 9 (.string s) = some (.string s.data.toList) := by
    simp [keyOf, Try.underlying9, mapKey, hs]
  cases hx : Dk.get Dk.X.nm s.data.toList L with
  | none =>
    rw [hx] at hr
    unfold Dk.ptr at hr
    simp only at hr
    have e1 : Dk.del Dk.X.nm s.data.toList L = L := Dk.del_none (Dk.get_none hx)
    have hg := h.get s.data.toList
    rw [hx] at hg
    have e2 : Dk.del Dk.F.name s.data.toList m.files = m.files := Dk.del_none (Dk.get_none hg.symm)
    rw [e1, e2]
    clear hg e1 e2 hx
    go_enter Try.func58, Try.ntmps58
    go_wp2_with fail
    go_end0
    exact ⟨rfl, h, Dk.Only.refl _ _⟩
  | some x =>
    obtain ⟨hxL, hxn⟩ := Dk.get_mem hx
    have hg := h.get s.data.toList
    rw [hx] at hg
    rw [hx] at hr
    unfold Dk.ptr at hr
    simp only at hr
    obtain ⟨q0, q1⟩ := h.two hxL
    obtain ⟨a, c, hxv⟩ := (h.file x hxL).2.slice
    have huu := Dk.used_del hu hg.symm
    obtain ⟨k, hk⟩ : ∃ k, x.f.data.length = k := ⟨_, rfl⟩
    obtain ⟨u, hu1⟩ : ∃ u, Dk.used (Dk.del Dk.F.name s.data.toList m.files) = u := ⟨_, rfl⟩
    obtain ⟨u0, hu0⟩ : ∃ u0, Dk.used m.files = u0 := ⟨_, rfl⟩
    rw [hxv, hk] at q0
    rw [hu0] at c2
    rw [hu1, hk, hu0] at huu
    have hwr : IntKind.i64.wrap ((u0 : Int) - (k : Int)) = (u : Int) := (IntWalk.i64_in _ (by omega)).trans (by omega)
    have hxd := h.lone x.blk (.inr ⟨x, hxL, .inl rfl⟩)
    have hfz := h.disk.frozen 2
    have hbd := h.lone b (.inl rfl)
    have hb0 := h.map.lt
    obtain ⟨W2, hW2⟩ : ∃ W2, W.setCell ⟨d, 2, none⟩ (.int .i64 (u : Int)) = W2 := ⟨_, rfl⟩
    have o2 : ∀ g, g ≠ d → W2.heap[g]? = W.heap[g]? := fun g hg => by rw [← hW2]; exact Below.heap_setCell W ⟨d, 2, none⟩ _ g hg
    have hD2 : Blk W2 d 77 (Dk.cells b { m with files := Dk.del Dk.F.name s.data.toList m.files }) := by
      have h2 := h.disk.set_ 2 (.int .i64 (u : Int))
      have e : (Dk.cells b m).setIfInBounds 2 (.int .i64 (u : Int)) = Dk.cells b { m with files := Dk.del Dk.F.name s.data.toList m.files } := by
        unfold Dk.cells
        rw [hu1]
        rfl
      rw [e, hW2] at h2
      exact h2
    have hO2 : Dk.Only (fun k => k = d ∨ k = b) W W2 := by rw [← hW2]; exact Dk.Only.setCell (F := fun k => k = d ∨ k = b) (Dk.Only.refl _ W) (p := ⟨d, 2, none⟩) (.inl (.inl rfl)) _
    have hm2 : W2.ownsMap Try.prog 9 Dk.R b L.length (Dk.dat L) := Dk.map_keep h.map (o2 b hbd)
    have t0 : W2.cell? ⟨d, 0, none⟩ = some (.map (some b)) := hD2.cell 0
    have S0 : W.frozen? ⟨d, 2, none⟩ = false ∧ W.cell? ⟨x.blk, 0, none⟩ = some (.slice a k c) := ⟨hfz, q0⟩
    have S9 : W2.frozen? ⟨d, 2, none⟩ = false ∧ W2.cell? ⟨x.blk, 0, none⟩ = some (.slice a k c) := ⟨hD2.frozen 2, (World.cell?_of_block (o2 x.blk hxd)).trans q0⟩
    have hdl := h.disk.lt
    clear hul huu hu1 hu0 hk hxv c1 c3 c4 c5 c6 c7 hx hg
    go_enter Try.func58, Try.ntmps58
    go_upto_region 2 with fail
    rw [show Op.load 3 (Operand.tmp 18) = Dk.o19 from rfl]
    go_region_held_law (fun W' => W'.frozen? ⟨d, 2, none⟩ = false ∧ W'.cell? ⟨x.blk, 0, none⟩ = some (.slice a k c))
      (first
        | with_reducible assumption
        | exact S0
        | exact S9)
      (fail)
    all_goals
      obtain ⟨V, hV⟩ : ∃ V, W2.drew = V := ⟨_, rfl⟩
      have hmV : V.ownsMap Try.prog 9 Dk.R b L.length (Dk.dat L) := by rw [← hV]; exact Dk.map_keep hm2 rfl
      have tV : V.cell? ⟨d, 0, none⟩ = some (.map (some b)) := by rw [← hV]; exact t0
      have hfin : ∀ w' : World, w'.ownsMap Try.prog 9 Dk.R b L.length ((Dk.dat L).del (.string s.data.toList)) → (∀ g, g ≠ b → w'.heap[g]? = V.heap[g]?) → Dk.Only (fun k => k = d ∨ k = b) V w' → Dk.Stand w' d b { m with files := Dk.del Dk.F.name s.data.toList m.files } (Dk.del Dk.X.nm s.data.toList L) ∧ Dk.Only (fun k => k = d ∨ k = b) W w' := by
        intro w' h1 h2 h3
        have h2' : ∀ g, g ≠ b → w'.heap[g]? = W2.heap[g]? := fun g hg => (h2 g hg).trans (by rw [← hV]; rfl)
        refine ⟨h.without s.data.toList ((h2' d (fun e => hbd e.symm)).trans hD2) h1 rfl (fun k _ h4 h5 => (h2' k h5).trans (o2 k h4)), ?_⟩
        exact Dk.Only.trans (by rw [← hV]; exact hO2.drew) h3
      rw [hV]
      clear S0 S9 hD2 hO2 hm2 t0 hV hW2 o2 q0 q1 c2
      go_wp2_with (at_delete; refine wpList_delete_own _ rfl _ _ 75 9 rfl 80 Dk.strKeyed Try.underlying75 Dk.R b L.length (Dk.dat L) rfl hmV (.string s) (.string s.data.toList) rfl hkey ?_; intro w9 hown9 hturn9)
      go_end0
      have hg9 := Dk.turned hturn9
      have hsz : w9.heap.size = V.heap.size := by
        obtain ⟨es, clock, es', clock', hb, rfl⟩ := hturn9
        simp [Go.ChangeMaps.setBlock]
      have hall : ∀ g, g ≠ b → w9.heap[g]? = V.heap[g]? := fun g hgb => by
        by_cases hlt : g < V.heap.size
        · exact hg9.block g hlt (fun e => hgb (Option.some.inj e))
        · rw [Array.getElem?_eq_none (by omega), Array.getElem?_eq_none (by omega)]
      exact ⟨rfl, hfin w9 hown9 hall ((Dk.Only.refl _ V).grown hg9 fun k hk => .inl (.inr (Option.some.inj hk).symm))⟩
end Go.Proofs.Ytgbeeghdoilmkaa
/- Disks: Delete. Conditions: each theorem's own hypotheses. -/
namespace Go.Proofs.Ytgbeeghdoilmkaa
open Go.RowKit Go.Maps Go.Sort
set_option linter.unusedVariables false

/-- What Delete does and answers. -/
def Dk.delete (m : Dk.M) (nm : List UInt8) : Dk.M × Int :=
  if Dk.code m nm ≠ 0 then (m, Dk.code m nm)
  else Dk.acc m m.done (Dk.del Dk.F.name nm m.files)
theorem Dk.del_good {m : Dk.M} (hG : Dk.Good m) (nm : List UInt8) (last : Bool) : Dk.Good (Dk.acc m last (Dk.del Dk.F.name nm m.files)).1 := by
  refine Dk.acc_good hG last _ (Dk.up_del Dk.F.name hG.up nm) (fun f hf => hG.file f (Dk.del_names nm hf)) (Nat.le_trans (List.length_filter_le _ _) hG.many) ?_
  cases hx : Dk.get Dk.F.name nm m.files with
  | none => rw [Dk.del_none (Dk.get_none hx)]; exact hG.used
  | some f => have := Dk.used_del hG.up hx; have := hG.used; omega
theorem Dk.delete_good {m : Dk.M} (hG : Dk.Good m) (nm : List UInt8) : Dk.Good (Dk.delete m nm).1 := by
  unfold Dk.delete
  split
  · exact hG
  · exact Dk.del_good hG nm m.done
set_option maxRecDepth 100000 in
theorem Dk.delete1 {W : World} {d b : Nat} {m : Dk.M} {L : List Dk.X} (h : Dk.Stand W d b m L) (hG : Dk.Good m) {bd bn : Nat} (s : ByteArray) (hs : s.size ≤ maxLen)
    (h1 : Blk W bd 22 #[.pointer (some ⟨d, 0, none⟩)]) (h2 : Blk W bn 9 #[.string s]) :
    Dk.Doing W d b m L 57 #[.pointer (some ⟨bd, 0, none⟩), .pointer (some ⟨bn, 0, none⟩)] (Dk.del Dk.F.name s.data.toList m.files) := by
  intro W1 m1 hS hf hcap ho
  obtain ⟨k1, nf1, l1⟩ := h.box ho h1 (by decide) (by decide) (by decide)
  obtain ⟨k2, nf2, l2⟩ := h.box ho h2 (by decide) (by decide) (by decide)
  have p1 := k1.cell 0
  have p2 := k2.cell 0
  simp only [List.getElem?_toArray, List.getElem?_cons_zero] at p1 p2
  have hc := Dk.remove_any hS (by rw [hf]; exact hG.up) (by rw [hf]; have := hG.used; have := hG.cap; omega) s hs
  rw [hf] at hc
  clear hf hcap ho h hG h1 h2 k1 k2
  go_enter Try.func57, Try.ntmps57
  go_wp2_with (go_at_call 58; refine hc.mono ?_; rintro e w2 ⟨rfl, hS2, ho2⟩)
  go_end0
  refine ⟨rfl, _, ⟨b, _, hS2, rfl⟩, ho2.wide fun k _ hk => ?_, fun k hk => .inl (Dk.foot_del hk)⟩
  rcases hk with rfl | rfl
  · exact .inl rfl
  · exact .inr (.inl rfl)
set_option maxRecDepth 100000 in
set_option maxHeartbeats 4000000 in
theorem Dk.delete_any {W : World} {d : Nat} {m : Dk.M} {F : Nat → Prop} (h : Dk.At W d m F) (hG : Dk.Good m) (s : ByteArray) (hs : s.size ≤ maxLen) :
    Calls Try.prog 24 #[.pointer (some ⟨d, 0, none⟩), .string s] W fun e W' => e = .returned (.int .i64 (Dk.delete m s.data.toList).2) ∧ Dk.Moved W W' d F (Dk.delete m s.data.toList).1 := by
  obtain ⟨b, L, hS0, rfl⟩ := h
  obtain ⟨Z, hZ⟩ : ∃ Z, Dk.delete m s.data.toList = Z := ⟨_, rfl⟩
  rw [hZ]
  unfold Dk.delete at hZ
  have hX : ∃ X bd bn, (W.alloc (.cells #[.pointer (some ⟨d, 0, none⟩)] 22)).alloc (.cells #[.string s] 9) = X ∧ W.heap.size = bd ∧ W.heap.size + 1 = bn ∧ Below W.heap.size W X ∧ Blk X bd 22 #[.pointer (some ⟨d, 0, none⟩)] ∧ Blk X bn 9 #[.string s] := by
    refine ⟨_, _, _, rfl, rfl, rfl, ((Below.refl _ _).alloc (Nat.le_refl _) _).alloc (by simp) _, (Blk.new W _ _).alloc _, ?_⟩
    have := Blk.new (W.alloc (.cells #[.pointer (some ⟨d, 0, none⟩)] 22)) 9 #[.string s]
    rw [World.size_alloc] at this
    exact this
  obtain ⟨X, bd, bn, hXe, hbde, hbne, hBX, k1, k2⟩ := hX
  rw [hbde] at hbne
  have hS := hS0.later hBX (Nat.le_refl _)
  have p1 := k1.cell 0
  have p2 := k2.cell 0
  simp only [List.getElem?_toArray, List.getElem?_cons_zero] at p1 p2
  have hlook := Dk.look_any hS s (by unfold maxLen at hs; omega)
  have hsame : Dk.Moved W X d (Dk.foot d b L) m := Dk.Moved.same ⟨b, L, hS0, rfl⟩ hBX
  obtain ⟨pv, hpv⟩ : ∃ pv, Dk.ptr (Dk.found m L s.data.toList) = pv := ⟨_, rfl⟩
  rw [hpv] at hlook
  clear hpv
  by_cases hc : Dk.code m s.data.toList = 0
  · rw [hc] at hlook
    rw [if_neg (fun h => h hc)] at hZ
    have hSd : Dk.Stand X.drew d b m L := hS.keep fun _ _ => rfl
    have hdo := Dk.delete1 hSd hG (bd := bd) (bn := bn) s hs k1 k2
    have hacc := Dk.accepted_any hSd hG.left m.done _ _ _ hdo (Dk.run_enter Try.func57 (by kernel_rfl) rfl)
    have hdn := Dk.acc_done m m.done (Dk.del Dk.F.name s.data.toList m.files)
    rw [hZ] at hacc hdn
    obtain ⟨c0, c1, c2, c3, c4, c5, c6, c7⟩ := hS.eight
    have nb1 := hS.off k1 (by decide) (by decide) (by decide)
    have hbd0 := k1.lt
    have S0 : X.cell? ⟨bd, 0, none⟩ = some (.pointer (some ⟨d, 0, none⟩)) ∧ X.cell? ⟨d, 7, none⟩ = some (.bool m.done) := ⟨p1, c7⟩
    clear hc hZ hdo c0 c1 c2 c3 c4 c5 c6 k1 k2 hS hS0
    go_enter Try.func24, Try.ntmps24
    go_upto_region 4 with (go_at_call 47; refine hlook.mono ?_; rintro e w2 ⟨rfl, rfl⟩)
    go_region_held_law (fun W' => W'.cell? ⟨bd, 0, none⟩ = some (.pointer (some ⟨d, 0, none⟩)) ∧ W'.cell? ⟨d, 7, none⟩ = some (.bool m.done))
      (first
        | with_reducible assumption
        | exact S0
        | exact S9)
      (first
        | (go_at_call 55; refine hacc.mono ?_; rintro e w2 ⟨rfl, hM⟩
           have S9 : w2.cell? ⟨bd, 0, none⟩ = some (.pointer (some ⟨d, 0, none⟩)) ∧ w2.cell? ⟨d, 7, none⟩ = some (.bool m.done) := by
             obtain ⟨F', ⟨b', L', h3, rfl⟩, o3, f3⟩ := hM
             refine ⟨(World.cell?_of_block (o3.block bd hbd0 nb1)).trans p1, ?_⟩
             rw [← hdn]
             exact h3.eight.2.2.2.2.2.2.2))
    all_goals (try go_wp2_with fail)
    all_goals
      go_ret
      exact ⟨rfl, Dk.Moved.from hBX.drew hM⟩
  · rw [if_pos hc] at hZ
    obtain ⟨e, he⟩ : ∃ e, Dk.code m s.data.toList = e := ⟨_, rfl⟩
    rw [he] at hlook hZ hc
    have u1 : (e != 0) = true := by rw [bne_iff_ne]; exact hc
    subst hZ
    clear he hc k1 k2 hS hS0
    go_enter Try.func24, Try.ntmps24
    go_wp2_with (go_at_call 47; refine hlook.mono ?_; rintro e w2 ⟨rfl, rfl⟩)
    go_ret
    exact ⟨rfl, hsame⟩
end Go.Proofs.Ytgbeeghdoilmkaa
