/- Disks: Cut, whole. Conditions: each theorem's own hypotheses. -/
import Derived.Test.YthhkebkpophkiaaDoorDkV
namespace Go.Proofs.YthhkebkpophkiaaDoor
open Go.RowKit Go.Maps Go.Sort
set_option linter.unusedVariables false

set_option maxRecDepth 100000 in
set_option maxHeartbeats 4000000 in
theorem Dk.cut_any {W : World} {d : Nat} {m : Dk.M} {F : Nat → Prop} (h : Dk.At W d m F) (hG : Dk.Good m) (s : ByteArray) (hs : s.size ≤ 9223372036854775807) (n : Int) (hn : -9223372036854775808 ≤ n ∧ n < 9223372036854775808) :
    Calls Tryd.prog 25 #[.pointer (some ⟨d, 0, none⟩), .string s, .int .i64 n] W fun e W' => e = .returned (.int .i64 (Dk.cut m s.data.toList n).2) ∧ Dk.Moved W W' d F (Dk.cut m s.data.toList n).1 := by
  obtain ⟨b, L, hS0, rfl⟩ := h
  obtain ⟨Z, hZ⟩ : ∃ Z, Dk.cut m s.data.toList n = Z := ⟨_, rfl⟩
  rw [hZ]
  unfold Dk.cut at hZ
  have HZ := Lib.hid hZ
  clear hZ
  have hX : ∃ X bd bn, (W.alloc (.cells #[.pointer (some ⟨d, 0, none⟩)] 22)).alloc (.cells #[.int .i64 n] 3) = X ∧ W.heap.size = bd ∧ W.heap.size + 1 = bn ∧ Below W.heap.size W X ∧ Blk X bd 22 #[.pointer (some ⟨d, 0, none⟩)] ∧ Blk X bn 3 #[.int .i64 n] := by
    refine ⟨_, _, _, rfl, rfl, rfl, ((Below.refl _ _).alloc (Nat.le_refl _) _).alloc (by simp) _, (Blk.new W _ _).alloc _, ?_⟩
    have := Blk.new (W.alloc (.cells #[.pointer (some ⟨d, 0, none⟩)] 22)) 3 #[.int .i64 n]
    rw [World.size_alloc] at this
    exact this
  obtain ⟨X, bd, bn, hXe, hbde, hbne, hBX, k1, k2⟩ := hX
  rw [hbde] at hbne
  have hS := hS0.later hBX (Nat.le_refl _)
  have p1 := k1.cell 0
  have p2 := k2.cell 0
  simp only [List.getElem?_toArray, List.getElem?_cons_zero] at p1 p2
  have hlook := Dk.look_any hS s hs
  have hA0 : Dk.At W d m (Dk.foot d b L) := ⟨b, L, hS0, rfl⟩
  by_cases hc : Dk.code m s.data.toList = 0
  · obtain ⟨x, hx1, hx, hx2, hx3⟩ := Dk.found_file hS hc
    rw [hx1, hc] at hlook
    unfold Dk.ptr at hlook
    simp only at hlook
    obtain ⟨n1, n2, n3, n4, n5⟩ := Dk.code_zero hc
    obtain ⟨f1, f2, f3⟩ := hG.file _ n5
    have hZ := HZ.out
    rw [if_neg (fun h => h hc), ← hx3] at hZ
    rw [← hx3] at f2 f3
    obtain ⟨k, hk⟩ : ∃ k, x.f.data.length = k := ⟨_, rfl⟩
    rw [hk] at hZ f2 f3
    have hY : ∃ Y bf, X.alloc (.cells #[.pointer (some ⟨x.blk, 0, none⟩)] 77) = Y ∧ X.heap.size = bf ∧ Blk Y bf 77 #[.pointer (some ⟨x.blk, 0, none⟩)] ∧ Blk Y bd 22 #[.pointer (some ⟨d, 0, none⟩)] ∧ Blk Y bn 3 #[.int .i64 n] ∧ Dk.Stand Y d b m L ∧ Below W.heap.size W Y :=
      ⟨_, _, rfl, rfl, Blk.new X _ _, k1.alloc _, k2.alloc _, hS.later ((Below.refl _ _).alloc (Nat.le_refl _) _) (Nat.le_refl _), hBX.alloc hBX.size _⟩
    obtain ⟨Y, bf, hYe, hbfe, j3, j1, j2, hSY, hBY⟩ := hY
    have r1 := j1.cell 0
    have r2 := j2.cell 0
    have r3 := j3.cell 0
    simp only [List.getElem?_toArray, List.getElem?_cons_zero] at r1 r2 r3
    obtain ⟨q0, q1⟩ := hSY.two hx
    obtain ⟨a, c, hxv⟩ := (hSY.file x hx).2.slice
    rw [hxv, hk] at q0
    obtain ⟨c0, c1, c2, c3, c4, c5, c6, c7⟩ := hSY.eight
    have HN := Lib.hid (And.intro hk hxv)
    have HC := Lib.hid (And.intro hc (And.intro hx2 hx3))
    have hsame : Dk.Moved W Y d (Dk.foot d b L) m := Dk.Moved.same hA0 hBY
    clear hk hxv hc hx2 hx3 HZ n1 n2 n3 n4 n5 f1 k1 k2 hS hS0 hBX hx1 c0 c1 c2 c3 c4 c5 c6
    by_cases g1 : n < 0
    · have u1 : decide (n < 0) = true := decide_eq_true g1
      rw [if_pos (.inl g1)] at hZ
      subst hZ
      clear g1
      go_enter Tryd.func25, Tryd.ntmps25
      go_upto_region 4 with (go_at_call 34; refine hlook.mono ?_; rintro e w2 ⟨rfl, rfl⟩)
      go_quiet (fail)
      go_wp2_with fail
      go_ret
      exact ⟨rfl, hsame.dn _⟩
    · have u1 : decide (n < 0) = false := decide_eq_false g1
      obtain ⟨n, rfl⟩ := Int.eq_ofNat_of_zero_le (Int.not_lt.1 g1)
      by_cases g2 : k < n
      · have u2 : decide (k < n) = true := decide_eq_true g2
        rw [if_pos (.inr (by omega))] at hZ
        subst hZ
        clear g1 g2
        go_enter Tryd.func25, Tryd.ntmps25
        go_upto_region 4 with (go_at_call 34; refine hlook.mono ?_; rintro e w2 ⟨rfl, rfl⟩)
        go_quiet (fail)
        go_wp2_with fail
        go_ret
        exact ⟨rfl, hsame.dn _⟩
      · have u2 : decide (k < n) = false := decide_eq_false g2
        rw [if_neg (by omega), Int.toNat_natCast] at hZ
        have hacc : ∀ V : World, V.heap = Y.heap → Below W.heap.size W V → Calls Tryd.prog 35 #[.pointer (some ⟨d, 0, none⟩), .bool m.done, .func (.func 58) #[] #[.pointer (some ⟨bd, 0, none⟩), .pointer (some ⟨bf, 0, none⟩), .pointer (some ⟨bn, 0, none⟩)]] V
            fun e W' => e = .returned (.int .i64 Z.2) ∧ Dk.Moved W W' d (Dk.foot d b L) Z.1 ∧ W'.cell? ⟨bd, 0, none⟩ = some (.pointer (some ⟨d, 0, none⟩)) ∧ W'.cell? ⟨d, 7, none⟩ = some (.bool m.done) := by
          intro V hV hBV
          have hh : ∀ k : Nat, V.heap[k]? = Y.heap[k]? := fun k => by rw [hV]
          have hSd : Dk.Stand V d b m L := hSY.keep fun k _ => hh k
          have i1 : Blk V bd 22 #[.pointer (some ⟨d, 0, none⟩)] := (hh _).trans j1
          have hdo := Dk.cut1 hSd hG hx (bd := bd) (bf := bf) (bn := bn) n (by have := HN.out.1; omega) i1 ((hh _).trans j3) ((hh _).trans j2)
          rw [HC.out.2.1] at hdo
          have hdn := Dk.acc_done m m.done (Dk.upd s.data.toList (Dk.cutF x.f n) m.files)
          rw [hZ] at hdn
          have nb1 := hSd.off i1 (by decide) (by decide) (by decide)
          have := Dk.accepted_any hSd hG.left m.done _ _ _ hdo (Dk.run_enter Tryd.func58 (by kernel_rfl) rfl)
          rw [hZ] at this
          refine this.mono fun e W' h => ⟨h.1, Dk.Moved.from hBV h.2, ?_⟩
          obtain ⟨F', ⟨b', L', h3, rfl⟩, o3, f3⟩ := h.2
          refine ⟨(World.cell?_of_block (o3.block bd i1.lt nb1)).trans ((World.cell?_of_block (hh bd)).trans r1), ?_⟩
          rw [← hdn]
          exact h3.eight.2.2.2.2.2.2.2
        clear hZ
        go_enter Tryd.func25, Tryd.ntmps25
        go_upto_region 4 with (go_at_call 34; refine hlook.mono ?_; rintro e w2 ⟨rfl, rfl⟩)
        go_quiet (fail)
        go_upto_region 6 with fail
        obtain ⟨V, hV, hVY, hBV, v1, v7⟩ : ∃ V, Y.drewN nq = V ∧ V.drew.heap = Y.heap ∧ Below W.heap.size W V.drew ∧ V.cell? ⟨bd, 0, none⟩ = some (.pointer (some ⟨d, 0, none⟩)) ∧ V.cell? ⟨d, 7, none⟩ = some (.bool m.done) := ⟨_, rfl, rfl, (below_dn hBY nq).drew, r1, c7⟩
        have hacc2 := hacc V.drew hVY hBV
        rw [hV]
        clear hacc hV hVY hBV
        go_region_held_law (fun W' => W'.cell? ⟨bd, 0, none⟩ = some (.pointer (some ⟨d, 0, none⟩)) ∧ W'.cell? ⟨d, 7, none⟩ = some (.bool m.done))
          (first
            | with_reducible assumption
            | exact ⟨v1, v7⟩
            | exact S9)
          (first
            | (go_at_call 35; refine hacc2.mono ?_; rintro e w2 ⟨rfl, hM, S9⟩))
        all_goals (try go_wp2_with fail)
        all_goals
          go_ret
          exact ⟨rfl, hM⟩
  · have hnone := Dk.found_none hS hc
    rw [hnone] at hlook
    unfold Dk.ptr at hlook
    simp only at hlook
    have hZ := HZ.out
    rw [if_pos hc] at hZ
    obtain ⟨e, he⟩ : ∃ e, Dk.code m s.data.toList = e := ⟨_, rfl⟩
    rw [he] at hlook hZ hc
    have u1 : (e != 0) = true := by rw [bne_iff_ne]; exact hc
    subst hZ
    have hB2 : Below W.heap.size W (X.alloc (.cells #[.pointer none] 77)) := hBX.alloc hBX.size _
    have hsame : Dk.Moved W (X.alloc (.cells #[.pointer none] 77)) d (Dk.foot d b L) m := Dk.Moved.same hA0 hB2
    clear he hc HZ hnone
    go_enter Tryd.func25, Tryd.ntmps25
    go_wp2_with (go_at_call 34; refine hlook.mono ?_; rintro e w2 ⟨rfl, rfl⟩)
    go_ret
    exact ⟨rfl, hsame⟩
end Go.Proofs.YthhkebkpophkiaaDoor
/- Disks: a file taken away. Conditions: each theorem's own hypotheses. -/
namespace Go.Proofs.YthhkebkpophkiaaDoor
open Go.RowKit Go.Maps Go.Sort
set_option linter.unusedVariables false

theorem Dk.map_tight {W : World} {b n : Nat} {D : DataW Unit} (h : W.ownsMap Tryd.prog 9 Dk.R b n D) : W.ownsMap Tryd.prog 9 Dk.R b (Maps.size D) D := by
  obtain ⟨es, clock, hb, F, hs, rfl⟩ := h
  refine ⟨es, clock, hb, F, Nat.le_of_eq ?_, rfl⟩
  exact (length_read (H := Unit) (P := Tryd.prog) (k := 9) (R0 := Dk.R) es).symm
theorem Dk.turned {w w' : World} {b : Nat} (h : w.mapTurned w' b) : w.grownBy w' (some b) := by
  obtain ⟨es, clock, es', clock', hb, rfl⟩ := h
  exact ⟨rfl, rfl, rfl, by simp [Go.ChangeMaps.setBlock], fun i _ hi => Go.ChangeMaps.heap_setBlock_other hb _ (fun e => hi (by rw [e]))⟩
theorem Dk.del_names {α : Type} {key : α → List UInt8} (nm : List UInt8) {l : List α} {x : α} (h : x ∈ Dk.del key nm l) : x ∈ l := ((Dk.mem_del key).1 h).1
theorem Dk.used_del {nm : List UInt8} {l : List Dk.F} (h : Dk.Up Dk.F.name l) {f : Dk.F} (hf : Dk.get Dk.F.name nm l = some f) : Dk.used (Dk.del Dk.F.name nm l) + f.data.length = Dk.used l := by
  rw [Dk.used_perm (Dk.perm_get h hf), Dk.used_cons]
  omega
theorem Dk.Stand.without {W W' : World} {d b : Nat} {m m' : Dk.M} {L : List Dk.X} (h : Dk.Stand W d b m L) (nm : List UInt8)
    (hd : Blk W' d 73 (Dk.cells b m')) {n : Nat} (hm : W'.ownsMap Tryd.prog 9 Dk.R b n ((Dk.dat L).del (.string nm))) (hf : m'.files = Dk.del Dk.F.name nm m.files)
    (hk : ∀ k, k < W.heap.size → k ≠ d → k ≠ b → W'.heap[k]? = W.heap[k]?) : Dk.Stand W' d b m' (Dk.del Dk.X.nm nm L) := by
  have hlone := h.lone
  have hbl : ∀ y ∈ L, (∀ k, (y.blk = k ∨ y.v.ownBlock = some k) → k ≠ b) := by
    intro y hy k hk2 hkb
    subst hkb
    obtain ⟨es, clock, hmb, _⟩ := h.map
    rcases hk2 with e | e
    · have h1 := (h.file y hy).1
      unfold Blk at h1
      rw [e, hmb] at h1
      cases h1
    · obtain ⟨cur, fz, h1⟩ := (h.file y hy).2.type e
      rw [hmb] at h1
      cases h1
  refine ⟨hd, ?_, ?_, fun y hy => ?_, ?_⟩
  · rw [Dk.dat_del] at hm
    have := Dk.map_tight hm
    rw [Dk.dat_size] at this
    exact this
  · rw [Dk.map_del (g := fun x : Dk.X => x.f) (key' := Dk.F.name) (fun y => rfl), h.fs, hf]
  · have hy := Dk.del_names nm hy
    obtain ⟨h1, h2⟩ := h.file y hy
    exact ⟨(hk y.blk h1.lt (hlone _ (.inr ⟨y, hy, .inl rfl⟩)) (hbl y hy _ (.inl rfl))).trans h1, h2.keep fun k e => hk k (h2.lt k e) (hlone k (.inr ⟨y, hy, .inr e⟩)) (hbl y hy k (.inr e))⟩
  · exact List.Pairwise.filter _ h.apart
theorem Dk.foot_del {d b : Nat} {L : List Dk.X} {nm : List UInt8} {k : Nat} (h : Dk.foot d b (Dk.del Dk.X.nm nm L) k) : Dk.foot d b L k := by
  rcases h with rfl | rfl | ⟨x, hx, hk⟩
  · exact .inl rfl
  · exact .inr (.inl rfl)
  · exact .inr (.inr ⟨x, Dk.del_names nm hx, hk⟩)
def Dk.o19 : Op := Op.load 3 (Operand.tmp 18)
attribute [go_sem] Dk.o19
end Go.Proofs.YthhkebkpophkiaaDoor
/- Disks: Delete. Conditions: each theorem's own hypotheses. -/
namespace Go.Proofs.YthhkebkpophkiaaDoor
open Go.RowKit Go.Maps Go.Sort
set_option linter.unusedVariables false

/-- What Delete does and answers. -/
def Dk.delete (m : Dk.M) (nm : List UInt8) : Dk.M × Int :=
  if Dk.code m nm ≠ 0 then (m, Dk.code m nm)
  else Dk.acc m m.done (Dk.del Dk.F.name nm m.files)
theorem Dk.del_good {m : Dk.M} (hG : Dk.Good m) (nm : List UInt8) (last : Bool) : Dk.Good (Dk.acc m last (Dk.del Dk.F.name nm m.files)).1 := by
  refine Dk.acc_good hG last _ (Dk.up_del Dk.F.name hG.up nm) (fun f hf => hG.file f (Dk.del_names nm hf)) (Nat.le_trans (List.length_filter_le _ _) hG.many) ?_
  cases hx : Dk.get Dk.F.name nm m.files with
  | none => rw [Dk.del_none (Dk.get_none hx)]; exact hG.used
  | some f => have := Dk.used_del hG.up hx; have := hG.used; omega
theorem Dk.delete_good {m : Dk.M} (hG : Dk.Good m) (nm : List UInt8) : Dk.Good (Dk.delete m nm).1 := by
  unfold Dk.delete
  split
  · exact hG
  · exact Dk.del_good hG nm m.done
end Go.Proofs.YthhkebkpophkiaaDoor
