/- What is known of files: the helper told. Conditions: each theorem's own hypotheses. -/
import Derived.Test.YtgbeeghdoilmkaaDsB
import Derived.Deep.RegionHeldLaw
import Derived.Deep.RegionHeld3
namespace Go.Proofs.Ytgbeeghdoilmkaa
open Go.RowKit Go.Maps Go.Sort
set_option linter.unusedVariables false

theorem Ds.Ls.alloc {W : World} {B : Nat} {v : Value} {l : List Dk.F} (h : Ds.Ls W B v l) (o : Obj) : Ds.Ls (W.alloc o) B v l := h.keep fun k hk => Below.heap_alloc W o k (h.lt hk).2
/-- One file put behind a row. -/
theorem Ds.Ls.cat {w : World} {B : Nat} {v : Value} {l : List Dk.F} (h : Ds.Ls w B v l) (f : Dk.F) {g c : Nat} (hc : ∀ j u, (Ds.cells [f])[j]? = some u → w.cell? ((⟨g, 0, none⟩ : Addr).add j) = some u) (hl : l.length ≤ 3000000000) (hB : B ≤ w.heap.size) (ty : TypeId) :
    ∃ v' w', (Builtin.append_ #[42, 42] ty #[v, .slice (some ⟨g, 0, none⟩) 1 c]).run Try.prog w = .ok v' w' ∧ Ds.Ls w' B v' (l ++ [f]) ∧ w.grownBy w' v.ownBlock := by
  obtain ⟨i, hi, hz0, hz1, hz2⟩ := info_parts Try.infoKnown
  obtain ⟨v', w', h1, h2, h3, _⟩ := run_append_own (P := Try.prog) w B 42 ty 50 i _ 3 40 Try.underlying42 hi hz0 hz1 hz2 rfl (by decide) v l.length (Ds.cells l) h ⟨g, 0, none⟩ 1 c (Ds.cells [f]) rfl hc (Ds.cells_one _) (by unfold maxLen; omega) (by omega) hB
  refine ⟨v', w', h1, ?_, h3⟩
  unfold Ds.Ls
  rw [List.length_append, Ds.cells_append]
  exact h2
/-- What told does to memory. -/
def Ds.Toldly (w W' : World) (B : Nat) (v v' : Value) (L' : List Dk.F) : Prop :=
  Ds.Ls W' B v' L' ∧ Dk.Only (fun k => v.ownBlock = some k) w W' ∧ ∀ k, v'.ownBlock = some k → v.ownBlock = some k ∨ w.heap.size ≤ k
/-- The loads of a file's bytes, under names. -/
def Ds.o36 : Op := Op.load 9 (Operand.tmp 35)
def Ds.o77 : Op := Op.load 9 (Operand.tmp 76)
attribute [go_sem] Ds.o36 Ds.o77
set_option maxRecDepth 100000 in
set_option maxHeartbeats 4000000 in
theorem Ds.told_any {w : World} {B : Nat} {v : Value} {L L' : List Dk.F} (h : Ds.Ls w B v L) (hl : L.length ≤ 1000000) (hd : ∀ f ∈ L, f.data.length ≤ 268435456 ∧ f.sure ≤ f.data.length) (hB : B ≤ w.heap.size) (s : Dw.S) (hs : Dw.Fit w s) (hT : Ds.To s L L') :
    Calls Try.prog 21 #[v, .agg (Dw.cells s)] w fun e W' => ∃ v', e = .returned (.tuple #[v', .bool true]) ∧ Ds.Toldly w W' B v v' L' := by
  obtain ⟨i0, hi, hz0, hz1, hz2⟩ := info_parts Try.infoKnown
  obtain ⟨kk, nm, to_, da, at_, n, dn, cv, cs⟩ := s
  obtain ⟨f1, f2, f3, _, f5, f6, _, _⟩ := hs
  simp only at f1 f2 f3 f5 f6
  obtain ⟨ca, cc, rfl⟩ := f6.form
  unfold Ds.To at hT
  unfold Dw.cells
  simp only at hT ⊢
  obtain ⟨nb, hnb, hnbs⟩ := Tx.of nm
  obtain ⟨tb, htb, htbs⟩ := Tx.of to_
  obtain ⟨sb, hsb, hsbs⟩ := Tx.of da
  rw [Tx.v_eq hnb, Tx.v_eq htb, Tx.v_eq hsb]
  obtain ⟨a, c, rfl⟩ := h.form
  have hB0 : ∀ o, Below w.heap.size w (w.alloc o) := fun o => (Below.refl _ _).alloc (Nat.le_refl _) o
  have h1 : ∀ o, Ds.Ls (w.alloc o) B (.slice a L.length c) L := fun o => h.below (hB0 o)
  rcases hT with ⟨rfl, hno, rfl⟩ | ⟨k, f, hk, hfn, hNo, hT⟩
  · have ka := fun o => Ds.at_any (h1 o) (by omega) nb (-1) fun k _ => ⟨fun _ => rfl, fun f hf e => absurd (e.trans hnb) (hno f (List.mem_of_getElem? hf))⟩
    have hone := fun w => Ds.one_cells w (nb := nb) (db := ⟨#[]⟩) (f := Dk.empty nm) hnb rfl
    simp only [show (((Dk.empty nm).sure : Nat) : Int) = 0 from rfl] at hone
    have hzz : (w.alloc (.cells #[.int .i64 1, .string nb, .string tb, .string sb, .int .i64 at_, .int .i64 n, .bool dn, .slice ca cs.length cc] 45)).heap.size = w.heap.size + 1 := by simp
    clear hnb htb hsb hno
    go_enter Try.func21, Try.ntmps21
    go_wp2_with (first
      | (go_at_call 53; refine (ka _).mono ?_; rintro e w' ⟨rfl, rfl⟩)
      | (at_builtin; refine wpList_append_lies _ rfl (.tmp 15) (.tmp 19) 42 rfl B 50 i0 (.agg #[.string ⟨#[]⟩, .string ⟨#[]⟩, .int .i64 0]) 3 40 Try.underlying42 hi hz0 hz1 hz2 rfl (by decide) _ _ _ (by simp [Act.eval]) (World.ownsRow.alloc (h1 _) _) ⟨_, 0, none⟩ 1 1 (Ds.cells [Dk.empty nm]) (by simp [Act.eval]) rfl (hone _) (Ds.cells_one _) (by decide) (by unfold maxLen; omega) (by omega) (by (try simp); omega) (w.heap.size + 1 + 1) (by simp) ?_; intro g2 c2 w2 hown2 hgrow2 hat2 _))
    go_ret2
    refine ⟨_, rfl, ?_, ?_, fun k hk => ?_⟩
    · show Ds.Ls w2 B (.slice (some ⟨g2, 0, none⟩) (L.length + 1) c2) _
      unfold Ds.Ls; rw [List.length_append, Ds.cells_append]; exact hown2
    · exact (((Dk.Only.refl _ _).alloc _).alloc _).grown hgrow2 fun k hk => .inl hk
    · obtain rfl : g2 = k := Option.some.inj hk
      rcases hat2 with e | e
      · exact .inl e
      · exact .inr (by omega)
  · have ka := fun o => Ds.at_any (h1 o) (by omega) nb k fun j hj => ⟨fun e => by
        have hlt := (List.getElem?_eq_some_iff.1 hk).1
        exact absurd (hfn.trans hnb.symm) (hj k (by omega) f hk), fun x hx e => by
        rw [hnb] at hj e
        by_cases e1 : j < k
        · exact absurd e (hNo j e1 x hx)
        by_cases e2 : k < j
        · exact absurd hfn (hj k e2 f hk)
        rw [show j = k by omega]⟩
    obtain ⟨hfl, hfs⟩ := hd f (List.mem_of_getElem? hk)
    obtain ⟨g, c', fb, fd, hv, hklt, hfb, hfd, hfds, _⟩ := h.three hk
    injection hv with hv1 _ hv2
    subst hv1 hv2
    have hgl : g < w.heap.size := (h.lt (k := g) rfl).2
    have hrd : ∀ {w' : World}, w'.heap[g]? = w.heap[g]? → w'.cell? ⟨g, k * 3, none⟩ = some (.string fb) ∧ w'.cell? ⟨g, k * 3 + 1, none⟩ = some (.string fd) ∧ w'.cell? ⟨g, k * 3 + 2, none⟩ = some (.int .i64 f.sure) ∧ w'.frozen? ⟨g, k * 3 + 1, none⟩ = false ∧ w'.frozen? ⟨g, k * 3 + 2, none⟩ = false := fun he => by
      obtain ⟨g2, c2, e, q0, q1, q2, q3⟩ := h.at_ hk
      injection e with e
      injection e with e
      injection e with e
      subst e
      rw [Tx.v_eq hfb] at q0
      rw [Tx.v_eq hfd] at q1
      exact ⟨(World.cell?_of_block he).trans q0, (World.cell?_of_block he).trans q1, (World.cell?_of_block he).trans q2, (World.frozen?_of_block he).trans (q3 _), (World.frozen?_of_block he).trans (q3 _)⟩
    rcases hT with ⟨rfl, rfl⟩ | ⟨rfl, rfl⟩ | ⟨rfl, hn0, hn1, rfl⟩ | ⟨rfl, rfl⟩ | ⟨rfl, rfl⟩
    · have hcat : ¬ 9223372036854775807 < fd.size + sb.size := by omega
      have hnew : Tx.v (f.data ++ da) = .string (fd ++ sb) := Tx.v_eq (by rw [Tx.append, hfd, hsb])
      have hset := fun w' (hl : Ds.Ls w' B (.slice (some ⟨g, 0, none⟩) L.length c) L) => hl.set1 hk (f.data ++ da)
      rw [hnew] at hset
      obtain ⟨gb, hgb⟩ : ∃ gb, fd ++ sb = gb := ⟨_, rfl⟩
      rw [hgb] at hset
      have h2 := h1 (.cells #[.int .i64 2, .string nb, .string tb, .string sb, .int .i64 at_, .int .i64 n, .bool dn, .slice ca cs.length cc] 45)
      have hp : Blk (w.alloc (.cells #[.int .i64 2, .string nb, .string tb, .string sb, .int .i64 at_, .int .i64 n, .bool dn, .slice ca cs.length cc] 45)) w.heap.size 45 #[.int .i64 2, .string nb, .string tb, .string sb, .int .i64 at_, .int .i64 n, .bool dn, .slice ca cs.length cc] := Blk.new _ _ _
      obtain ⟨r0, r1, r2, r3, r4⟩ := hrd (w' := w.alloc (.cells #[.int .i64 2, .string nb, .string tb, .string sb, .int .i64 at_, .int .i64 n, .bool dn, .slice ca cs.length cc] 45)) (Below.heap_alloc _ _ _ hgl)
      have hB2 := hB0 (.cells #[.int .i64 2, .string nb, .string tb, .string sb, .int .i64 at_, .int .i64 n, .bool dn, .slice ca cs.length cc] 45)
      have hgp : w.heap.size ≠ g := by omega
      clear hnb htb hsb hfb hfd hfds hnew hNo hrd h1 hB0
      go_enter Try.func21, Try.ntmps21
      go_upto_region 8 with (go_at_call 53; refine (ka _).mono ?_; rintro e w' ⟨rfl, rfl⟩)
      obtain ⟨W1, hW1⟩ : ∃ W1, w.alloc (.cells #[.int .i64 2, .string nb, .string tb, .string sb, .int .i64 at_, .int .i64 n, .bool dn, .slice ca cs.length cc] 45) = W1 := ⟨_, rfl⟩
      rw [hW1] at h2 hp r1 r2 r3 r4 hB2 ⊢
      obtain ⟨p, hpp⟩ : ∃ p, w.heap.size = p := ⟨_, rfl⟩
      have HPP := Lib.hid hpp
      rw [hpp] at hp hgp ⊢
      clear hW1 hpp
      have S0 : W1.frozen? ⟨g, k * 3 + 1, none⟩ = false ∧ W1.cell? ⟨p, 3, none⟩ = some (.string sb) := ⟨r3, hp.cell 3⟩
      have S0d : W1.drew.frozen? ⟨g, k * 3 + 1, none⟩ = false ∧ W1.drew.cell? ⟨p, 3, none⟩ = some (.string sb) := S0
      have r1d : W1.drew.cell? ⟨g, k * 3 + 1, none⟩ = some (.string fd) := r1
      have S9 : ∀ u, (W1.drew.setCell ⟨g, k * 3 + 1, none⟩ u).frozen? ⟨g, k * 3 + 1, none⟩ = false ∧ (W1.drew.setCell ⟨g, k * 3 + 1, none⟩ u).cell? ⟨p, 3, none⟩ = some (.string sb) := fun u => ⟨by rw [World.frozen?_setCell]; exact S0.1, (World.cell?_of_block (Below.heap_setCell W1.drew ⟨g, k * 3 + 1, none⟩ u p hgp)).trans S0.2⟩
      clear ka r0 r2 r4 hp
      rw [show Op.load 9 (Operand.tmp 35) = Ds.o36 from rfl]
      go_region_held_law (fun W' => W'.frozen? ⟨g, k * 3 + 1, none⟩ = false ∧ W'.cell? ⟨p, 3, none⟩ = some (.string sb))
        (first
          | with_reducible assumption
          | exact S0
          | exact S0d
          | exact S9 _)
        (fail)
      all_goals (try go_wp2_with fail)
      all_goals go_ret2
      all_goals exact ⟨_, rfl, (hset _ h2).keep fun _ _ => rfl, (Dk.Only.setCell (F := fun k => (Value.slice (some ⟨g, 0, none⟩) L.length c).ownBlock = some k) (p := ⟨g, k * 3 + 1, none⟩) (Dk.Only.of hB2) (.inl rfl) _).drew, fun k hk => .inl hk⟩
    · have hset := fun w' (hl : Ds.Ls w' B (.slice (some ⟨g, 0, none⟩) L.length c) L) => hl.set2 hk fd.size
      have hsy : Dk.synced f = ⟨f.name, f.data, fd.size⟩ := by rw [hfds]; rfl
      rw [hsy]
      have h2 := h1 (.cells #[.int .i64 3, .string nb, .string tb, .string sb, .int .i64 at_, .int .i64 n, .bool dn, .slice ca cs.length cc] 45)
      have hp : Blk (w.alloc (.cells #[.int .i64 3, .string nb, .string tb, .string sb, .int .i64 at_, .int .i64 n, .bool dn, .slice ca cs.length cc] 45)) w.heap.size 45 #[.int .i64 3, .string nb, .string tb, .string sb, .int .i64 at_, .int .i64 n, .bool dn, .slice ca cs.length cc] := Blk.new _ _ _
      obtain ⟨r0, r1, r2, r3, r4⟩ := hrd (w' := w.alloc (.cells #[.int .i64 3, .string nb, .string tb, .string sb, .int .i64 at_, .int .i64 n, .bool dn, .slice ca cs.length cc] 45)) (Below.heap_alloc _ _ _ hgl)
      have hB2 := hB0 (.cells #[.int .i64 3, .string nb, .string tb, .string sb, .int .i64 at_, .int .i64 n, .bool dn, .slice ca cs.length cc] 45)
      have hgp : w.heap.size ≠ g := by omega
      clear hnb htb hsb hfb hfd hfds hNo hrd h1 hB0 hsy
      go_enter Try.func21, Try.ntmps21
      go_wp2_with (go_at_call 53; refine (ka _).mono ?_; rintro e w' ⟨rfl, rfl⟩)
      go_ret2
      exact ⟨_, rfl, (hset _ h).below ((Below.refl _ _).alloc (Nat.le_refl _) _), (Dk.Only.setCell (F := fun k => (Value.slice (some ⟨g, 0, none⟩) L.length c).ownBlock = some k) (p := ⟨g, k * 3 + 2, none⟩) (Dk.Only.refl _ _) (.inl rfl) _).alloc _, fun k hk => .inl hk⟩
    · obtain ⟨nn, rfl⟩ := Int.eq_ofNat_of_zero_le hn0
      have u1 : decide (((nn : Nat) : Int) < 0) = false := decide_eq_false (by omega)
      have u2 : decide (fd.size < nn) = false := decide_eq_false (by omega)
      have u3 : (nn : Int) ≤ (fd.size : Int) := by omega
      have hnew : Tx.v (f.data.take nn) = .string (fd.extract 0 nn) := Tx.v_eq (by rw [Tx.extract, hfd, List.drop_zero, Nat.sub_zero])
      have hset := fun w' (hl : Ds.Ls w' B (.slice (some ⟨g, 0, none⟩) L.length c) L) => hl.set1 hk (f.data.take nn)
      have hset2 := fun w' (hl : Ds.Ls w' B (.slice (some ⟨g, 0, none⟩) L.length c) (L.set k ⟨f.name, f.data.take nn, f.sure⟩)) => Ds.Ls.set2 (g := g) (c := c) (by rw [List.length_set]; exact hl) (k := k) (f := ⟨f.name, f.data.take nn, f.sure⟩) (by rw [List.getElem?_set_self hklt]) nn
      simp only [List.length_set, List.set_set] at hset2
      rw [Int.toNat_natCast]
      rw [hnew] at hset
      obtain ⟨gb, hgb⟩ : ∃ gb, fd.extract 0 nn = gb := ⟨_, rfl⟩
      rw [hgb] at hset
      have h2 := h1 (.cells #[.int .i64 4, .string nb, .string tb, .string sb, .int .i64 at_, .int .i64 (nn : Int), .bool dn, .slice ca cs.length cc] 45)
      have hp : Blk (w.alloc (.cells #[.int .i64 4, .string nb, .string tb, .string sb, .int .i64 at_, .int .i64 (nn : Int), .bool dn, .slice ca cs.length cc] 45)) w.heap.size 45 #[.int .i64 4, .string nb, .string tb, .string sb, .int .i64 at_, .int .i64 (nn : Int), .bool dn, .slice ca cs.length cc] := Blk.new _ _ _
      obtain ⟨r0, r1, r2, r3, r4⟩ := hrd (w' := w.alloc (.cells #[.int .i64 4, .string nb, .string tb, .string sb, .int .i64 at_, .int .i64 (nn : Int), .bool dn, .slice ca cs.length cc] 45)) (Below.heap_alloc _ _ _ hgl)
      have hB2 := hB0 (.cells #[.int .i64 4, .string nb, .string tb, .string sb, .int .i64 at_, .int .i64 (nn : Int), .bool dn, .slice ca cs.length cc] 45)
      have hgp : w.heap.size ≠ g := by omega
      clear hnb htb hsb hfb hfd hfds hnew hNo hrd h1 hB0 hn0 hn1
      go_enter Try.func21, Try.ntmps21
      go_upto_region 12 with (go_at_call 53; refine (ka _).mono ?_; rintro e w' ⟨rfl, rfl⟩)
      obtain ⟨W1, hW1⟩ : ∃ W1, w.alloc (.cells #[.int .i64 4, .string nb, .string tb, .string sb, .int .i64 at_, .int .i64 (nn : Int), .bool dn, .slice ca cs.length cc] 45) = W1 := ⟨_, rfl⟩
      rw [hW1] at h2 hp r1 r2 r3 r4 hB2 ⊢
      obtain ⟨p, hpp⟩ : ∃ p, w.heap.size = p := ⟨_, rfl⟩
      have HPP := Lib.hid hpp
      rw [hpp] at hp hgp ⊢
      clear hW1 hpp
      have p5 := hp.cell 5
      simp only [List.getElem?_toArray, List.getElem?_cons_zero, List.getElem?_cons_succ] at p5
      clear ka r0
      go_quiet (fail)
      go_upto_region 14 with fail
      obtain ⟨W2, hW2⟩ : ∃ W2, W1.drewN nq = W2 := ⟨_, rfl⟩
      have h3 : Ds.Ls W2 B (.slice (some ⟨g, 0, none⟩) L.length c) L := by rw [← hW2]; exact h2.keep fun _ _ => rfl
      have hB3 : Below w.heap.size w W2 := by rw [← hW2]; exact below_dn hB2 nq
      have s1 : W2.cell? ⟨g, k * 3 + 1, none⟩ = some (.string fd) := by rw [← hW2]; exact r1
      have s2 : W2.cell? ⟨g, k * 3 + 2, none⟩ = some (.int .i64 f.sure) := by rw [← hW2]; exact r2
      have s3 : W2.frozen? ⟨g, k * 3 + 1, none⟩ = false := by rw [← hW2]; exact r3
      have s4 : W2.frozen? ⟨g, k * 3 + 2, none⟩ = false := by rw [← hW2]; exact r4
      have s5 : W2.cell? ⟨p, 5, none⟩ = some (.int .i64 (nn : Int)) := by rw [← hW2]; exact p5
      rw [hW2]
      clear hW2 r1 r2 r3 r4 p5 hp h2 hB2
      have S0 : W2.frozen? ⟨g, k * 3 + 1, none⟩ = false ∧ W2.cell? ⟨p, 5, none⟩ = some (.int .i64 (nn : Int)) := ⟨s3, s5⟩
      have S0d : W2.drew.frozen? ⟨g, k * 3 + 1, none⟩ = false ∧ W2.drew.cell? ⟨p, 5, none⟩ = some (.int .i64 (nn : Int)) := S0
      have s1d : W2.drew.cell? ⟨g, k * 3 + 1, none⟩ = some (.string fd) := s1
      have S9 : ∀ u, (W2.drew.setCell ⟨g, k * 3 + 1, none⟩ u).frozen? ⟨g, k * 3 + 1, none⟩ = false ∧ (W2.drew.setCell ⟨g, k * 3 + 1, none⟩ u).cell? ⟨p, 5, none⟩ = some (.int .i64 (nn : Int)) := fun u => ⟨by rw [World.frozen?_setCell]; exact S0.1, (World.cell?_of_block (Below.heap_setCell W2.drew ⟨g, k * 3 + 1, none⟩ u p hgp)).trans S0.2⟩
      obtain ⟨W4, hW4⟩ : ∃ W4, (W2.setCell ⟨g, k * 3 + 1, none⟩ (.string gb)).drew = W4 := ⟨_, rfl⟩
      have h4 : Ds.Ls W4 B (.slice (some ⟨g, 0, none⟩) L.length c) (L.set k ⟨f.name, f.data.take nn, f.sure⟩) := by rw [← hW4]; exact (hset _ h3).keep fun _ _ => rfl
      have o4 : Dk.Only (fun k => (Value.slice (some ⟨g, 0, none⟩) L.length c).ownBlock = some k) w W4 := by rw [← hW4]; exact Dk.Only.setCell (F := fun k => (Value.slice (some ⟨g, 0, none⟩) L.length c).ownBlock = some k) (p := ⟨g, k * 3 + 1, none⟩) (Dk.Only.of hB3) (.inl rfl) _ |>.drew
      have v2 : W4.cell? ⟨g, k * 3 + 2, none⟩ = some (.int .i64 f.sure) := by
        have h4' : Ds.Ls W4 B (.slice (some ⟨g, 0, none⟩) (L.set k ⟨f.name, f.data.take nn, f.sure⟩).length c) (L.set k ⟨f.name, f.data.take nn, f.sure⟩) := by rw [List.length_set]; exact h4
        obtain ⟨g2, c2, e, _, _, q2, _⟩ := h4'.at_ (k := k) (f := ⟨f.name, f.data.take nn, f.sure⟩) (by rw [List.getElem?_set_self hklt])
        injection e with e
        injection e with e
        injection e with e
        subst e
        exact q2
      have v4 : W4.frozen? ⟨g, k * 3 + 2, none⟩ = false := by rw [← hW4]; show (W2.setCell ⟨g, k * 3 + 1, none⟩ (.string gb)).frozen? _ = false; rw [World.frozen?_setCell]; exact s4
      have v5 : W4.cell? ⟨p, 5, none⟩ = some (.int .i64 (nn : Int)) := by rw [← hW4]; exact (S9 _).2
      have HW4 := Lib.hid hW4
      clear hW4 h3 hset hB3 s2 s3 s4 s5
      go_upto_region 14 with fail
      rw [show Op.load 9 (Operand.tmp 76) = Ds.o77 from rfl]
      go_region_held_law (fun W' => W'.frozen? ⟨g, k * 3 + 1, none⟩ = false ∧ W'.cell? ⟨p, 5, none⟩ = some (.int .i64 (nn : Int)))
        (first
          | with_reducible assumption
          | exact S0
          | exact S0d
          | exact S9 _)
        (fail)
      all_goals
        rw [HW4.out]
        clear S0 S0d S9 s1 s1d HW4
        by_cases hsn : nn < f.sure
        · have u4 : decide (nn < f.sure) = true := decide_eq_true hsn
          have hcf : Dk.cutF f nn = ⟨f.name, f.data.take nn, nn⟩ := by unfold Dk.cutF; rw [Nat.min_eq_right (by omega)]
          have HCF := Lib.hid hcf
          clear hcf
          go_wp2_with fail
          go_quiet (fail)
          go_wp2_with fail
          go_ret2
          rw [HCF.out]
          exact ⟨_, rfl, hset2 _ (h4.keep fun _ _ => rfl), Dk.Only.setCell (F := fun k => (Value.slice (some ⟨g, 0, none⟩) L.length c).ownBlock = some k) (p := ⟨g, k * 3 + 2, none⟩) (o4.trans (.of (below_dn (Below.refl _ _) _))) (.inl rfl) _, fun k hk => .inl hk⟩
        · have u4 : decide (nn < f.sure) = false := decide_eq_false hsn
          have hcf : Dk.cutF f nn = ⟨f.name, f.data.take nn, f.sure⟩ := by unfold Dk.cutF; rw [Nat.min_eq_left (by omega)]
          have HCF := Lib.hid hcf
          clear hcf
          go_wp2_with fail
          go_quiet (fail)
          go_wp2_with fail
          go_ret2
          rw [HCF.out]
          exact ⟨_, rfl, h4.keep fun _ _ => rfl, o4.trans (.of (below_dn (Below.refl _ _) _)), fun k hk => .inl hk⟩
    · obtain ⟨d0, hd0⟩ : ∃ d0, Dk.del Dk.F.name nm L = d0 := ⟨_, rfl⟩
      obtain ⟨d1, hd1⟩ : ∃ d1, Dk.del Dk.F.name to_ d0 = d1 := ⟨_, rfl⟩
      rw [hd0, hd1]
      have hd0l : d0.length ≤ L.length := by rw [← hd0]; exact List.length_filter_le _ _
      have hd1l : d1.length ≤ d0.length := by rw [← hd1]; exact List.length_filter_le _ _
      have kd1 : ∀ X, Below w.heap.size w X → Calls Try.prog 54 #[.slice (some ⟨g, 0, none⟩) L.length c, .string nb] X fun e W' => ∃ v', e = .returned v' ∧ Ds.Ls W' X.heap.size v' d0 ∧ Below X.heap.size X W' := fun X hX => by
        have := Ds.drop_any (h.below hX) (by omega) nb
        rw [hnb, hd0] at this
        exact this
      have kd2 : ∀ {w2 B2 v2}, Ds.Ls w2 B2 v2 d0 → ∀ X, Below w2.heap.size w2 X → Calls Try.prog 54 #[v2, .string tb] X fun e W' => ∃ v', e = .returned v' ∧ Ds.Ls W' X.heap.size v' d1 ∧ Below X.heap.size X W' := fun {w2 B2 v2} ho X hX => by
        have := Ds.drop_any (ho.below hX) (by omega) tb
        rw [htb, hd1] at this
        exact this
      have hcell : ∀ (X : World) q, Blk X q 50 #[.string tb, .string fd, .int .i64 f.sure] → ∀ j u, (Ds.cells [Dk.named2 f to_])[j]? = some u → X.cell? ((⟨q, 0, none⟩ : Addr).add j) = some u := fun X q hb j u hu => by
        rw [Dw.add_lit, Nat.zero_add, hb.cell j, ← hu, Ds.cells, Ds.cells, ← Tx.v_eq htb, ← Tx.v_eq hfd]
        show _ = ([Tx.v to_, Tx.v f.data, _] : List Value)[j]?
        simp [Dk.named2]
      have h2 := h1 (.cells #[.int .i64 5, .string nb, .string tb, .string sb, .int .i64 at_, .int .i64 n, .bool dn, .slice ca cs.length cc] 45)
      have hp : Blk (w.alloc (.cells #[.int .i64 5, .string nb, .string tb, .string sb, .int .i64 at_, .int .i64 n, .bool dn, .slice ca cs.length cc] 45)) w.heap.size 45 #[.int .i64 5, .string nb, .string tb, .string sb, .int .i64 at_, .int .i64 n, .bool dn, .slice ca cs.length cc] := Blk.new _ _ _
      obtain ⟨r0, r1, r2, r3, r4⟩ := hrd (w' := w.alloc (.cells #[.int .i64 5, .string nb, .string tb, .string sb, .int .i64 at_, .int .i64 n, .bool dn, .slice ca cs.length cc] 45)) (Below.heap_alloc _ _ _ hgl)
      have hB2 := hB0 (.cells #[.int .i64 5, .string nb, .string tb, .string sb, .int .i64 at_, .int .i64 n, .bool dn, .slice ca cs.length cc] 45)
      have hgp : w.heap.size ≠ g := by omega
      have hq : Blk ((w.alloc (.cells #[.int .i64 5, .string nb, .string tb, .string sb, .int .i64 at_, .int .i64 n, .bool dn, .slice ca cs.length cc] 45)).alloc (.cells #[.string tb, .string fd, .int .i64 f.sure] 50)) (w.heap.size + 1) 50 #[.string tb, .string fd, .int .i64 f.sure] := by
        have h := Blk.new (w.alloc (.cells #[.int .i64 5, .string nb, .string tb, .string sb, .int .i64 at_, .int .i64 n, .bool dn, .slice ca cs.length cc] 45)) 50 #[.string tb, .string fd, .int .i64 f.sure]
        simpa using h
      have hp2 := hp.alloc (.cells #[.string tb, .string fd, .int .i64 f.sure] 50)
      have hB3 := hB2.alloc hB2.size (.cells #[.string tb, .string fd, .int .i64 f.sure] 50)
      clear hnb htb hsb hfb hfd hfds hNo hrd h1 hB0 hd0 hd1
      go_enter Try.func21, Try.ntmps21
      go_upto_region 20 with (go_at_call 53; refine (ka _).mono ?_; rintro e w' ⟨rfl, rfl⟩)
      obtain ⟨W1, hW1⟩ : ∃ W1, (w.alloc (.cells #[.int .i64 5, .string nb, .string tb, .string sb, .int .i64 at_, .int .i64 n, .bool dn, .slice ca cs.length cc] 45)).alloc (.cells #[.string tb, .string fd, .int .i64 f.sure] 50) = W1 := ⟨_, rfl⟩
      rw [hW1] at hq hp2 hB3 ⊢
      obtain ⟨p, hpp⟩ : ∃ p, w.heap.size = p := ⟨_, rfl⟩
      have HPP := Lib.hid hpp
      rw [hpp] at hp2 hq ⊢
      have p1 := hp2.cell 1
      simp only [List.getElem?_toArray, List.getElem?_cons_zero, List.getElem?_cons_succ] at p1
      have hzz := hB3.size
      have kd := kd1 W1 hB3
      clear hW1 hpp r0 r1 r2 r3 r4 h2 hp hB2 kd1 ka
      go_upto_region 21 with (go_at_call 54; refine kd.mono ?_; clear kd; rintro e w2 ⟨v2, rfl, o2, b2⟩)
      have hz2 := b2.size
      have hB4 : Below w.heap.size w w2 := hB3.trans (b2.mono hzz)
      have hq2 : Blk w2 (p + 1) 50 #[.string tb, .string fd, .int .i64 f.sure] := (b2.block _ hq.lt).trans hq
      have hpp2 : Blk w2 p 45 #[.int .i64 5, .string nb, .string tb, .string sb, .int .i64 at_, .int .i64 n, .bool dn, .slice ca cs.length cc] := (b2.block _ hp2.lt).trans hp2
      have kdd := kd2 o2
      have hql := hq2.lt
      have hpl := hpp2.lt
      have Sg : ∀ X, Below w2.heap.size w2 X → X.cell? ⟨p, 2, none⟩ = some (.string tb) ∧ X.cell? ⟨p + 1, 0, none⟩ = some (.string tb) ∧ X.cell? ⟨p + 1, 1, none⟩ = some (.string fd) ∧ X.cell? ⟨p + 1, 2, none⟩ = some (.int .i64 f.sure) := fun X hX =>
        ⟨(World.cell?_of_block (hX.block p hpl)).trans (hpp2.cell 2), (World.cell?_of_block (hX.block (p + 1) hql)).trans (hq2.cell 0), (World.cell?_of_block (hX.block (p + 1) hql)).trans (hq2.cell 1), (World.cell?_of_block (hX.block (p + 1) hql)).trans (hq2.cell 2)⟩
      have hBa : ∀ o : Obj, Below w2.heap.size w2 (w2.drew.alloc o) := fun o => (Below.refl _ _).drew.alloc (Nat.le_refl _) o
      have hBd : Below w2.heap.size w2 w2.drew := (Below.refl _ _).drew
      have S0 := Sg w2 (Below.refl _ _)
      have S0d := Sg w2.drew hBd
      have SA := fun o => Sg _ (hBa o)
      have SA2 := fun o : Obj => Sg ((w2.alloc o).drew) ((Below.refl _ _).alloc (Nat.le_refl _) o).drew
      obtain ⟨a2, c2, rfl⟩ := o2.form
      clear hp2 hq hpp2 p1
      go_region_held3 (fun W' => W'.cell? ⟨p, 2, none⟩ = some (.string tb) ∧ W'.cell? ⟨p + 1, 0, none⟩ = some (.string tb) ∧ W'.cell? ⟨p + 1, 1, none⟩ = some (.string fd) ∧ W'.cell? ⟨p + 1, 2, none⟩ = some (.int .i64 (f.sure : Nat)))
        (first
          | with_reducible assumption
          | exact S0
          | exact S0d
          | with_reducible exact SA _
          | with_reducible exact SA2 _
          | with_reducible exact S5
          | with_reducible exact S6 _
          | with_reducible exact S7)
        (first
          | (go_at_call 54; refine (kdd _ (by first | exact hBd | exact hBa _)).mono ?_; rintro e w3 ⟨v3, rfl, o3, b3⟩
             obtain ⟨a3, c3, rfl⟩ := o3.form
             have hB5 : Below w2.heap.size w2 w3 := by
               first
               | exact hBd.trans b3
               | exact (hBa _).trans (b3.mono (hBa _).size)
             have S5 := Sg w3 hB5
             have S6 := fun o : Obj => Sg (w3.alloc o) (hB5.alloc hB5.size o)
             have hro : ∀ j, (Value.slice a3 d1.length c3).ownBlock = some j → w2.heap.size ≤ j := fun j hj => by
               first
               | exact Nat.le_trans hBd.size (o3.lt hj).1
               | exact Nat.le_trans (hBa _).size (o3.lt hj).1
             have hw3 : w.heap.size ≤ w3.heap.size := Nat.le_trans hB4.size hB5.size
             have o3w : Ds.Ls w3 w.heap.size (.slice a3 d1.length c3) d1 := by
               first
               | exact o3.less (Nat.le_trans hB4.size hBd.size)
               | exact o3.less (Nat.le_trans hB4.size (hBa _).size)
             try have hkB : Blk w3 w2.heap.size 50 #[.string tb, .string fd, .int .i64 f.sure] := (b3.block w2.heap.size (by simp)).trans (Blk.new w2.drew _ _))
          | (refine Dk.step_append rfl (.tmp 113) (.tmp 115) 42 42 rfl (.slice a3 d1.length c3) (.slice (some ⟨w3.heap.size, 0, none⟩) 1 1) (by simp [Act.eval]) (by simp [Act.eval]) _ (fun ty => Ds.Ls.cat (w := w3.alloc _) (o3w.alloc _) (Dk.named2 f to_) (hcell _ _ (Blk.new w3 _ _)) (by omega) (by simp; omega) ty) ?_; intro v4 w4 ho4; obtain ⟨ho4, hg4⟩ := ho4
             have hB6 : Below w2.heap.size w2 w4 := (hB5.alloc hB5.size _).grown hg4 (by have := hB5.size; simp; omega) hro
             have S7 := Sg w4 hB6
             obtain ⟨a4, c4, rfl⟩ := ho4.form)
          | (refine Dk.step_append rfl (.tmp 113) (.tmp 115) 42 42 rfl (.slice a3 d1.length c3) (.slice (some ⟨w2.heap.size, 0, none⟩) 1 1) (by simp [Act.eval]) (by simp [Act.eval]) _ (fun ty => Ds.Ls.cat (w := w3) o3w (Dk.named2 f to_) (hcell _ _ hkB) (by omega) hw3 ty) ?_; intro v4 w4 ho4; obtain ⟨ho4, hg4⟩ := ho4
             have hB6 : Below w2.heap.size w2 w4 := hB5.grown hg4 hB5.size hro
             have S7 := Sg w4 hB6
             obtain ⟨a4, c4, rfl⟩ := ho4.form))
      all_goals (try go_wp2_with fail)
      all_goals
        rw [List.length_append] at ho4
        have hlt4 : ∀ j, (Value.slice a4 (d1.length + [Dk.named2 f to_].length) c4).ownBlock = some j → w.heap.size ≤ j := fun j hj => (ho4.lt hj).1
        go_ret2
        exact ⟨_, rfl, ho4.less hB, Dk.Only.of (hB4.trans (hB6.mono hB4.size)), fun j hj => .inr (hlt4 j hj)⟩
    · have kd := Ds.drop_any (h1 (.cells #[.int .i64 6, .string nb, .string tb, .string sb, .int .i64 at_, .int .i64 n, .bool dn, .slice ca cs.length cc] 45)) (by omega) nb
      rw [hnb] at kd
      have h2 := h1 (.cells #[.int .i64 6, .string nb, .string tb, .string sb, .int .i64 at_, .int .i64 n, .bool dn, .slice ca cs.length cc] 45)
      have hp : Blk (w.alloc (.cells #[.int .i64 6, .string nb, .string tb, .string sb, .int .i64 at_, .int .i64 n, .bool dn, .slice ca cs.length cc] 45)) w.heap.size 45 #[.int .i64 6, .string nb, .string tb, .string sb, .int .i64 at_, .int .i64 n, .bool dn, .slice ca cs.length cc] := Blk.new _ _ _
      obtain ⟨r0, r1, r2, r3, r4⟩ := hrd (w' := w.alloc (.cells #[.int .i64 6, .string nb, .string tb, .string sb, .int .i64 at_, .int .i64 n, .bool dn, .slice ca cs.length cc] 45)) (Below.heap_alloc _ _ _ hgl)
      have hB2 := hB0 (.cells #[.int .i64 6, .string nb, .string tb, .string sb, .int .i64 at_, .int .i64 n, .bool dn, .slice ca cs.length cc] 45)
      have hgp : w.heap.size ≠ g := by omega
      clear hnb htb hsb hfb hfd hfds hNo hrd h1 hp
      go_enter Try.func21, Try.ntmps21
      go_wp2_with (first
        | (go_at_call 53; refine (ka _).mono ?_; rintro e w' ⟨rfl, rfl⟩)
        | (go_at_call 54; refine kd.mono ?_; rintro e w2 ⟨v2, rfl, o2, b2⟩; obtain ⟨a2, c2, rfl⟩ := o2.form))
      have hz2 := hB2.size
      go_ret2
      exact ⟨_, rfl, o2.less (Nat.le_trans hB hz2), Dk.Only.of (hB2.trans (b2.mono hz2)), fun k hk => .inr (Nat.le_trans hz2 (o2.lt hk).1)⟩
#print axioms Ds.told_any
end Go.Proofs.Ytgbeeghdoilmkaa
