/- Two disks side by side: any step. Conditions: each theorem's own hypotheses. -/
import Derived.Test.YtgbeeghdoilmkaaDpC
namespace Go.Proofs.Ytgbeeghdoilmkaa
open Go.RowKit Go.Maps Go.Sort
set_option linter.unusedVariables false

/-- What a step makes of the program's disk, and of the document's. -/
def Dp.st (m : Dk.M) (s : Dw.S) : Dk.M := if s.what = 7 then m else if s.what = 8 then Dk.arm m s.n s.done else if s.what = 9 then Dk.crash m s.cuts else Dp.wr m s
def Dp.st2 (m : Dk.M) (s : Dw.S) : Dk.M := if s.what = 7 then m else if s.what = 8 then Dk.arm m s.n s.done else if s.what = 9 then Dr.crash m s.cuts else Dp.wr m s
theorem Dp.like_st {a b : Dk.M} (h : Dp.Like a b) (s : Dw.S) : Dp.Like (Dp.st a s) (Dp.st2 b s) := by
  obtain ⟨_, _, _, _, _, _, D7, _⟩ := Dp.like_ops h
  unfold Dp.st Dp.st2
  split
  · exact h
  split
  · exact D7 _ _
  split
  · exact Dp.like_crash h _
  · exact Dp.like_wr h s
/-- Two disks and the hand. -/
def Dp.Trio (W0 w : World) (d : Nat) (m : Dk.M) (r : Nat) (m' : Dk.M) (hp : Nat) : Prop := ∃ v KH, Dp.Hd hp v KH ∧ Dp.Duo W0.heap.size W0 w d m r m' KH
theorem Dr.Moved.of {W W' : World} {r : Nat} {F : Nat → Prop} {m' : Dk.M} (hA : Dr.At W' r m' F) (ho : Dk.Only F W W') : Dr.Moved W W' r F m' := ⟨F, hA, ho, fun k hk => .inl hk⟩
theorem Dp.size_form (m : Dk.M) (nm : List UInt8) : ∃ a b, Dk.sizeV m nm = .tuple #[.int .i64 a, .int .i64 b] := by
  unfold Dk.sizeV
  split
  · exact ⟨_, _, rfl⟩
  · exact ⟨_, _, rfl⟩
theorem Dp.Hd.far {hp : Nat} {v : Value} {KH : List (Nat × Obj)} (h : Dp.Hd hp v KH) {B d r : Nat} {W0 w : World} {m m' : Dk.M} (hD : Dp.Duo B W0 w d m r m' KH) : hp ≠ w.heap.size ∧ v.ownBlock ≠ some w.heap.size := by
  rcases h with ⟨rfl, rfl⟩ | ⟨g, L, c, rfl, rfl, _⟩
  · have := Dp.lt_of (hD.blk (p := hp) (List.mem_singleton.2 rfl))
    exact ⟨by omega, fun h => by cases h⟩
  · have h1 := Dp.lt_of (hD.blk (p := hp) (List.mem_cons_self ..))
    have h2 := Dp.lt_of (hD.blk (p := g) (List.mem_cons_of_mem _ (List.mem_cons_self ..)))
    exact ⟨by omega, fun h => by have h3 : g = w.heap.size := Option.some.inj h; omega⟩
set_option maxRecDepth 100000 in
set_option maxHeartbeats 8000000 in
theorem Dp.act_any {W0 w : World} {d r hp : Nat} {m m' : Dk.M} (h : Dp.Trio W0 w d m r m' hp) (hl : Dp.Like m m') (s : Dw.S) (hs : Dw.Fit W0 s) :
    Calls Try.prog 32 #[.pointer (some ⟨d, 0, none⟩), .pointer (some ⟨r, 0, none⟩), .agg (Dw.cells s), .pointer (some ⟨hp, 0, none⟩)] w fun e W' => e = .returned (.bool true) ∧ Dp.Trio W0 W' d (Dp.st m s) r (Dp.st2 m' s) hp := by
  obtain ⟨v, KH, hd, h⟩ := h
  obtain ⟨far1, far2⟩ := hd.far h
  have D0 := h.push (.cells (Dw.cells s) 45)
  obtain ⟨_, _, _, _, _, _, D7, D8, D9⟩ := Dp.like_ops hl
  have hfit : ∀ {w1 m1 m2 K}, Dp.Duo W0.heap.size W0 w1 d m1 r m2 K → Dw.Fit w1 s := fun D => hs.keep D.below.size fun k hk => D.below.block k hk
  have hcts : ∀ {w1 m1 m2 K}, Dp.Duo W0.heap.size W0 w1 d m1 r m2 K → Dk.Cts w1 s.cv s.cuts := fun D => (hfit D).cuts
  have hwr := fun {w1 m1 m2 K} (D : Dp.Duo W0.heap.size W0 w1 d m1 r m2 K) hl => Dp.write_any D hl s (hfit D)
  have hh := Dp.hand_any (KH := KH) (v := v) (hp := hp) D0 hd (fun q hq => by
    obtain rfl := List.mem_singleton.1 hq
    exact ⟨fun e => far1 e.symm, far2⟩) hs.cuts hs.many hs.names
  have hcr := fun {w1 m1 m2 K} (D : Dp.Duo W0.heap.size W0 w1 d m1 r m2 K) => D.call2 (Dr.crash_good D.good2 s.cuts) fun F hA hG => Dr.crash_any hA hG (hcts D) (Nat.le_trans hs.many (by decide))
  unfold Dp.st Dp.st2
  obtain ⟨k, nm, to_, da, at_, n, dn, cv, cs⟩ := s
  obtain ⟨f1, f2, f3, f4, f5, f6, f7, f8⟩ := hs
  simp only at f1 f2 f3 f4 f5 f6 f7 f8
  obtain ⟨ca, cc, rfl⟩ := f6.form
  unfold Dw.cells at D0 hwr hh ⊢
  simp only at D0 hwr hh hcr hcts ⊢
  obtain ⟨nb, hnb, hnbs⟩ := Tx.of nm
  obtain ⟨tb, htb, htbs⟩ := Tx.of to_
  obtain ⟨db, hdb, hdbs⟩ := Tx.of da
  simp only [Tx.v_eq hnb, Tx.v_eq htb, Tx.v_eq hdb] at D0 hwr hh ⊢
  have n1 : nb.size ≤ 9223372036854775807 := by omega
  have hbx : ∀ {w1 m1 m2 K}, Dp.Duo W0.heap.size W0 w1 d m1 r m2 (K ++ [(w.heap.size, .cells #[.int .i64 k, .string nb, .string tb, .string db, .int .i64 at_, .int .i64 n, .bool dn, .slice ca cs.length cc] 45)]) → w1.cell? ⟨w.heap.size, 7, none⟩ = some (.slice ca cs.length cc) ∧ w1.cell? ⟨w.heap.size, 5, none⟩ = some (.int .i64 n) ∧ w1.cell? ⟨w.heap.size, 6, none⟩ = some (.bool dn) := fun D => by
    have hb : Blk _ w.heap.size 45 #[.int .i64 k, .string nb, .string tb, .string db, .int .i64 at_, .int .i64 n, .bool dn, .slice ca cs.length cc] := D.blk (List.mem_append_right _ (List.mem_singleton.2 rfl))
    exact ⟨hb.cell 7, hb.cell 5, hb.cell 6⟩
  by_cases e7 : k = 7
  · subst e7
    rw [if_pos rfl, if_pos rfl]
    have k1 := D0.ask1 fun F hA hG => Dk.read_any hA hG nb n1 at_ n f4 f5
    have k2 := D0.ask2 fun F hA hG => Dr.read_any hA hG nb n1 at_ n f4 f5
    have k3 := D0.ask1 fun F hA hG => Dk.size_any hA nb n1
    have k4 := D0.ask2 fun F hA hG => Dr.size_any hA hG.many nb n1
    rw [← D8] at k2
    rw [← D9] at k4
    obtain ⟨xa, xb, hx⟩ := Dp.size_form m nb.data.toList
    rw [hx] at k3 k4
    rw [Dw.read_eq] at k1 k2
    obtain ⟨yb, hyb, _⟩ := Tx.of (Dw.readT m nb.data.toList at_ n)
    rw [Tx.v_eq hyb] at k1 k2
    obtain ⟨ye, hye⟩ : ∃ ye, Dw.readE m nb.data.toList at_ n = ye := ⟨_, rfl⟩
    rw [hye] at k1 k2
    have D1 : Dp.Trio W0 _ d m r m' hp := ⟨v, KH, hd, D0.sub fun q hq => List.mem_append_left _ hq⟩
    clear hh hcr hwr hcts hfit hbx hx hyb hye hnb htb hdb D0 D7 D8 D9
    go_enter Try.func32, Try.ntmps32
    go_wp2_with (first
      | (go_at_call 14; refine k1.mono ?_; rintro e w1 ⟨rfl, rfl⟩)
      | (go_at_call 60; refine k2.mono ?_; rintro e w1 ⟨rfl, rfl⟩)
      | (go_at_call 50; refine k3.mono ?_; rintro e w1 ⟨rfl, rfl⟩)
      | (go_at_call 61; refine k4.mono ?_; rintro e w1 ⟨rfl, rfl⟩))
    go_ret
    exact ⟨rfl, D1⟩
  rw [if_neg e7, if_neg e7]
  have t7 : (k == 7) = false := beq_eq_false_iff_ne.2 e7
  by_cases e8 : k = 8
  · subst e8
    rw [if_pos rfl, if_pos rfl]
    have k1 := D0.call1 (Dk.arm_good D0.good1 n f5.2 dn) fun F hA hG => (Dk.arm_any hA n f5 dn).mono fun e W' ⟨a, b, c⟩ => ⟨a, Dk.Moved.of b c⟩
    have k2 := fun {w1 m1 K} (D : Dp.Duo W0.heap.size W0 w1 d m1 r m' K) => D.call2 (Dk.arm_good D.good2 n f5.2 dn) fun F hA hG => (Dr.arm_any hA n f5 dn).mono fun e W' ⟨a, b, c⟩ => ⟨a, Dr.Moved.of b c⟩
    obtain ⟨M1, hM1⟩ : ∃ z, Dk.arm m n dn = z := ⟨_, rfl⟩
    obtain ⟨M2, hM2⟩ : ∃ z, Dk.arm m' n dn = z := ⟨_, rfl⟩
    rw [hM1] at k1 ⊢
    rw [hM2] at k2 ⊢
    clear hh hcr hwr hcts hfit hnb htb hdb D0 D7 D8 D9 hM1 hM2
    go_enter Try.func32, Try.ntmps32
    go_wp2_with (first
      | (go_at_call 16; refine k1.mono ?_; clear k1; rintro e w1 ⟨rfl, D1⟩; obtain ⟨x7, x5, x6⟩ := hbx D1; have k3 := k2 D1; clear k2)
      | (go_at_call 62; refine k3.mono ?_; clear k3; rintro e w2 ⟨rfl, D2⟩))
    go_ret
    exact ⟨rfl, v, KH, hd, D2.sub fun q hq => List.mem_append_left _ hq⟩
  rw [if_neg e8, if_neg e8]
  have t8 : (k == 8) = false := beq_eq_false_iff_ne.2 e8
  by_cases e9 : k = 9
  · subst e9
    rw [if_pos rfl, if_pos rfl]
    obtain ⟨M1, hM1⟩ : ∃ z, Dk.crash m cs = z := ⟨_, rfl⟩
    obtain ⟨M2, hM2⟩ : ∃ z, Dr.crash m' cs = z := ⟨_, rfl⟩
    have k2 := fun {w1 m1 K} (D : Dp.Duo W0.heap.size W0 w1 d m1 r m' K) => hcr D
    rw [hM1] at hh ⊢
    rw [hM2] at k2 ⊢
    clear hcr hwr hcts hfit hnb htb hdb D0 D7 D8 D9 hM1 hM2
    go_enter Try.func32, Try.ntmps32
    go_wp2_with (first
      | (go_at_call 63; refine hh.mono ?_; clear hh; rintro e w1 ⟨rfl, v1, KH1, hd1, D1, _⟩; obtain ⟨x7, x5, x6⟩ := hbx D1; have k3 := k2 D1; clear k2)
      | (go_at_call 64; refine k3.mono ?_; clear k3; rintro e w2 ⟨rfl, D2⟩))
    go_ret
    exact ⟨rfl, v1, KH1, hd1, D2.sub fun q hq => List.mem_append_left _ hq⟩
  rw [if_neg e9, if_neg e9]
  have t9 : (k == 9) = false := beq_eq_false_iff_ne.2 e9
  have kw := hwr D0 hl
  obtain ⟨M1, hM1⟩ : ∃ z, Dp.wr m ⟨k, nm, to_, da, at_, n, dn, .slice ca cs.length cc, cs⟩ = z := ⟨_, rfl⟩
  obtain ⟨M2, hM2⟩ : ∃ z, Dp.wr m' ⟨k, nm, to_, da, at_, n, dn, .slice ca cs.length cc, cs⟩ = z := ⟨_, rfl⟩
  rw [hM1, hM2] at kw ⊢
  clear hh hcr hwr hcts hfit hbx hnb htb hdb D0 D7 D8 D9 hM1 hM2 e7 e8 e9
  go_enter Try.func32, Try.ntmps32
  go_wp2_with (go_at_call 65; refine kw.mono ?_; clear kw; rintro e w1 ⟨rfl, D1⟩)
  go_ret
  exact ⟨rfl, v, KH, hd, D1.sub fun q hq => List.mem_append_left _ hq⟩
#print axioms Dp.act_any
end Go.Proofs.Ytgbeeghdoilmkaa
