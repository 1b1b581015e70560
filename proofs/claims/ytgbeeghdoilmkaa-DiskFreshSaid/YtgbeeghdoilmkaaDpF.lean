/- The law DiskPlays: its walk. Conditions: each theorem's own hypotheses. -/
import Derived.Test.YtgbeeghdoilmkaaDpE
import Derived.Test.YtgbeeghdoilmkaaDwK
import Derived.Deep.RegionHeld3
import Derived.Deep.DeepCutAuto
namespace Go.Proofs.Ytgbeeghdoilmkaa
open Go.RowKit Go.Maps Go.Sort
set_option linter.unusedVariables false

theorem Dp.Duo.make {B d r : Nat} {W0 w3 w4 : World} {m : Dk.M} {F G : Nat → Prop} (A1 : Dk.At w3 d m F) (f1 : ∀ k, F k → B ≤ k) (hz : B ≤ w3.heap.size) (hB : Below w3.heap.size w3 w4) (A2 : Dr.At w4 r m G) (g2 : ∀ k, G k → w3.heap.size ≤ k) (hb : Below B W0 w4) (hG : Dk.Good m) : Dp.Duo B W0 w4 d m r m [] :=
  ⟨F, G, A1.later hB (Nat.le_refl _), A2, fun k hk => ⟨f1 k hk, fun h => by have := A1.lt hk; have := g2 k h; omega⟩, fun k hk => Nat.le_trans hz (g2 k hk), fun p hp => (List.not_mem_nil hp).elim, hG, hG, hb⟩
theorem Dp.Duo.hand {d r : Nat} {W0 w : World} {m m' : Dk.M} (h : Dp.Duo W0.heap.size W0 w d m r m' []) : Dp.Trio W0 (w.alloc (.cells #[.slice none 0 0] 68)) d m r m' w.heap.size :=
  ⟨.slice none 0 0, _, .inl ⟨rfl, rfl⟩, h.push _⟩
theorem Dp.Trio.below {d r hp : Nat} {W0 w : World} {m m' : Dk.M} (h : Dp.Trio W0 w d m r m' hp) : Below W0.heap.size W0 w := by
  obtain ⟨v, K, _, h⟩ := h
  exact h.below
theorem Dp.Trio.alike {d r hp : Nat} {W0 w : World} {m m' : Dk.M} (h : Dp.Trio W0 w d m r m' hp) (hl : Dp.Like m m') : Calls Try.prog 13 #[.pointer (some ⟨d, 0, none⟩), .pointer (some ⟨r, 0, none⟩)] w fun e W' => e = .returned (.bool true) ∧ Dp.Trio W0 W' d m r m' hp := by
  obtain ⟨v, K, hd, h⟩ := h
  exact (h.alike hl).mono fun e W' ⟨a, b⟩ => ⟨a, v, K, hd, b⟩
theorem Dp.Trio.act {d r hp : Nat} {W0 w : World} {m m' : Dk.M} (h : Dp.Trio W0 w d m r m' hp) (hl : Dp.Like m m') (s : Dw.S) (hs : Dw.Fit W0 s) {M1 M2 : Dk.M} (h1 : Dp.st m s = M1) (h2 : Dp.st2 m' s = M2) :
    Calls Try.prog 32 #[.pointer (some ⟨d, 0, none⟩), .pointer (some ⟨r, 0, none⟩), .agg (Dw.cells s), .pointer (some ⟨hp, 0, none⟩)] w fun e W' => e = .returned (.bool true) ∧ Dp.Trio W0 W' d M1 r M2 hp := by
  subst h1 h2
  exact Dp.act_any h hl s hs
/-- The loop's end: all bytes, and one more file. -/
theorem Dp.Trio.whole {d r hp : Nat} {W0 w : World} {m m' : Dk.M} (h : Dp.Trio W0 w d m r m' hp) (hl : Dp.Like m m') :
    ∃ M1 M2, Dp.Like M1 M2 ∧ Calls Try.prog 33 #[.pointer (some ⟨d, 0, none⟩), .pointer (some ⟨r, 0, none⟩)] w fun e W' => e = .returned (.bool true) ∧ Dp.Duo W0.heap.size W0 W' d M1 r M2 [] := by
  obtain ⟨v, K, hd, h⟩ := h
  exact ⟨_, _, Dp.like_crash hl _, (Dp.whole_any h hl).mono fun e W' ⟨a, b⟩ => ⟨a, b.sub fun p hp => (List.not_mem_nil hp).elim⟩⟩
theorem Dp.Duo.create1 {B d r : Nat} {W0 w : World} {m m' : Dk.M} {K : List (Nat × Obj)} (h : Dp.Duo B W0 w d m r m' K) (nb : ByteArray) (hn : nb.size ≤ 9223372036854775807) {z : Int} {M : Dk.M} (hz : (Dk.create m nb.data.toList).2 = z) (hM : (Dk.create m nb.data.toList).1 = M) :
    Calls Try.prog 23 #[.pointer (some ⟨d, 0, none⟩), .string nb] w fun e W' => e = .returned (.int .i64 z) ∧ Dp.Duo B W0 W' d M r m' K := by
  subst hz hM
  exact h.call1 (Dk.create_good h.good1 _) fun F hA hG => Dk.create_any hA hG nb hn
theorem Dp.Duo.create2 {B d r : Nat} {W0 w : World} {m m' : Dk.M} {K : List (Nat × Obj)} (h : Dp.Duo B W0 w d m r m' K) (nb : ByteArray) (hn : nb.size ≤ 9223372036854775807) {z : Int} {M : Dk.M} (hz : (Dk.create m' nb.data.toList).2 = z) (hM : (Dk.create m' nb.data.toList).1 = M) :
    Calls Try.prog 34 #[.pointer (some ⟨r, 0, none⟩), .string nb] w fun e W' => e = .returned (.int .i64 z) ∧ Dp.Duo B W0 W' d m r M K := by
  subst hz hM
  exact h.call2 (Dk.create_good h.good2 _) fun F hA hG => Dr.create_any hA hG nb hn
set_option maxRecDepth 100000 in
set_option maxHeartbeats 8000000 in
theorem Dp.plays (W : World) (s : ByteArray) (hs : s.size ≤ 9223372036854775807) (n : Int) (hn : -9223372036854775808 ≤ n ∧ n < 9223372036854775808) (A : Option Addr) (cp : Nat) (L : List Dw.S) (hF : Dw.Steps W A L) (hl : L.length ≤ 1400000000000) :
    Calls Try.prog 7 #[.string s, .int .i64 n, .slice A L.length cp] W fun e W' => e = .returned (.bool true) ∧ Below W.heap.size W W' := by
  obtain ⟨Z, hZ⟩ : ∃ Z, Dk.opened s.data.toList n = Z := ⟨_, rfl⟩
  have k3 : ∀ w, _ := fun w => Dk.open_any w s hs n hn
  have k4 : ∀ w, _ := fun w => Dr.open_any w s hs n hn
  rw [hZ] at k3 k4
  cases Z with
  | error x =>
    have hx := Dk.opened_error hZ
    have hwx : IntKind.i64.wrap x = x := IntWalk.i64_in _ (by omega)
    have hfg : Dk.Good (Dk.fresh 1000) := Dk.fresh_good 1000 (by decide)
    have k1 : ∀ w, _ := fun w => Dk.new_any 1000 (by decide) w
    have k2 : ∀ w, _ := fun w => Dr.new_any 1000 (by decide) w
    clear hZ hx
    go_enter Try.func7, Try.ntmps7
    go_upto_region 10 with (first
      | (go_at_call 11; refine (k3 _).mono ?_; clear k3; rintro e w3 ⟨d, rfl, b3, A3⟩; unfold Dk.openV; have k5 := k4 w3; clear k4)
      | (go_at_call 12; refine k5.mono ?_; clear k5; rintro e w4 ⟨r, rfl, b4, A4⟩; unfold Dr.openV)
      | (go_at_call 9; refine (k1 _).mono ?_; clear k1; rintro e w5 ⟨dd, F5, rfl, A5, b5, f5⟩)
      | (go_at_call 10; refine (k2 _).mono ?_; clear k2; rintro e w6 ⟨rr, F6, rfl, A6, b6, f6⟩))
    have b34 := b3.trans (b4.mono b3.size)
    have b345 := b34.trans (b5.mono b34.size)
    have b36 := b345.trans (b6.mono b345.size)
    have D0 : Dp.Duo W.heap.size W w6 dd (Dk.fresh 1000) rr (Dk.fresh 1000) [] := .make A5 (fun k hk => Nat.le_trans b34.size (f5 k hk)) b345.size b6 A6 f6 b36 hfg
    clear A3 A4 A5 A6 f5 f6 b3 b4 b5 b6 b34 b345 b36 d r
    have D0h := D0.hand
    have HLK := Lib.hid (Dp.Like.refl (Dk.fresh 1000))
    go_wp2_with fail
    go_loopw [12] (fun i wr => ∃ k a b, k ≤ L.length ∧ i = .int .i64 (k : Nat) ∧ Dp.Trio W wr dd a rr b w6.heap.size ∧ Hid (Dp.Like a b)) (fun i _ => L.length - (intOf i).toNat)
    case atStart => exact ⟨0, _, _, Nat.zero_le _, rfl, D0h, HLK⟩
    case round =>
      clear D0 D0h HLK
      obtain ⟨k, a, b, hk, rfl, T1, HS⟩ := hrel
      by_cases hlt : k < L.length
      · obtain ⟨s, hs⟩ : ∃ s, L[k]? = some s := ⟨_, List.getElem?_eq_getElem hlt⟩
        obtain ⟨g, off, rfl, hg, hst⟩ := hF (fun e => by rw [e] at hlt; exact absurd hlt (Nat.not_lt_zero _))
        obtain ⟨hcell, hfit⟩ := hst k s hs
        obtain ⟨a2, ha2⟩ : ∃ a2, Dp.st a s = a2 := ⟨_, rfl⟩
        obtain ⟨b2, hb2⟩ : ∃ b2, Dp.st2 b s = b2 := ⟨_, rfl⟩
        have hS1 := Dp.like_st HS.out s
        rw [ha2, hb2] at hS1
        have kp := T1.act HS.out s hfit ha2 hb2
        have kal := fun {w2} (T : Dp.Trio W w2 dd a2 rr b2 w6.heap.size) => T.alike hS1
        have HS1 := Lib.hid hS1
        clear hS1 ha2 hb2 HS
        obtain ⟨ca, cc, hcv⟩ := hfit.cuts.form
        obtain ⟨nb, hnb, _⟩ := Tx.of s.name
        obtain ⟨tb, htb, _⟩ := Tx.of s.to_
        obtain ⟨db, hdb, _⟩ := Tx.of s.data
        have hcl := fun {w} (hB : Below W.heap.size W w) => Dw.Steps.eight (k := k) hg hcell hB hnb htb hdb
        clear hs hst hcell hfit
        obtain ⟨what, nm, to_, da, at_, nn, dn, cv, cs⟩ := s
        simp only at hcv hnb htb hdb hcl
        subst hcv
        unfold Dw.cells at kp
        simp only at kp
        simp only [Tx.v_eq hnb, Tx.v_eq htb, Tx.v_eq hdb] at kp
        obtain ⟨cn, hcn⟩ : ∃ cn, cs.length = cn := ⟨_, rfl⟩
        simp only [hcn] at kp hcl
        obtain ⟨x0, x1, x2, x3, x4, x5, x6, x7⟩ := hcl T1.below
        clear hcn hnb htb hdb hF hcl T1
        go_wp2_with (first
          | (go_at_call 32; refine kp.mono ?_; clear kp; rintro e w2 ⟨rfl, T2⟩; clear x0 x1 x2 x3 x4 x5 x6 x7; have kal2 := kal T2; clear kal)
          | (go_at_call 13; refine kal2.mono ?_; clear kal2; rintro e w5 ⟨rfl, T5⟩))
        go_roundw
        case rel => exact ⟨k + 1, _, _, hlt, by go_num, T5, HS1⟩
        case measure => simp [intOf]; omega
      · obtain rfl : L.length = k := by omega
        obtain ⟨M1, M2, hLM, kwh⟩ := T1.whole HS.out
        obtain ⟨D1c, _⟩ := Dp.like_ops hLM
        have he := (D1c [108, 97, 115, 116]).2
        obtain ⟨z, hz⟩ : ∃ z, (Dk.create M1 [108, 97, 115, 116]).2 = z := ⟨_, rfl⟩
        rw [hz] at he
        have kc1 := fun {w2} (D : Dp.Duo W.heap.size W w2 dd M1 rr M2 []) => D.create1 ⟨#[108, 97, 115, 116]⟩ (by decide) hz rfl
        have kc2 := fun {w2 m2} (D : Dp.Duo W.heap.size W w2 dd m2 rr M2 []) => D.create2 ⟨#[108, 97, 115, 116]⟩ (by decide) he.symm rfl
        clear hF T1 HS hLM D1c he hz hk hlt
        go_wp2_with (first
          | (go_at_call 33; refine kwh.mono ?_; clear kwh; rintro e w2 ⟨rfl, D2⟩; have kc3 := kc1 D2; clear kc1)
          | (go_at_call 23; refine kc3.mono ?_; clear kc3; rintro e w3 ⟨rfl, D3⟩; have kc4 := kc2 D3; clear kc2)
          | (go_at_call 34; refine kc4.mono ?_; clear kc4; rintro e w4 ⟨rfl, D4⟩))
        go_ret
        exact ⟨rfl, D4.below⟩
  | ok m =>
    obtain ⟨hG, _⟩ := Dk.opened_good hZ
    clear hZ
    go_enter Try.func7, Try.ntmps7
    go_upto_region 10 with (first
      | (go_at_call 11; refine (k3 _).mono ?_; clear k3; rintro e w3 ⟨d, rfl, b3, A3⟩; unfold Dk.openV; have k5 := k4 w3; clear k4)
      | (go_at_call 12; refine k5.mono ?_; clear k5; rintro e w4 ⟨r, rfl, b4, A4⟩; unfold Dr.openV))
    obtain ⟨F3, A3, f3⟩ := A3 m rfl
    obtain ⟨F4, A4, f4⟩ := A4 m rfl
    have D0 : Dp.Duo W.heap.size W w4 d m r m [] := .make A3 f3 b3.size b4 A4 f4 (b3.trans (b4.mono b3.size)) hG
    clear A3 A4 f3 f4 b3 b4 F3 F4
    have D0h := D0.hand
    have HLK := Lib.hid (Dp.Like.refl m)
    go_wp2_with fail
    go_loopw [12] (fun i wr => ∃ k a b, k ≤ L.length ∧ i = .int .i64 (k : Nat) ∧ Dp.Trio W wr d a r b w4.heap.size ∧ Hid (Dp.Like a b)) (fun i _ => L.length - (intOf i).toNat)
    case atStart => exact ⟨0, _, _, Nat.zero_le _, rfl, D0h, HLK⟩
    case round =>
      clear D0 D0h HLK
      obtain ⟨k, a, b, hk, rfl, T1, HS⟩ := hrel
      by_cases hlt : k < L.length
      · obtain ⟨s, hs⟩ : ∃ s, L[k]? = some s := ⟨_, List.getElem?_eq_getElem hlt⟩
        obtain ⟨g, off, rfl, hg, hst⟩ := hF (fun e => by rw [e] at hlt; exact absurd hlt (Nat.not_lt_zero _))
        obtain ⟨hcell, hfit⟩ := hst k s hs
        obtain ⟨a2, ha2⟩ : ∃ a2, Dp.st a s = a2 := ⟨_, rfl⟩
        obtain ⟨b2, hb2⟩ : ∃ b2, Dp.st2 b s = b2 := ⟨_, rfl⟩
        have hS1 := Dp.like_st HS.out s
        rw [ha2, hb2] at hS1
        have kp := T1.act HS.out s hfit ha2 hb2
        have kal := fun {w2} (T : Dp.Trio W w2 d a2 r b2 w4.heap.size) => T.alike hS1
        have HS1 := Lib.hid hS1
        clear hS1 ha2 hb2 HS
        obtain ⟨ca, cc, hcv⟩ := hfit.cuts.form
        obtain ⟨nb, hnb, _⟩ := Tx.of s.name
        obtain ⟨tb, htb, _⟩ := Tx.of s.to_
        obtain ⟨db, hdb, _⟩ := Tx.of s.data
        have hcl := fun {w} (hB : Below W.heap.size W w) => Dw.Steps.eight (k := k) hg hcell hB hnb htb hdb
        clear hs hst hcell hfit
        obtain ⟨what, nm, to_, da, at_, nn, dn, cv, cs⟩ := s
        simp only at hcv hnb htb hdb hcl
        subst hcv
        unfold Dw.cells at kp
        simp only at kp
        simp only [Tx.v_eq hnb, Tx.v_eq htb, Tx.v_eq hdb] at kp
        obtain ⟨cn, hcn⟩ : ∃ cn, cs.length = cn := ⟨_, rfl⟩
        simp only [hcn] at kp hcl
        obtain ⟨x0, x1, x2, x3, x4, x5, x6, x7⟩ := hcl T1.below
        clear hcn hnb htb hdb hF hcl T1
        go_wp2_with (first
          | (go_at_call 32; refine kp.mono ?_; clear kp; rintro e w2 ⟨rfl, T2⟩; clear x0 x1 x2 x3 x4 x5 x6 x7; have kal2 := kal T2; clear kal)
          | (go_at_call 13; refine kal2.mono ?_; clear kal2; rintro e w5 ⟨rfl, T5⟩))
        go_roundw
        case rel => exact ⟨k + 1, _, _, hlt, by go_num, T5, HS1⟩
        case measure => simp [intOf]; omega
      · obtain rfl : L.length = k := by omega
        obtain ⟨M1, M2, hLM, kwh⟩ := T1.whole HS.out
        obtain ⟨D1c, _⟩ := Dp.like_ops hLM
        have he := (D1c [108, 97, 115, 116]).2
        obtain ⟨z, hz⟩ : ∃ z, (Dk.create M1 [108, 97, 115, 116]).2 = z := ⟨_, rfl⟩
        rw [hz] at he
        have kc1 := fun {w2} (D : Dp.Duo W.heap.size W w2 d M1 r M2 []) => D.create1 ⟨#[108, 97, 115, 116]⟩ (by decide) hz rfl
        have kc2 := fun {w2 m2} (D : Dp.Duo W.heap.size W w2 d m2 r M2 []) => D.create2 ⟨#[108, 97, 115, 116]⟩ (by decide) he.symm rfl
        clear hF T1 HS hLM D1c he hz hk hlt
        go_wp2_with (first
          | (go_at_call 33; refine kwh.mono ?_; clear kwh; rintro e w2 ⟨rfl, D2⟩; have kc3 := kc1 D2; clear kc1)
          | (go_at_call 23; refine kc3.mono ?_; clear kc3; rintro e w3 ⟨rfl, D3⟩; have kc4 := kc2 D3; clear kc2)
          | (go_at_call 34; refine kc4.mono ?_; clear kc4; rintro e w4 ⟨rfl, D4⟩))
        go_ret
        exact ⟨rfl, D4.below⟩
#print axioms Dp.plays
end Go.Proofs.Ytgbeeghdoilmkaa
