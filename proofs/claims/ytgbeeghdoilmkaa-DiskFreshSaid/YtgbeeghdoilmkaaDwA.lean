/- Laws of disks: helpers that compare. Conditions: each theorem's own hypotheses. -/
import Derived.Test.YtgbeeghdoilmkaaDrD
namespace Go.Proofs.Ytgbeeghdoilmkaa
open Go.RowKit Go.Maps Go.Sort
set_option linter.unusedVariables false

/-- A row of names. -/
def Dw.Txs (W : World) (B : Nat) (v : Value) (l : List (List UInt8)) : Prop := W.ownsRow B 9 1 v l.length (l.map encStr)
theorem Dw.Txs.form {W : World} {B : Nat} {v : Value} {l : List (List UInt8)} (h : Dw.Txs W B v l) : ∃ a c, v = .slice a l.length c := by
  rcases h.2 with ⟨h1, h2⟩ | ⟨g, cap, cur, h1, _⟩
  · exact ⟨none, 0, by rw [h1, h2]⟩
  · exact ⟨_, _, h1⟩
theorem Dw.Txs.at_ {W : World} {B : Nat} {v : Value} {l : List (List UInt8)} (h : Dw.Txs W B v l) {k : Nat} {x : List UInt8} (hk : l[k]? = some x) : ∃ g c, v = .slice (some ⟨g, 0, none⟩) l.length c ∧ W.cell? ⟨g, k, none⟩ = some (Tx.v x) := by
  have hlt := (List.getElem?_eq_some_iff.1 hk).1
  obtain ⟨g, c, rfl, _⟩ := World.ownsRow.form h (by omega)
  refine ⟨g, c, rfl, ?_⟩
  rw [World.ownsRow.cellAt h k (by omega), List.getElem?_map, hk]; rfl
theorem Dw.Txs.keep {W W' : World} {B : Nat} {v : Value} {l : List (List UInt8)} (h : Dw.Txs W B v l) (hk : ∀ k, v.ownBlock = some k → W'.heap[k]? = W.heap[k]?) : Dw.Txs W' B v l := by
  refine ⟨h.1, ?_⟩
  rcases h.2 with h | ⟨g, cap, cur, rfl, hb, hg, r⟩
  · exact .inl h
  · exact .inr ⟨g, cap, cur, rfl, hb, (hk g rfl).trans hg, r⟩
theorem Dw.Txs.below {W W' : World} {B : Nat} {v : Value} {l : List (List UInt8)} (h : Dw.Txs W B v l) (hB : Below W.heap.size W W') : Dw.Txs W' B v l := h.keep fun k hk => hB.block k (World.ownsRow.lt h k hk).2

set_option maxRecDepth 100000 in
set_option maxHeartbeats 2000000 in
theorem Dw.same_any {W : World} {B1 B2 : Nat} {v1 v2 : Value} {l1 l2 : List (List UInt8)} (h1 : Dw.Txs W B1 v1 l1) (h2 : Dw.Txs W B2 v2 l2) (hl : l1.length ≤ 9223372036854775806) :
    Calls Try.prog 30 #[v1, v2] W fun e W' => e = .returned (.bool (decide (l1 = l2))) ∧ ∃ n, W' = W.drewN n := by
  obtain ⟨a1, c1, rfl⟩ := h1.form
  obtain ⟨a2, c2, rfl⟩ := h2.form
  obtain ⟨q, hq⟩ : ∃ q, decide (l1 = l2) = q := ⟨_, rfl⟩
  rw [hq]
  by_cases hlen : l1.length = l2.length
  · have u1 : ((l1.length : Int) != (l2.length : Int)) = false := by rw [hlen]; simp
    have HQ := Lib.hid hq
    have HLEN := Lib.hid hlen
    clear hq hlen
    go_enter Try.func30, Try.ntmps30
    go_wp2_with fail
    go_loopw [5] (fun i wr => ∃ k n : Nat, k ≤ l1.length ∧ i = .int .i64 k ∧ Hid (l1.take k = l2.take k) ∧ wr = W.drewN n) (fun i _ => l1.length - (intOf i).toNat)
    case atStart => exact ⟨0, 0, Nat.zero_le _, rfl, Lib.hid (by simp), rfl⟩
    case round =>
      obtain ⟨k, n, hk, rfl, HT, rfl⟩ := hrel
      by_cases hlt : k < l1.length
      · obtain ⟨x, hx⟩ : ∃ x, l1[k]? = some x := ⟨_, List.getElem?_eq_getElem hlt⟩
        obtain ⟨y, hy⟩ : ∃ y, l2[k]? = some y := ⟨_, List.getElem?_eq_getElem (by have := HLEN.out; omega)⟩
        obtain ⟨g1, d1, e1, p1⟩ := h1.at_ hx
        obtain ⟨g2, d2, e2, p2⟩ := h2.at_ hy
        injection e1 with e1 _ e1c
        injection e2 with e2 _ e2c
        subst e1 e2
        obtain ⟨xb, hxb, _⟩ := Tx.of x
        obtain ⟨yb, hyb, _⟩ := Tx.of y
        rw [Tx.v_eq hxb] at p1
        rw [Tx.v_eq hyb] at p2
        have hlt2 : k < l2.length := by have := HLEN.out; omega
        have hmx := Dk.take_more hx
        have hmy := Dk.take_more hy
        by_cases he : x = y
        · have hb : (xb.toList == yb.toList) = true := by rw [Tx.beq, hxb, hyb]; exact decide_eq_true he
          have hT2 : Hid (l1.take (k + 1) = l2.take (k + 1)) := by
            show _ = _
            rw [hmx, hmy, HT.out, he]
          clear hx hy hmx hmy hxb hyb he e1c e2c
          go_wp2_with fail
          go_quiet (fail)
          go_wp2_with fail
          go_roundw
          case rel => exact ⟨k + 1, _, hlt, by go_num, hT2, by first | rfl | rw [World.drewN_drewN]⟩
          case measure => simp [intOf]; omega
        · have hb : (xb.toList == yb.toList) = false := by rw [Tx.beq, hxb, hyb]; exact decide_eq_false he
          have hqf : q = false := by
            rw [← HQ.out]
            refine decide_eq_false fun h => he ?_
            rw [h, hy] at hx
            exact (Option.some.inj hx).symm
          subst hqf
          clear hx hy hmx hmy hxb hyb he e1c e2c HQ
          go_wp2_with fail
          go_quiet (fail)
          go_wp2_with fail
          go_ret
          exact ⟨rfl, _, by first | rfl | rw [World.drewN_drewN]⟩
      · obtain rfl : k = l1.length := by omega
        have hqt : q = true := by
          rw [← HQ.out]
          have h := HT.out
          rw [List.take_length, HLEN.out, List.take_length] at h
          exact decide_eq_true h
        subst hqt
        clear HT HQ
        go_wp2_with fail
        go_ret
        exact ⟨rfl, _, by first | rfl | rw [World.drewN_drewN]⟩
  · have u1 : ((l1.length : Int) != (l2.length : Int)) = true := by rw [bne_iff_ne]; omega
    have hqf : q = false := by
      rw [← hq]
      exact decide_eq_false fun h => hlen (by rw [h])
    subst hqf
    clear hq hlen
    go_enter Try.func30, Try.ntmps30
    go_wp2_with fail
    go_ret
    exact ⟨rfl, 0, rfl⟩

section
variable {W : World} {d r : Nat} {m : Dk.M} {F G : Nat → Prop}
set_option maxRecDepth 100000 in
set_option maxHeartbeats 4000000 in
/-- The two tell the same. -/
theorem Dw.alike_any (hd : Dk.At W d m F) (hr : Dr.At W r m G) (hG : Dk.Good m) :
    Calls Try.prog 13 #[.pointer (some ⟨d, 0, none⟩), .pointer (some ⟨r, 0, none⟩)] W fun e W' => e = .returned (.bool true) ∧ Below W.heap.size W W' := by
  have hu : Dk.used m.files ≤ 1099511627776 := by have := hG.used; have := hG.cap; omega
  have hmany := hG.many
  have htl : (Dk.told m).length ≤ 4096 := by unfold Dk.told; split; exact Nat.zero_le _; rw [List.length_map]; exact hmany
  have k1 := Dk.Names_any hd hG
  have k2 : ∀ w2, Below W.heap.size W w2 → _ := fun w2 h => Dr.names_any (hr.later h (Nat.le_refl _)) hmany
  have k3 : ∀ w2, Below W.heap.size W w2 → _ := fun w2 h => Dk.down_any (hd.later h (Nat.le_refl _))
  have k4 : ∀ w2, Below W.heap.size W w2 → _ := fun w2 h => Dr.down_any (hr.later h (Nat.le_refl _))
  have k5 : ∀ w2, Below W.heap.size W w2 → _ := fun w2 h => Dk.age_any (hd.later h (Nat.le_refl _))
  have k6 : ∀ w2, Below W.heap.size W w2 → _ := fun w2 h => Dr.age_any (hr.later h (Nat.le_refl _))
  have k7 : ∀ w2, Below W.heap.size W w2 → _ := fun w2 h => Dk.writes_any (hd.later h (Nat.le_refl _))
  have k8 : ∀ w2, Below W.heap.size W w2 → _ := fun w2 h => Dr.writes_any (hr.later h (Nat.le_refl _))
  have k9 : ∀ w2, Below W.heap.size W w2 → _ := fun w2 h => Dk.used_any (hd.later h (Nat.le_refl _))
  have k10 : ∀ w2, Below W.heap.size W w2 → _ := fun w2 h => Dr.used_any (hr.later h (Nat.le_refl _)) hu hmany
  have k11 : ∀ w2, Below W.heap.size W w2 → _ := fun w2 h => Dk.room_any (hd.later h (Nat.le_refl _))
  have k12 : ∀ w2, Below W.heap.size W w2 → _ := fun w2 h => Dr.room_any (hr.later h (Nat.le_refl _))
  have k13 : ∀ w2, Below W.heap.size W w2 → _ := fun w2 h => Dk.image_any (hd.later h (Nat.le_refl _)) hG
  have k14 : ∀ w2, Below W.heap.size W w2 → _ := fun w2 h => Dr.image_any (hr.later h (Nat.le_refl _)) hG
  obtain ⟨ib, hib, _⟩ := Tx.of (Dk.image m)
  simp only [Tx.v_eq hib] at k13 k14
  clear hib hd hr hG hu hmany
  go_enter Try.func13, Try.ntmps13
  go_wp2_with (first
    | (go_at_call 31; refine k1.mono ?_; rintro e w1 ⟨v1, rfl, r1, b1⟩)
    | (go_at_call 36; refine (k2 w1 b1).mono ?_; rintro e w2 ⟨v2, rfl, r2, b2⟩; have b3 := b1.trans (b2.mono b1.size); have r3 := Dw.Txs.below r1 b2
       have k0 := Dw.same_any r3 r2 (by omega)
       rw [decide_eq_true (rfl : Dk.told m = Dk.told m)] at k0)
    | (go_at_call 30; refine k0.mono ?_; rintro e w3 ⟨rfl, n, rfl⟩; have b4 := below_dn b3 n)
    | (go_at_call 17; refine (k3 _ b4).mono ?_; rintro e w ⟨rfl, rfl⟩)
    | (go_at_call 41; refine (k4 _ b4).mono ?_; rintro e w ⟨rfl, rfl⟩)
    | (go_at_call 29; refine (k5 _ b4).mono ?_; rintro e w ⟨rfl, rfl⟩)
    | (go_at_call 42; refine (k6 _ b4).mono ?_; rintro e w ⟨rfl, rfl⟩)
    | (go_at_call 27; refine (k7 _ b4).mono ?_; rintro e w ⟨rfl, rfl⟩)
    | (go_at_call 43; refine (k8 _ b4).mono ?_; rintro e w ⟨rfl, rfl⟩)
    | (go_at_call 26; refine (k9 _ b4).mono ?_; rintro e w ⟨rfl, rfl⟩)
    | (go_at_call 40; refine (k10 _ b4).mono ?_; rintro e w ⟨rfl, rfl⟩)
    | (go_at_call 44; refine (k11 _ b4).mono ?_; rintro e w ⟨rfl, rfl⟩)
    | (go_at_call 45; refine (k12 _ b4).mono ?_; rintro e w ⟨rfl, rfl⟩)
    | (go_at_call 25; refine (k13 _ b4).mono ?_; rintro e w5 ⟨rfl, b5⟩; have b6 := b4.trans (b5.mono b4.size))
    | (go_at_call 46; refine (k14 _ b6).mono ?_; rintro e w6 ⟨rfl, b7⟩; have b8 := b6.trans (b7.mono b6.size)))
  go_ret
  exact ⟨rfl, b8⟩
end
end Go.Proofs.Ytgbeeghdoilmkaa
