/- Contracts of the law's sameHits, holds and first. Conditions: each theorem's own hypotheses. -/
import Derived.Test.YtikhahkmebkccaaDoorBkAD
import Derived.Test.YtikhahkmebkccaaDoorBkY
namespace Go.Proofs.YtikhahkmebkccaaDoor
open Go.RowKit Go.Maps Go.Sort Go.Shelf
set_option linter.unusedVariables false
set_option linter.unusedSimpArgs false

theorem Bk.dn_trans {a b : World} (h : Bk.Dn a b) (n : Nat) : Bk.Dn a (b.drewN n) := by
  obtain ⟨m, rfl⟩ := h
  exact ⟨m + n, by simp [World.drewN, Nat.add_assoc]⟩
set_option maxRecDepth 100000 in
set_option maxHeartbeats 4000000 in
theorem Bk.same_eq {w : World} {v1 v2 : Value} {F : List Bk.H} (h1 : w.ownsRow 0 36 3 v1 F.length (Bk.hcs F)) (h2 : w.ownsRow 0 36 3 v2 F.length (Bk.hcs F)) (hl : F.length ≤ 4611686018427387903) :
    Calls Tryd.prog 18 #[v1, v2] w fun e w' => e = .returned (.bool true) ∧ Bk.Dn w w' := by
  obtain ⟨A, cap, rfl⟩ := Bk.row_form h1
  obtain ⟨B, cap2, rfl⟩ := Bk.row_form h2
  go_enter Tryd.func18, Tryd.ntmps18
  go_wp2_with fail
  go_loopg [5] F.length (fun n i wr => ∃ k : Nat, n + k = F.length ∧ i = .int .i64 k ∧ Bk.Dn w wr)
  case atStart => exact ⟨0, by omega, rfl, Bk.Dn.refl _⟩
  case round =>
    obtain ⟨k, hn, rfl, hd⟩ := hrel
    by_cases hkn : k = F.length
    · have u1 : decide (k < F.length) = false := decide_eq_false (by omega)
      go_wp2_with fail
      go_ret
      exact ⟨rfl, hd⟩
    · have u1 : decide (k < F.length) = true := decide_eq_true (by omega)
      obtain ⟨x, hx⟩ : ∃ x, F[k]? = some x := ⟨_, List.getElem?_eq_getElem (by omega)⟩
      obtain ⟨g, rfl, _, _, hg3, hg4⟩ := Bk.row_at h1 hx
      obtain ⟨g', rfl, _, _, hg3', hg4'⟩ := Bk.row_at h2 hx
      obtain ⟨d0, d1, d2⟩ := Bk.row3 h1 hx
      obtain ⟨e0, e1, e2⟩ := Bk.row3 h2 hx
      obtain ⟨m, rfl⟩ := hd
      have d0 : (w.drewN m).cell? ⟨g, k * 3, none⟩ = _ := d0
      have d1 : (w.drewN m).cell? ⟨g, k * 3 + 1, none⟩ = _ := d1
      have d2 : (w.drewN m).cell? ⟨g, k * 3 + 2, none⟩ = _ := d2
      have e0 : (w.drewN m).cell? ⟨g', k * 3, none⟩ = _ := e0
      have e1 : (w.drewN m).cell? ⟨g', k * 3 + 1, none⟩ = _ := e1
      have e2 : (w.drewN m).cell? ⟨g', k * 3 + 2, none⟩ = _ := e2
      have hkl : k < F.length := by omega
      have HN := Lib.hid hn
      clear hn hx h1 h2 hkn
      unfold Tx.v at d2 e2
      have hdm : Bk.Dn w (w.drewN m) := ⟨m, rfl⟩
      generalize w.drewN m = wx at d0 d1 d2 e0 e1 e2 hdm ⊢
      go_upto_region 6 with fail
      go_quiet (fail)
      go_wp2_with fail
      go_roundg (gk - 1)
      case measure => have := HN.out; omega
      case rel => exact ⟨k + 1, by have := HN.out; omega, congrArg (Value.int .i64) (by omega), Bk.dn_trans hdm nq⟩
/-- Strings as cells. -/
def Bk.ss (l : List (List UInt8)) : List Value := l.map Tx.v
theorem Bk.srow_at {w : World} {A : Option Addr} {cap j : Nat} {l : List (List UInt8)} {s : List UInt8} (h : w.ownsRow 0 9 1 (.slice A l.length cap) l.length (Bk.ss l)) (hj : l[j]? = some s) : ∃ g, A = some ⟨g, 0, none⟩ ∧ l.length ≤ cap ∧ cap ≤ maxLen ∧ w.cell? ⟨g, j, none⟩ = some (Tx.v s) := by
  have hlt := (List.getElem?_eq_some_iff.1 hj).1
  have hc : (Bk.ss l)[j]? = some (Tx.v s) := by unfold Bk.ss; rw [List.getElem?_map, hj]; rfl
  rcases h.2 with ⟨h', h0⟩ | ⟨g, cap', cur, h', hb, hg, h1, h2, _⟩
  · omega
  · injection h' with h1' h2' h3'
    subst h3' h1'
    have := h.cells (g := g) rfl _ _ hc
    rw [Bk.addr_add] at this
    exact ⟨g, rfl, h1, h2, this⟩
set_option maxRecDepth 100000 in
set_option maxHeartbeats 4000000 in
theorem Bk.holds_any {w : World} {v : Value} {l : List (List UInt8)} (h : w.ownsRow 0 9 1 v l.length (Bk.ss l)) (hl : l.length ≤ 4611686018427387903) (c : ByteArray) :
    Calls Tryd.prog 21 #[v, .string c] w fun e w' => e = .returned (.bool (decide (c.data.toList ∈ l))) ∧ w = w' := by
  obtain ⟨A, cap, rfl⟩ := Bk.row_form h
  go_enter Tryd.func21, Tryd.ntmps21
  go_wp2_with fail
  go_loop [5] (fun i => ∃ k : Nat, k ≤ l.length ∧ i = .int .i64 k ∧ Hid (c.data.toList ∉ l.take k)) (fun i => l.length - (intOf i).toNat)
  case atStart => exact ⟨0, by omega, rfl, Lib.hid (by simp)⟩
  case round =>
    obtain ⟨k, hk, rfl, hno⟩ := hrel
    by_cases hkn : k = l.length
    · have u1 : decide (k < l.length) = false := decide_eq_false (by omega)
      go_wp2_with fail
      go_ret
      have := hno.out
      rw [hkn, List.take_length] at this
      refine ⟨?_, rfl⟩
      rw [decide_eq_false this]
      rfl
    · have u1 : decide (k < l.length) = true := decide_eq_true (by omega)
      obtain ⟨s, hs⟩ : ∃ s, l[k]? = some s := ⟨_, List.getElem?_eq_getElem (by omega)⟩
      obtain ⟨g, rfl, hg3, hg4, d0⟩ := Bk.srow_at h hs
      obtain ⟨xb, hxb, _⟩ := Tx.of s
      rw [Tx.v_eq hxb] at d0
      have HS := Lib.hid (And.intro hs hxb)
      have hkl : k < l.length := by omega
      by_cases hsc : s = c.data.toList
      · have u2 : (xb.toList == c.toList) = true := by rw [Tx.beq, hxb]; exact decide_eq_true hsc
        have hr : decide (c.data.toList ∈ l) = true := decide_eq_true (hsc ▸ List.mem_of_getElem? hs)
        have HR := Lib.hid hr
        clear hs h hkn hr hsc hxb
        go_wp2_with fail
        go_ret
        rw [HR.out]
        exact ⟨rfl, rfl⟩
      · have u2 : (xb.toList == c.toList) = false := by rw [Tx.beq, hxb]; exact decide_eq_false hsc
        have hno2 : c.data.toList ∉ l.take (k + 1) := by
          rw [List.take_add_one, hs]
          intro hm
          rcases List.mem_append.1 hm with hm | hm
          · exact hno.out hm
          · simp only [Option.toList_some, List.mem_singleton] at hm
            exact hsc hm.symm
        have HN2 := Lib.hid hno2
        clear hs h hkn hsc hxb hno2
        go_wp2_with fail
        go_round
        case rel => exact ⟨k + 1, by omega, congrArg (Value.int .i64) (by omega), HN2⟩
        case measure => simp [intOf]; omega
theorem Bk.cut_is {S : List Bk.H} {b j : Nat} (hS : S.Pairwise fun a b => Bk.leH a b = true) (h1 : ∀ y ∈ S.take j, y.d ≤ b) (h2 : ∀ y, S[j]? = some y → b < y.d) : S.filter (fun y => decide (y.d ≤ b)) = S.take j := by
  have h3 : (S.take j).filter (fun y => decide (y.d ≤ b)) = S.take j := List.filter_eq_self.2 fun y hy => decide_eq_true (h1 y hy)
  have h4 : (S.drop j).filter (fun y => decide (y.d ≤ b)) = [] := by
    rw [List.filter_eq_nil_iff]
    intro z hz
    cases hd : S.drop j with
    | nil => rw [hd] at hz; cases hz
    | cons y r =>
      have hy : S[j]? = some y := by
        have := congrArg (fun l => l[0]?) hd
        simpa using this
      have hp : (y :: r).Pairwise fun a b => Bk.leH a b = true := by rw [← hd]; exact hS.sublist (List.drop_sublist _ _)
      rw [hd] at hz
      have hlt := h2 y hy
      rcases List.mem_cons.1 hz with rfl | hz
      · simp; omega
      · have := (Bk.leH_iff y z).1 ((List.pairwise_cons.1 hp).1 z hz)
        simp; omega
  conv => lhs; rw [← List.take_append_drop j S]
  rw [List.filter_append, h3, h4, List.append_nil]
set_option maxRecDepth 100000 in
set_option maxHeartbeats 4000000 in
theorem Bk.first_any {w : World} {v : Value} {S : List Bk.H} (h : w.ownsRow 0 36 3 v S.length (Bk.hcs S)) (hS : S.Pairwise fun a b => Bk.leH a b = true) (hl : S.length ≤ 4611686018427387903) {k : Nat} (hk : k ≤ 4096) :
    Calls Tryd.prog 20 #[v, .int .i64 k] w fun e w' => ∃ v', e = .returned v' ∧ w = w' ∧ w.ownsRow 0 36 3 v' (Bk.firstK S k).length (Bk.hcs (Bk.firstK S k)) := by
  obtain ⟨A, cap, rfl⟩ := Bk.row_form h
  by_cases hz : k = 0 ∨ S.length = 0
  · have hf : Bk.firstK S k = [] := by
      unfold Bk.firstK
      rcases hz with rfl | hz
      · rfl
      · split
        · rfl
        · rw [List.length_eq_zero_iff.1 hz]; rfl
    rw [hf]
    have hnil : w.ownsRow 0 36 3 (.slice none 0 0) ([] : List Bk.H).length (Bk.hcs []) := ⟨by simp [Bk.hcs], .inl ⟨rfl, rfl⟩⟩
    by_cases hk0 : k = 0
    · subst hk0
      clear hz h hf
      go_enter Tryd.func20, Tryd.ntmps20
      go_wp2_with fail
      go_ret
      exact ⟨_, rfl, rfl, hnil⟩
    · have u1 : decide ((k : Int) ≤ 0) = false := decide_eq_false (by omega)
      have hs0 : S.length = 0 := by omega
      rw [hs0] at h ⊢
      clear hz h hf hl hS
      go_enter Tryd.func20, Tryd.ntmps20
      go_wp2_with fail
      go_ret
      exact ⟨_, rfl, rfl, hnil⟩
  · obtain ⟨m, hm⟩ : ∃ m, min k S.length = m + 1 := ⟨min k S.length - 1, by omega⟩
    obtain ⟨x, hx⟩ : ∃ x, S[m]? = some x := ⟨_, List.getElem?_eq_getElem (by omega)⟩
    obtain ⟨g, rfl, _, _, hg3, hg4⟩ := Bk.row_at h hx
    obtain ⟨d0, d1, d2⟩ := Bk.row3 h hx
    have hml := (List.getElem?_eq_some_iff.1 hx).1
    have hf : Bk.firstK S k = S.filter fun y => decide (y.d ≤ x.d) := by
      unfold Bk.firstK
      rw [if_neg (by omega), hm, Nat.add_sub_cancel, hx]
    have hmin : ∀ ts t (w : World), (Builtin.min_ ts t #[.int .i64 k, .int .i64 S.length]).run Tryd.prog w = .ok (.int .i64 ((m : Int) + 1)) w := by
      intro ts t w
      rw [run_min_int2]
      congr 2
      split <;> omega
    have u1 : decide (k = 0) = false := decide_eq_false (by omega)
    have u0 : ¬ k = 0 := by omega
    have u2 : ((S.length : Int) == 0) = false := by rw [beq_eq_false_iff_ne]; omega
    have HX := Lib.hid (And.intro hx (And.intro hf (And.intro hS hm)))
    clear hx hf hS hm hz d1 d2
    go_enter Tryd.func20, Tryd.ntmps20
    go_wp2_with fail
    go_loop [6] (fun i => ∃ j : Nat, j ≤ S.length ∧ i = .int .i64 j ∧ Hid (∀ y ∈ S.take j, y.d ≤ x.d)) (fun i => S.length - (intOf i).toNat)
    case atStart => exact ⟨0, by omega, rfl, Lib.hid (by simp)⟩
    case round =>
      obtain ⟨j, hj, rfl, hall⟩ := hrel
      by_cases hjn : j = S.length
      · have u3 : decide (j < S.length) = false := decide_eq_false (by omega)
        have hcut := Bk.row_cut h (i := j) hj
        rw [Bk.hcs_take, ← Bk.cut_is HX.out.2.2.1 hall.out (fun y hy => by rw [List.getElem?_eq_none (by omega)] at hy; cases hy), ← HX.out.2.1] at hcut
        have hlen : (Bk.firstK S k).length = j := by
          rw [HX.out.2.1, Bk.cut_is HX.out.2.2.1 hall.out (fun y hy => by rw [List.getElem?_eq_none (by omega)] at hy; cases hy), List.length_take]
          omega
        have HC := Lib.hid (And.intro hcut hlen)
        clear hcut hlen hjn hall h
        go_wp2_with fail
        go_ret
        refine ⟨_, rfl, rfl, ?_⟩
        rw [HC.out.2]
        exact HC.out.1
      · have u3 : decide (j < S.length) = true := decide_eq_true (by omega)
        obtain ⟨y, hy⟩ : ∃ y, S[j]? = some y := ⟨_, List.getElem?_eq_getElem (by omega)⟩
        obtain ⟨e0, e1, e2⟩ := Bk.row3 h hy
        have hjl : j < S.length := by omega
        by_cases hyx : y.d ≤ x.d
        · have u4 : decide (y.d ≤ x.d) = true := decide_eq_true hyx
          have hall2 : ∀ z ∈ S.take (j + 1), z.d ≤ x.d := by
            rw [List.take_add_one, hy]
            intro z hz
            rcases List.mem_append.1 hz with hz | hz
            · exact hall.out z hz
            · simp only [Option.toList_some, List.mem_singleton] at hz
              subst hz; exact hyx
          have HA := Lib.hid hall2
          clear hall2 hall hjn hy e1 e2
          go_wp2_with fail
          go_round
          case rel => exact ⟨j + 1, by omega, congrArg (Value.int .i64) (by omega), HA⟩
          case measure => simp [intOf]; omega
        · have u4 : decide (y.d ≤ x.d) = false := decide_eq_false hyx
          have hst : ∀ z, S[j]? = some z → x.d < z.d := fun z hz => by rw [hy] at hz; obtain rfl := Option.some.inj hz; omega
          have hcut := Bk.row_cut h (i := j) hj
          rw [Bk.hcs_take, ← Bk.cut_is HX.out.2.2.1 hall.out hst, ← HX.out.2.1] at hcut
          have hlen : (Bk.firstK S k).length = j := by
            rw [HX.out.2.1, Bk.cut_is HX.out.2.2.1 hall.out hst, List.length_take]
            omega
          have HC := Lib.hid (And.intro hcut hlen)
          clear hcut hlen hjn hall hst h hy e1 e2
          go_wp2_with fail
          go_ret
          refine ⟨_, rfl, rfl, ?_⟩
          rw [HC.out.2]
          exact HC.out.1
end Go.Proofs.YtikhahkmebkccaaDoor
