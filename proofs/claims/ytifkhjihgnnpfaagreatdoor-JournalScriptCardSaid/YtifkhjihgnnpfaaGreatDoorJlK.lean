/- The document's goes, Told, Look of a journal. Conditions: each theorem's own hypotheses. -/
import Derived.Test.YtifkhjihgnnpfaaGreatDoorJlE
import Derived.Test.YtifkhjihgnnpfaaGreatDoorZDrF
import Derived.OwnWalk
import Derived.Test.YtifkhjihgnnpfaaGreatDoorZDkW
import Derived.Test.YtifkhjihgnnpfaaGreatDoorZDrL
namespace Go.Proofs.YtifkhjihgnnpfaaGreatDoor
open Go.RowKit
set_option linter.unusedVariables false

theorem refWide_any (l : Int) (w : World) :
    Calls Tryz.prog 82 #[.int .i64 l] w fun e w' => e = .returned (.bool (Jn.wideB l)) ∧ w = w' := by
  unfold Jn.wideB
  by_cases h1 : 64 ≤ l
  rotate_left
  · rw [decide_eq_false h1]
    exact refWide_low l w (by omega)
  by_cases h2 : l ≤ 1024
  rotate_left
  · rw [decide_eq_false h2, Bool.and_false]
    exact refWide_high l w (by omega)
  obtain ⟨n, rfl⟩ := Int.eq_ofNat_of_zero_le (show 0 ≤ l by omega)
  rw [decide_eq_true h1, decide_eq_true h2]
  exact refWide_mid n w (by omega) (by omega) _ rfl
set_option maxRecDepth 100000 in
theorem Jl.refGoes_any (n sq l : Int) (w : World) :
    Calls Tryz.prog 49 #[.int .i64 n, .int .i64 sq, .int .i64 l] w fun e w' => e = .returned (.int .i64 (Jn.goesE n sq l)) ∧ w = w' := by
  have k2 := fun w => refWide_any l w
  unfold Jn.goesE
  by_cases h0 : n < 1
  · rw [if_pos (.inl h0)]
    have q0 : decide (n < 1) = true := decide_eq_true h0
    go_enter Tryz.func49, Tryz.ntmps49
    go_wp2_with fail
    go_ret
    exact ⟨rfl, rfl⟩
  have q0 : decide (n < 1) = false := decide_eq_false h0
  by_cases h1 : 1099511627776 < n
  · rw [if_pos (.inr h1)]
    have q1 : decide (1099511627776 < n) = true := decide_eq_true h1
    go_enter Tryz.func49, Tryz.ntmps49
    go_wp2_with fail
    go_ret
    exact ⟨rfl, rfl⟩
  have q1 : decide (1099511627776 < n) = false := decide_eq_false h1
  rw [if_neg (by omega)]
  cases hw : Jn.wideB l with
  | false =>
    rw [hw] at k2
    rw [if_pos rfl]
    clear hw
    go_enter Tryz.func49, Tryz.ntmps49
    go_wp2_with (go_at_call 82; refine (k2 _).mono ?_; rintro e w' ⟨rfl, rfl⟩)
    go_ret
    exact ⟨rfl, rfl⟩
  | true =>
    rw [hw] at k2
    rw [if_neg (by decide)]
    clear hw
    by_cases h2 : sq < 0
    · have q2 : decide (sq < 0) = true := decide_eq_true h2
      rw [if_pos (.inl h2)]
      go_enter Tryz.func49, Tryz.ntmps49
      go_wp2_with (go_at_call 82; refine (k2 _).mono ?_; rintro e w' ⟨rfl, rfl⟩)
      go_ret
      exact ⟨rfl, rfl⟩
    have q2 : decide (sq < 0) = false := decide_eq_false h2
    by_cases h3 : 1152921504606846976 < sq
    · have q3 : decide (1152921504606846976 < sq) = true := decide_eq_true h3
      rw [if_pos (.inr h3)]
      go_enter Tryz.func49, Tryz.ntmps49
      go_wp2_with (go_at_call 82; refine (k2 _).mono ?_; rintro e w' ⟨rfl, rfl⟩)
      go_ret
      exact ⟨rfl, rfl⟩
    have q3 : decide (1152921504606846976 < sq) = false := decide_eq_false h3
    rw [if_neg (by omega)]
    go_enter Tryz.func49, Tryz.ntmps49
    go_wp2_with (go_at_call 82; refine (k2 _).mono ?_; rintro e w' ⟨rfl, rfl⟩)
    go_ret
    exact ⟨rfl, rfl⟩
/-- What is told, as numbers. -/
def Jl.toldR (X : Option (List Jn.Upd × Nat)) : List Jn.Upd × Nat × Int := match X with | some (us, g) => (us, g, 0) | none => ([], 0, 80)
set_option maxRecDepth 100000 in
set_option maxHeartbeats 4000000 in
theorem Jl.refTold_any (b : ByteArray) (sq l : Nat) (W : World) (hb : b.size ≤ 268435456) (hsq : sq ≤ 1152921504606846976) (hl : l ≤ 1024) {us : List Jn.Upd} {g : Nat} {c : Int} (hL : Jl.toldR (Jn.look b.data.toList sq l) = (us, g, c)) :
    Calls Tryz.prog 59 #[.string b, .int .i64 sq, .int .i64 l] W fun e W' => (∃ v, e = .returned (.tuple #[v, .int .i64 g, .int .i64 c]) ∧ Jl.Own W' W.heap.size v us) ∧ Below W.heap.size W W' := by
  obtain ⟨i0, hi, hz0, hz1, hz2⟩ := info_parts infoUpd
  have hlb : b.data.toList.length = b.size := Array.length_toList
  have HL := Lib.hid hL
  have kpay := fun (s : ByteArray) (k : Nat) (w : World) (hs : s.size ≤ 65536) => refPayload_any s k l w (by omega) hl
  clear hL
  go_enter Tryz.func59, Tryz.ntmps59
  go_wp2_with fail
  go_loopw [9, 10] (fun v i wr => ∃ acc k f, k ≤ b.size ∧ i = .int .i64 (k : Nat) ∧ Jl.Own wr W.heap.size v acc ∧ Below W.heap.size W wr ∧ Hid (Jn.look b.data.toList sq l = Jn.told sq l f (b.data.toList.drop k) k acc ∧ b.size < f + k ∧ 14 * acc.length ≤ k)) (fun _ i _ => b.size - (intOf i).toNat)
  case atStart => exact ⟨[], 0, b.size + 1, Nat.zero_le _, rfl, Jl.Own.nil _ _, Below.refl _ _, Lib.hid ⟨by unfold Jn.look; rw [hlb]; rfl, by omega, Nat.le_refl _⟩⟩
  case round =>
    obtain ⟨acc, k, f, hk, rfl, hown, hB, HT⟩ := hrel
    obtain ⟨A, cp, rfl⟩ := hown.form
    have hz := hB.size
    by_cases hlt : k < b.size
    · obtain ⟨R, hR⟩ : ∃ R, Sl.parse (b.data.toList.drop k) = R := ⟨_, rfl⟩
      have kp := refParse_any b k R wr (by omega) (by omega) hR
      have HR := Lib.hid hR
      have hne : ¬ (b.data.toList.drop k).length = 0 := by rw [List.length_drop]; omega
      by_cases hc : R.code = 0
      rotate_left
      · obtain ⟨Y, hY, _, _⟩ := str_of R.pay
        have q1 : ((R.code : Int) != 0) = true := by rw [bne_iff_ne]; omega
        unfold parseV at kp
        rw [if_neg hc, hY] at kp
        have hfin : us = acc ∧ g = k ∧ c = 0 := by
          obtain ⟨h1, h2, h3⟩ := HT.out
          have h4 := HL.out
          obtain ⟨f, rfl⟩ : ∃ q, f = q + 1 := ⟨f - 1, by omega⟩
          unfold Jn.told at h1
          rw [if_neg hne, hR, if_pos hc] at h1
          rw [h1] at h4
          unfold Jl.toldR at h4
          simp only [Prod.mk.injEq] at h4
          exact ⟨h4.1.symm, h4.2.1.symm, h4.2.2.symm⟩
        obtain ⟨rfl, rfl, rfl⟩ := hfin
        clear hY hR hne HT HL
        go_wp2_with (go_at_call 91; refine kp.mono ?_; clear kp; rintro e w1 ⟨rfl, b1⟩)
        refine bodyPost_ret (v := .tuple #[.slice A us.length cp, .int .i64 (g : Int), .int .i64 0]) (by simp [results, Tryz.results59, go_sem]) rfl ?_
        exact ⟨⟨_, rfl, Jl.row_grown hown (Jl.grown_of b1)⟩, hB.trans (b1.mono hz)⟩
      · have hpl3 := Jn.parse_len (b.data.toList.drop k) (by rw [hR]; exact hc)
        rw [hR, List.length_drop] at hpl3
        obtain ⟨D, hD, hDd, hDs⟩ := str_of R.pay
        unfold parseV at kp
        rw [hc, if_pos rfl, hD] at kp
        obtain ⟨e, he⟩ : ∃ e, k + R.len = e := ⟨_, rfl⟩
        obtain ⟨q, hq⟩ : ∃ q, R.kind = q := ⟨_, rfl⟩
        rw [he, hq] at kp
        have kpy := fun w => kpay D q w (by omega)
        rw [hDd] at kpy
        obtain ⟨u, hu⟩ : ∃ u, Jn.pay q R.pay l = u := ⟨_, rfl⟩
        rw [hu] at kpy
        have htold : Jn.look b.data.toList sq l = if u.err = 0 ∧ u.seq = sq + acc.length + 1 then Jn.told sq l (f - 1) (b.data.toList.drop e) e (acc ++ [u]) else none := by
          obtain ⟨h1, h2, h3⟩ := HT.out
          obtain ⟨f, rfl⟩ : ∃ q, f = q + 1 := ⟨f - 1, by omega⟩
          rw [h1]
          conv => lhs; unfold Jn.told
          rw [if_neg hne, hR, if_neg (not_not_intro hc), hq, hu, he, List.drop_drop, he]
          rfl
        have hfl := HT.out.2
        obtain ⟨uq, uk, ui, uc, ue⟩ := u
        simp only at htold
        obtain ⟨C, hC, hCd, hCs⟩ := str_of uc
        have hfour : Jl.four ⟨uq, uk, ui, uc, ue⟩ = [.int .i64 uq, .int .i64 uk, .int .i64 ui, .string C] := by unfold Jl.four; rw [hC]
        unfold updV at kpy
        simp only [hC] at kpy
        have HX := Lib.hid (And.intro hfour (And.intro htold hfl))
        have hal : acc.length ≤ 268435456 := by omega
        have hke : k + 14 ≤ e := by omega
        have heb : e ≤ b.size := by omega
        have w1e : IntKind.i64.wrap ((sq : Int) + (acc.length : Int)) = ((sq + acc.length : Nat) : Int) := (IntWalk.i64_in _ (by omega)).trans (by omega)
        have w2e : IntKind.i64.wrap (((sq + acc.length : Nat) : Int) + 1) = ((sq + acc.length + 1 : Nat) : Int) := (IntWalk.i64_in _ (by omega)).trans (by omega)
        clear hR hD hDd hDs hpl3 hc he hq hne hu hC hCd hCs hfour htold hfl HT HR kpay
        by_cases h1 : ue = 0
        rotate_left
        · have q1 : ((ue : Int) != 0) = true := by rw [bne_iff_ne]; omega
          have hfin : us = [] ∧ g = 0 ∧ c = 80 := by
            have h4 := HL.out
            rw [HX.out.2.1, if_neg (fun h => h1 h.1)] at h4
            unfold Jl.toldR at h4
            simp only [Prod.mk.injEq] at h4
            exact ⟨h4.1.symm, h4.2.1.symm, h4.2.2.symm⟩
          obtain ⟨rfl, rfl, rfl⟩ := hfin
          clear HX HL w1e w2e
          go_wp2_with (first
            | (go_at_call 91; refine kp.mono ?_; clear kp; rintro e w1 ⟨rfl, b1⟩)
            | (go_at_call 92; refine (kpy _).mono ?_; clear kpy; rintro e w2 ⟨rfl, b2⟩))
          refine bodyPost_ret (v := .tuple #[.slice none 0 0, .int .i64 ((0 : Nat) : Int), .int .i64 80]) (by simp [results, Tryz.results59, go_sem]) rfl ?_
          have b12 := b1.trans (b2.mono b1.size)
          exact ⟨⟨_, rfl, Jl.Own.nil _ _⟩, hB.trans ((b12.alloc b12.size _).mono hz)⟩
        subst h1
        have q1 : (((0 : Nat) : Int) != 0) = false := rfl
        by_cases h2 : uq = sq + acc.length + 1
        rotate_left
        · have q2 : ((uq : Int) != ((sq + acc.length + 1 : Nat) : Int)) = true := by rw [bne_iff_ne]; omega
          have hfin : us = [] ∧ g = 0 ∧ c = 80 := by
            have h4 := HL.out
            rw [HX.out.2.1, if_neg (fun h => h2 h.2)] at h4
            unfold Jl.toldR at h4
            simp only [Prod.mk.injEq] at h4
            exact ⟨h4.1.symm, h4.2.1.symm, h4.2.2.symm⟩
          obtain ⟨rfl, rfl, rfl⟩ := hfin
          clear HX HL h2
          go_wp2_with (first
            | (go_at_call 91; refine kp.mono ?_; clear kp; rintro e w1 ⟨rfl, b1⟩)
            | (go_at_call 92; refine (kpy _).mono ?_; clear kpy; rintro e w2 ⟨rfl, b2⟩))
          refine bodyPost_ret (v := .tuple #[.slice none 0 0, .int .i64 ((0 : Nat) : Int), .int .i64 80]) (by simp [results, Tryz.results59, go_sem]) rfl ?_
          have b12 := b1.trans (b2.mono b1.size)
          exact ⟨⟨_, rfl, Jl.Own.nil _ _⟩, hB.trans ((b12.alloc b12.size _).mono hz)⟩
        have q2 : ((uq : Int) != ((sq + acc.length + 1 : Nat) : Int)) = false := by rw [bne_eq_false_iff_eq]; omega
        have HH2 := Lib.hid h2
        clear h2
        have hap1 : acc.length + 1 ≤ maxLen := by unfold maxLen; omega
        have hap2 : (acc.length + 1) * 40 ≤ 140737488355328 := by omega
        go_wp2_with (first
          | (go_at_call 91; refine kp.mono ?_; clear kp; rintro e w1 ⟨rfl, b1⟩)
          | (go_at_call 92; refine (kpy _).mono ?_; clear kpy; rintro e w2 ⟨rfl, b2⟩; have b12 := b1.trans (b2.mono b1.size); have z12 := b12.size; have hown2 : w2.ownsRow W.heap.size 33 4 (.slice A acc.length cp) acc.length (Jl.cells acc) := Jl.row_grown hown (Jl.grown_of b12); have hown3 := (hown2.alloc (.cells #[.int .i64 (uq : Int), .int .i64 (uk : Int), .int .i64 (ui : Int), .string C] 33)).alloc (.cells #[.int .i64 (uq : Int), .int .i64 (uk : Int), .int .i64 (ui : Int), .string C] 33); have HN := Lib.hid (Jl.news (Blk.new (w2.alloc (.cells #[.int .i64 (uq : Int), .int .i64 (uk : Int), .int .i64 (ui : Int), .string C] 33)) 33 #[.int .i64 (uq : Int), .int .i64 (uk : Int), .int .i64 (ui : Int), .string C])); rw [World.size_alloc] at HN; have hap3 : W.heap.size ≤ ((w2.alloc (.cells #[.int .i64 (uq : Int), .int .i64 (uk : Int), .int .i64 (ui : Int), .string C] 33)).alloc (.cells #[.int .i64 (uq : Int), .int .i64 (uk : Int), .int .i64 (ui : Int), .string C] 33)).heap.size := by rw [World.size_alloc, World.size_alloc]; omega)
          | (at_builtin; go_loud (refine wpList_append_own (hs := ?e1) (hx := ?e2) (hown := hown3) _ rfl (.tmp 52) (.tmp 54) 54 ?e0 W.heap.size 33 i0 (.agg #[.int .i64 0, .int .i64 0, .int .i64 0, .string ⟨#[]⟩]) 4 40 Tryz.underlying54 hi hz0 hz1 hz2 ?e3 (by decide) (.slice A acc.length cp) acc.length (Jl.cells acc) ⟨w2.heap.size + 1, 0, none⟩ 1 1 [.int .i64 (uq : Int), .int .i64 (uk : Int), .int .i64 (ui : Int), .string C] ?e4 HN.out (by simp [Value.oneCell']) hap1 hap2 hap3 ?_)))
        case e0 => rfl
        case e3 => rfl
        case e4 => rfl
        case e1 => simp [Act.eval]
        case e2 => simp [Act.eval]
        intro v' w5 hown5 hgr5 _
        obtain ⟨g', cap', rfl⟩ := ownsRow_succ hown5
        have hB2 := hB.trans (b12.mono hz)
        have hB5 : Below W.heap.size W w5 := ((hB2.alloc hB2.size _).alloc (by rw [World.size_alloc]; have := hB2.size; omega) _).grown hgr5 (by rw [World.size_alloc, World.size_alloc]; have := hB2.size; omega) fun q hq => (hown.lt hq).1
        obtain ⟨x1, x2, x3⟩ := HX.out
        rw [if_pos ⟨trivial, HH2.out⟩] at x2
        have hown6 : Jl.Own w5 W.heap.size (.slice (some ⟨g', 0, none⟩) (acc.length + 1) cap') (acc ++ [⟨uq, uk, ui, uc, 0⟩]) := by
          unfold Jl.Own
          rw [Jl.cells_snoc, x1, List.length_append]
          exact hown5
        have HT2 : Hid (Jn.look b.data.toList sq l = Jn.told sq l (f - 1) (b.data.toList.drop e) e (acc ++ [⟨uq, uk, ui, uc, 0⟩]) ∧ b.size < f - 1 + e ∧ 14 * (acc ++ [⟨uq, uk, ui, uc, 0⟩] : List Jn.Upd).length ≤ e) := Lib.hid ⟨x2, by omega, by rw [List.length_append, List.length_singleton]; omega⟩
        clear hown2 hown3 hown5 hgr5 HN hown
        go_wp2_with fail
        go_roundw
        case rel => exact ⟨_, e, f - 1, heb, rfl, hown6, hB5, HT2⟩
        case measure => simp [intOf]; omega
    · have hkb : k = b.size := by omega
      have hfin : us = acc ∧ g = k ∧ c = 0 := by
        obtain ⟨h1, h2, h3⟩ := HT.out
        have h4 := HL.out
        obtain ⟨f, rfl⟩ : ∃ q, f = q + 1 := ⟨f - 1, by omega⟩
        unfold Jn.told at h1
        rw [if_pos (by rw [List.length_drop]; omega)] at h1
        rw [h1] at h4
        unfold Jl.toldR at h4
        simp only [Prod.mk.injEq] at h4
        exact ⟨h4.1.symm, h4.2.1.symm, h4.2.2.symm⟩
      obtain ⟨rfl, rfl, rfl⟩ := hfin
      subst hkb
      clear HT HL
      go_wp2_with fail
      refine bodyPost_ret (v := .tuple #[.slice A us.length cp, .int .i64 (b.size : Int), .int .i64 0]) (by simp [results, Tryz.results59, go_sem]) rfl ?_
      exact ⟨⟨_, rfl, hown⟩, hB⟩
set_option maxRecDepth 100000 in
set_option maxHeartbeats 4000000 in
/-- The document's Look. -/
theorem Jl.refLook_any {W : World} {r : Nat} {m : Dk.M} {F : Nat → Prop} (h : Dr.At W r m F) (hG : Dk.Good m) (n sq l : Int) (hP : PowT W) {us : List Jn.Upd} {g : Nat} {c : Int} (hL : Jl.lookR m n sq l = (us, g, c)) :
    Calls Tryz.prog 30 #[.pointer (some ⟨r, 0, none⟩), .int .i64 n, .int .i64 sq, .int .i64 l] W fun e W' => (∃ v, e = .returned (.tuple #[v, .int .i64 g, .int .i64 c]) ∧ Jl.Own W' W.heap.size v us) ∧ Below W.heap.size W W' := by
  have k1 := fun w => Jl.refGoes_any n sq l w
  obtain ⟨nb, hnb, hnbd, hnbs⟩ := str_of (Jn.name n)
  have hname := Jl.name_len n
  unfold Jl.lookR at hL
  by_cases hg : Jn.goesE n sq l = 0
  rotate_left
  · rw [if_neg hg] at hL
    obtain ⟨j1, hh2⟩ := Prod.mk.inj hL
    obtain ⟨j2, j3⟩ := Prod.mk.inj hh2
    clear hL hh2
    subst j1 j2
    rw [j3] at k1 hg
    have q1 : (c != 0) = true := bne_iff_ne.2 hg
    clear h hG hg j3 hP hnb hnbd hnbs hname
    go_enter Tryz.func30, Tryz.ntmps30
    go_wp2_with (go_at_call 49; refine (k1 _).mono ?_; rintro e w1 ⟨rfl, rfl⟩)
    refine bodyPost_ret (v := .tuple #[.slice none 0 0, .int .i64 ((0 : Nat) : Int), .int .i64 c]) (by simp [results, Tryz.results30, go_sem]) rfl ?_
    exact ⟨⟨_, rfl, Jl.Own.nil _ _⟩, Below.refl _ _⟩
  rw [if_pos hg] at hL
  have k2 := fun {w : World} (hB : Below W.heap.size W w) => refName_any n w (hP.below hB) nb hnb
  have k3 := fun {w : World} (hB : Below W.heap.size W w) => Dr.size_any (h.later hB (Nat.le_refl _)) hG.many nb (by omega)
  unfold Dk.sizeV at k3
  rw [hnbd] at k3
  rw [hg] at k1
  by_cases hc : Dk.code m (Jn.name n) = 0
  rotate_left
  · rw [if_neg hc] at hL k3
    obtain ⟨j1, hh2⟩ := Prod.mk.inj hL
    obtain ⟨j2, j3⟩ := Prod.mk.inj hh2
    clear hL hh2
    subst j1 j2
    rw [j3] at k3 hc
    have q1 : (c != 0) = true := bne_iff_ne.2 hc
    have B0 := Below.refl W.heap.size W
    clear h hG hg hc j3 hP hnb hnbd hnbs hname
    go_enter Tryz.func30, Tryz.ntmps30
    go_wp2_with (first
      | (go_at_call 49; refine (k1 _).mono ?_; rintro e w1 ⟨rfl, rfl⟩)
      | (go_at_call 29; refine (k2 B0).mono ?_; rintro e w1 ⟨rfl, b1⟩)
      | (go_at_call 52; refine (k3 b1).mono ?_; rintro e w2 ⟨rfl, rfl⟩))
    refine bodyPost_ret (v := .tuple #[.slice none 0 0, .int .i64 ((0 : Nat) : Int), .int .i64 c]) (by simp [results, Tryz.results30, go_sem]) rfl ?_
    exact ⟨⟨_, rfl, Jl.Own.nil _ _⟩, b1⟩
  rw [if_pos hc] at hL k3
  obtain ⟨_, hwid, hsq⟩ := Jn.goesE_zero hg
  have hwid2 := Jn.wideB_true hwid
  obtain ⟨sq, rfl⟩ := Int.eq_ofNat_of_zero_le hsq.1
  obtain ⟨l, rfl⟩ := Int.eq_ofNat_of_zero_le (show 0 ≤ l by omega)
  obtain ⟨D, hD, hDs⟩ := Tx.of (Dk.data m (Jn.name n))
  have hDl := Jl.data_len hG (Jn.name n)
  have k4 := fun {w : World} (hB : Below W.heap.size W w) => Dr.read_any (h.later hB (Nat.le_refl _)) hG nb (by omega) 0 (Dk.data m (Jn.name n)).length (by omega) (by omega)
  unfold Dk.readV at k4
  rw [hnbd, if_pos hc, if_neg (by omega), Int.toNat_zero, List.drop_zero, Int.toNat_natCast, List.take_length] at k4
  simp only [Tx.v_eq hD] at k4
  rw [← hD] at hL
  have k5 := fun w => Jl.refTold_any D sq l w (by omega) (by omega) (by omega) (hL : Jl.toldR _ = _)
  obtain ⟨len, hlen⟩ : ∃ len, (Dk.data m (Jn.name n)).length = len := ⟨_, rfl⟩
  rw [hlen] at k3
  simp only [hlen] at k4
  have B0 := Below.refl W.heap.size W
  clear h hG hg hc hP hnb hnbd hnbs hname hL hD hDs hDl hlen hwid hwid2 hsq
  go_enter Tryz.func30, Tryz.ntmps30
  go_wp2_with (first
    | (go_at_call 49; refine (k1 _).mono ?_; rintro e w1 ⟨rfl, rfl⟩)
    | (go_at_call 29; refine (k2 B0).mono ?_; clear B0; rintro e w1 ⟨rfl, b1⟩)
    | (go_at_call 52; refine (k3 b1).mono ?_; clear k3; rintro e w2 ⟨rfl, rfl⟩)
    | (go_at_call 29; refine (k2 b1).mono ?_; clear k2; rintro e w3 ⟨rfl, b3⟩; have B3 := b1.trans (b3.mono b1.size))
    | (go_at_call 58; refine (k4 B3).mono ?_; clear k4; rintro e w2 ⟨rfl, rfl⟩)
    | (go_at_call 59; refine (k5 _).mono ?_; clear k5; rintro e w5 ⟨⟨v, rfl, r5⟩, b5⟩))
  refine bodyPost_ret (v := .tuple #[v, .int .i64 (g : Int), .int .i64 c]) (by simp [results, Tryz.results30, go_sem]) rfl ?_
  exact ⟨⟨_, rfl, r5.more B3.size⟩, B3.trans (b5.mono B3.size)⟩
#print axioms Jl.refLook_any
end Go.Proofs.YtifkhjihgnnpfaaGreatDoor
/- Two disks side by side; rows that stay. Conditions: each theorem's own hypotheses. -/
namespace Go.Proofs.YtifkhjihgnnpfaaGreatDoor
open Go.RowKit
set_option linter.unusedVariables false

/-- The program's disk and the document's, made since. -/
def Jl.Bi (B : Nat) (W0 w : World) (d : Nat) (m : Dk.M) (r : Nat) (m' : Dk.M) : Prop := ∃ G, Dr.At w r m' G ∧ Jl.Sit B W0 w d m G ∧ Dk.Good m'
section
variable {B d r : Nat} {W0 w w' : World} {m m' m2 : Dk.M}
theorem Jl.Bi.good1 (h : Jl.Bi B W0 w d m r m') : Dk.Good m := by obtain ⟨G, h1, h2, h3⟩ := h; exact h2.good
theorem Jl.Bi.good2 (h : Jl.Bi B W0 w d m r m') : Dk.Good m' := by obtain ⟨G, h1, h2, h3⟩ := h; exact h3
theorem Jl.Bi.below (h : Jl.Bi B W0 w d m r m') : Below B W0 w := by obtain ⟨G, h1, h2, h3⟩ := h; exact h2.below
theorem Jl.Bi.size (h : Jl.Bi B W0 w d m r m') : B ≤ w.heap.size := by obtain ⟨G, h1, h2, h3⟩ := h; exact h2.size
theorem Jl.Bi.later (h : Jl.Bi B W0 w d m r m') (hB : Below w.heap.size w w') : Jl.Bi B W0 w' d m r m' := by
  obtain ⟨G, h1, h2, h3⟩ := h
  exact ⟨G, h1.later hB (Nat.le_refl _), h2.later hB, h3⟩
theorem Jl.Bi.call1 (h : Jl.Bi B W0 w d m r m') {g : FuncId} {args : Array Value} {e : Ending} (hG : Dk.Good m2)
    (f : ∀ F, Dk.At w d m F → Dk.Good m → Calls Tryz.prog g args w fun x W' => x = e ∧ Dk.Moved w W' d F m2) : Calls Tryz.prog g args w fun x W' => x = e ∧ Jl.Bi B W0 W' d m2 r m' := by
  obtain ⟨G, h1, h2, h3⟩ := h
  exact (h2.call hG f).mono fun x W' ⟨a, b, c⟩ => ⟨a, G, h1.keep c.2, b, h3⟩
theorem Jl.Bi.call2 (h : Jl.Bi B W0 w d m r m') {g : FuncId} {args : Array Value} {e : Ending} (hG : Dk.Good m2)
    (f : ∀ F, Dr.At w r m' F → Dk.Good m' → Calls Tryz.prog g args w fun x W' => x = e ∧ Dr.Moved w W' r F m2) : Calls Tryz.prog g args w fun x W' => x = e ∧ Jl.Bi B W0 W' d m r m2 := by
  obtain ⟨G, h1, h2, h3⟩ := h
  refine (f G h1 h3).mono fun x W' ⟨a, hm⟩ => ⟨a, ?_⟩
  obtain ⟨G', q1, q2, q3⟩ := hm
  refine ⟨G', q1, (h2.only q2 fun k hk => hk).sub fun k hk => ?_, hG⟩
  rcases q3 k hk with x | x
  · exact .inl x
  · exact .inr ⟨x, q1.lt hk⟩
theorem Jl.Bi.ask1 (h : Jl.Bi B W0 w d m r m') {g : FuncId} {args : Array Value} {R : Ending → World → Prop} (f : ∀ F, Dk.At w d m F → Dk.Good m → Calls Tryz.prog g args w R) : Calls Tryz.prog g args w R := by
  obtain ⟨G, h1, h2, h3⟩ := h
  exact h2.ask f
theorem Jl.Bi.ask2 (h : Jl.Bi B W0 w d m r m') {g : FuncId} {args : Array Value} {R : Ending → World → Prop} (f : ∀ F, Dr.At w r m' F → Dk.Good m' → Calls Tryz.prog g args w R) : Calls Tryz.prog g args w R := by
  obtain ⟨G, h1, h2, h3⟩ := h
  exact f G h1 h3
end
/-- Rows beside one that is written over: their blocks lie from S on, below T. -/
def Jl.Cu (Ws : World) (S T : Nat) (L : List (Value × List Jn.Upd)) (X : World) : Prop :=
  Below Ws.heap.size Ws X ∧ Ws.heap.size ≤ S ∧ S ≤ T ∧ T ≤ X.heap.size ∧ ∀ p ∈ L, Jl.Own X S p.1 p.2 ∧ ∀ k, p.1.ownBlock = some k → k < T
section
variable {Ws X X' : World} {S T : Nat} {L : List (Value × List Jn.Upd)}
theorem Jl.Cu.start (h : Below Ws.heap.size Ws X) : Jl.Cu Ws X.heap.size X.heap.size [] X := ⟨h, h.size, Nat.le_refl _, Nat.le_refl _, fun p hp => by cases hp⟩
theorem Jl.Cu.turn (h : Jl.Cu Ws S T L X) (ho : Dk.Only (fun k => (Ws.heap.size ≤ k ∧ k < S) ∨ T ≤ k) X X') : Jl.Cu Ws S T L X' := by
  obtain ⟨h1, h2, h3, h4, h5⟩ := h
  refine ⟨h1.trans (ho.below (by omega) fun k hk => by omega), h2, h3, Nat.le_trans h4 ho.size, fun p hp => ?_⟩
  obtain ⟨a, b⟩ := h5 p hp
  exact ⟨a.keep fun k hk => ho.block k (a.lt hk).2 (by have := a.lt hk; have := b k hk; omega), b⟩
theorem Jl.Cu.later (h : Jl.Cu Ws S T L X) (hB : Below X.heap.size X X') : Jl.Cu Ws S T L X' := h.turn (Dk.Only.of hB)
theorem Jl.Cu.add (h : Jl.Cu Ws S T L X) (hB : Below X.heap.size X X') {v : Value} {us : List Jn.Upd} (hv : Jl.Own X' X.heap.size v us) : Jl.Cu Ws S X'.heap.size (L ++ [(v, us)]) X' := by
  obtain ⟨h1, h2, h3, h4, h5⟩ := h.later hB
  have hz := h.2.2.2.1
  have hz2 := hB.size
  refine ⟨h1, h2, by omega, Nat.le_refl _, fun p hp => ?_⟩
  rcases List.mem_append.1 hp with hp | hp
  · obtain ⟨a, b⟩ := h5 p hp
    exact ⟨a, fun k hk => (a.lt hk).2⟩
  · obtain rfl := List.mem_singleton.1 hp
    exact ⟨hv.more (by omega), fun k hk => (hv.lt hk).2⟩
theorem Jl.Cu.raise (h : Jl.Cu Ws S T L X) : Jl.Cu Ws S X.heap.size L X := by
  obtain ⟨h1, h2, h3, h4, h5⟩ := h
  exact ⟨h1, h2, by omega, Nat.le_refl _, fun p hp => ⟨(h5 p hp).1, fun k hk => ((h5 p hp).1.lt hk).2⟩⟩
theorem Jl.Cu.below (h : Jl.Cu Ws S T L X) : Below Ws.heap.size Ws X := h.1
theorem Jl.Cu.lie (h : Jl.Cu Ws S T L X) {A : Option Addr} {n c : Nat} {us : List Jn.Upd} (hp : (Value.slice A n c, us) ∈ L) : Jl.Lie X A us := (h.2.2.2.2 _ hp).1.lie
theorem Jl.Cu.same {A A' : Option Addr} {c c' : Nat} {us : List Jn.Upd} (h : Jl.Cu Ws S T L X) (hl : us.length ≤ 4398046511104) (h1 : (Value.slice A us.length c, us) ∈ L) (h2 : (Value.slice A' us.length c', us) ∈ L) :
    Calls Tryz.prog 27 #[.slice A us.length c, .slice A' us.length c'] X fun e w' => e = .returned (.bool true) ∧ Jl.Cu Ws S T L w' ∧ Below X.heap.size X w' :=
  (Jl.same_true A A' c c' us X (h.lie h1) (h.lie h2) hl).mono fun e w' ⟨a, b⟩ => ⟨a, h.later b, b⟩
end
/-- A row whose values nobody asks for. -/
def Jl.Any (X : World) (B : Nat) (v : Value) (n : Nat) : Prop := ∃ xs, X.ownsRow B 33 4 v n xs
theorem Jl.Any.form {X : World} {B : Nat} {v : Value} {n : Nat} (h : Jl.Any X B v n) (hn : 0 < n) : ∃ g cap cur, v = .slice (some ⟨g, 0, none⟩) n cap ∧ B ≤ g ∧ Blk X g 33 cur ∧ n ≤ cap ∧ cap ≤ maxLen ∧ cur.size = cap * 4 := by
  obtain ⟨xs, h1, h2⟩ := h
  rcases h2 with ⟨rfl, h0⟩ | ⟨g, cap, cur, rfl, hb, hg, hc, hm, hs, _⟩
  · omega
  · exact ⟨g, cap, cur, rfl, hb, hg, hc, hm, hs⟩
theorem Jl.Any.of {X : World} {B g n cap : Nat} {cur : Array Value} (hb : B ≤ g) (hg : Blk X g 33 cur) (hc : n ≤ cap) (hm : cap ≤ maxLen) (hs : cur.size = cap * 4) : Jl.Any X B (.slice (some ⟨g, 0, none⟩) n cap) n :=
  ⟨cur.toList.take (n * 4), by rw [List.length_take, Array.length_toList, hs]; omega, .inr ⟨g, cap, cur, rfl, hb, hg, hc, hm, hs, rfl⟩⟩
theorem Jl.Any.keep {X X' : World} {B n : Nat} {v : Value} (h : Jl.Any X B v n) (hk : ∀ k, v.ownBlock = some k → X'.heap[k]? = X.heap[k]?) : Jl.Any X' B v n := by
  obtain ⟨xs, h1, h2⟩ := h
  refine ⟨xs, h1, ?_⟩
  rcases h2 with h2 | ⟨g, cap, cur, rfl, hb, hg, hr⟩
  · exact .inl h2
  · exact .inr ⟨g, cap, cur, rfl, hb, (hk g rfl).trans hg, hr⟩
end Go.Proofs.YtifkhjihgnnpfaaGreatDoor
