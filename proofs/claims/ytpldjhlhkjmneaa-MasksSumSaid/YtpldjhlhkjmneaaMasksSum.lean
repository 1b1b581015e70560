/- The law MasksSum returns true: counts are Pascal's triangle, all shells are all masks, sums add up and are cut off. Conditions: none. -/
import Derived.Test.YtpldjhlhkjmneaaRows
import Derived.WalkKit
import Derived.ProofKit
import Derived.OpenShut
import Derived.Test.YtpldjhlhkjmneaaMasksC
namespace Go.Proofs.Ytpldjhlhkjmneaa.masksSum
open Go.ChangeShapes Go.WideShapes Go.ChangeAt Go.RowKit
set_option linter.unusedVariables false      -- a walk need not use every 'w<i>' (that an integer argument fits its kind)

theorem own : ownKnob Try.prog.godebug = none := by kernel_rfl

set_option maxRecDepth 100000 in
set_option maxHeartbeats 1000000 in
/-- The walk: the Go text returns true; the world has at most new blocks. -/
theorem walk (a0 : Int) (a1 : Int) (a2 : Int) (w0 : (Lit.int .i64 a0).wf = true) (w1 : (Lit.int .i64 a1).wf = true) (w2 : (Lit.int .i64 a2).wf = true) (w : World) :
    Calls Try.prog 9 #[.int .i64 a0, .int .i64 a1, .int .i64 a2] w fun e w' => e = .returned (.bool true) ∧ Below w.heap.size w w' := by
  go_enter Try.func9, Try.ntmps9
  go_wp2_with fail
  refine (pick_any _ _ _ (by omega) (by omega)).mono ?_
  rintro e w1 ⟨⟨p, rfl, hp0, hp1⟩, rfl⟩
  go_wp2_with fail
  obtain ⟨n, hn⟩ : ∃ n : Int, 1 + p = n := ⟨_, rfl⟩
  rw [hn]
  obtain ⟨hn1, hn2⟩ : 1 ≤ n ∧ n ≤ 64 := by omega
  clear hn hp0 hp1
  refine (pick_any _ _ _ (by omega) (by omega)).mono ?_
  rintro e w1 ⟨⟨s, rfl, hs0, hs1⟩, rfl⟩
  have hs2 : s ≤ n := by omega
  clear hs1
  go_wp2_with fail
  refine (count_ok _ _ _ (by omega) (by omega)).mono ?_
  rintro e w1 ⟨rfl, hB1⟩
  go_wp2_with fail
  refine (count_ok _ _ _ (by omega) (by omega)).mono ?_
  rintro e w2 ⟨rfl, hB2⟩
  go_wp2_with fail
  refine (count_ok _ _ _ (by omega) (by omega)).mono ?_
  rintro e w3 ⟨rfl, hB3⟩
  go_wp2_with fail
  refine (count_ok _ _ _ (by omega) (by omega)).mono ?_
  rintro e w4 ⟨rfl, hB4⟩
  have c1 := hB1.trans (hB2.mono hB1.size)
  have c2 := c1.trans (hB3.mono c1.size)
  have c3 := c2.trans (hB4.mono c2.size)
  clear hB1 hB2 hB3 hB4 c1 c2
  have p1 := Cz_pascal n s (by omega)
  have p2 := Cz_mirror n s hs0 hs2
  have p3 := Cz_pos n s hs0 hs2
  have q1 := Cz_hi n s hn2
  have q2 := Cz_lo (n - 1) s
  have q3 := Cz_lo (n - 1) (s - 1)
  rw [p2]
  obtain ⟨x, hx⟩ : ∃ x : Int, Cz (n - 1) s = x := ⟨_, rfl⟩
  obtain ⟨y, hy⟩ : ∃ y : Int, Cz (n - 1) (s - 1) = y := ⟨_, rfl⟩
  rw [hx, hy] at p1
  rw [p1, hx, hy]
  rw [p1] at p3 q1
  rw [hx] at q2
  rw [hy] at q3
  have Hz := Lib.hid p1
  clear p2 hx hy p1
  go_wp2_with (go_at_call 16; refine (num_any _ _).mono ?_; rintro e w' ⟨rfl, rfl⟩)
  refine (upto_ok _ _ _ _ (by omega) (by omega) (by omega) (by omega)).mono ?_
  rintro e w5 ⟨rfl, hB5⟩
  go_wp2_with fail
  refine (upto_ok _ _ _ _ (by omega) (by omega) (by omega) (by omega)).mono ?_
  rintro e w6 ⟨rfl, hB6⟩
  go_wp2_with fail
  refine (upto_ok _ _ _ _ (by omega) (by omega) (by omega) (by omega)).mono ?_
  rintro e w7 ⟨rfl, hB7⟩
  go_wp2_with fail
  refine (pick_any _ _ _ (by omega) (by omega)).mono ?_
  rintro e w8 ⟨⟨t, rfl, ht0, ht1⟩, rfl⟩
  go_wp2_with fail
  refine (upto_ok _ _ _ _ (by omega) (by omega) (by omega) (by omega)).mono ?_
  rintro e w8 ⟨rfl, hB8⟩
  have c4 := c3.trans (hB5.mono c3.size)
  have c5 := c4.trans (hB6.mono c4.size)
  have c6 := c5.trans (hB7.mono c5.size)
  have c7 := c6.trans (hB8.mono c6.size)
  clear hB5 hB6 hB7 hB8 c3 c4 c5 c6
  have m1 := Uz_min n s t (by omega)
  have m2 := Uz_lo n s 4611686018427387904 (by omega)
  have m3 := Uz_hi n s 4611686018427387904
  have m4 := Uz_mono n s 4611686018427387904
  have m5 := Uz_lo n (s - 1) 4611686018427387904 (by omega)
  have m6 : 62 ≤ n → Uz n n 4611686018427387904 = 4611686018427387904 := Uz_great n
  have m7 : n ≤ 61 → Uz n n 4611686018427387904 = ((2 ^ n.toNat : Nat) : Int) := Uz_small n (by omega)
  have m8 : n ≤ 61 → Uz n s 4611686018427387904 = Uz n (s - 1) 4611686018427387904 + (x + y) := by
    intro h; have := Uz_step n s (by omega) h hs0 hs2; have := Hz.out; omega
  obtain ⟨k, hk⟩ : ∃ k : Int, Uz n n 4611686018427387904 = k := ⟨_, rfl⟩
  obtain ⟨l, hl⟩ : ∃ l : Int, Uz n s 4611686018427387904 = l := ⟨_, rfl⟩
  obtain ⟨o, ho⟩ : ∃ o : Int, Uz n (s - 1) 4611686018427387904 = o := ⟨_, rfl⟩
  obtain ⟨q, hq⟩ : ∃ q : Int, Uz n s t = q := ⟨_, rfl⟩
  rw [hk, hl, ho, hq]
  simp only [hk, hl, ho, hq] at m1 m2 m3 m4 m5 m6 m7 m8
  clear hk hl ho hq Hz
  by_cases hlt : l ≤ t
  · obtain rfl : l = q := by omega
    clear m1
    by_cases hn : 62 ≤ n
    · obtain rfl := m6 hn
      clear m6 m7 m8
      go_wp2_with (go_at_call 16; refine (num_any _ _).mono ?_; rintro e w' ⟨rfl, rfl⟩)
      go_ret
      exact ⟨rfl, c7⟩
    · obtain rfl := m8 (by omega)
      have M7 := Lib.hid (pow_k k n (m7 (by omega)) (by omega))
      clear m6 m7 m8
      go_wp2_with (go_at_call 16; refine (num_any _ _).mono ?_; rintro e w' ⟨rfl, rfl⟩)
      go_ret
      exact ⟨rfl, c7⟩
  · obtain rfl : t = q := by omega
    clear m1
    by_cases hn : 62 ≤ n
    · obtain rfl := m6 hn
      clear m6 m7 m8
      go_wp2_with (go_at_call 16; refine (num_any _ _).mono ?_; rintro e w' ⟨rfl, rfl⟩)
      go_ret
      exact ⟨rfl, c7⟩
    · obtain rfl := m8 (by omega)
      have M7 := Lib.hid (pow_k k n (m7 (by omega)) (by omega))
      clear m6 m7 m8
      go_wp2_with (go_at_call 16; refine (num_any _ _).mono ?_; rintro e w' ⟨rfl, rfl⟩)
      go_ret
      exact ⟨rfl, c7⟩

set_option maxRecDepth 100000 in
theorem lifted (os : Os) (started : os.Started) (H : Type) (enc : TypeId × Value → H) :
    ReturnsInHanded {} Try.checked os 9 .any (Rows.masksSumSpec.pre6 enc Try.prog Try.f9 Rows.masksSumRow.domain false) (Rows.masksSumSpec.post enc Try.prog Try.f9 false true false false) := by
  refine returnsInHanded_of_change (C := Try.checked) own started (by kernel_rfl) Try.func9
    (ChangeSpec.witness6 (enc := enc) (C := Try.checked) false ⟨#[], #[.int .i64 0, .int .i64 0, .int .i64 0], []⟩ 8 (by kernel_rfl) (by kernel_rfl) (by kernel_rfl) (by kernel_rfl)) ?_
  intro W base args ds gs before hval0 hW hcnd _
  have hval : ∀ (j : Nat) t v, Try.f9.params[j]? = some t → args[j]? = some v → Value.okWide Try.prog W .any base t v := hval0
  have hW' := hW
  obtain ⟨p, q, hA0, hV, rfl, hfz, hnd⟩ := hW
  have hA : DataW.TrodAll enc Try.prog W 0 (fun _ => true) true Try.f9.params.toList args.toList ds p := hA0
  rw [Try.params9] at hA hval
  obtain ⟨v0, vs0, d0, ds0, p0, q0, hargs, rfl, rfl, h0, r0⟩ := trodAll_cons hA
  obtain ⟨v1, vs1, d1, ds1, p1, q1, rfl, rfl, rfl, h1, r1⟩ := trodAll_cons r0
  obtain ⟨v2, vs2, d2, ds2, p2, q2, rfl, rfl, rfl, h2, r2⟩ := trodAll_cons r1
  obtain ⟨rfl, rfl, rfl⟩ := trodAll_nil r2
  obtain rfl : args = #[v0, v1, v2] := by cases args; simp_all
  obtain ⟨rfl, rfl⟩ := trodVars_none hV
  obtain ⟨a0, rfl, rfl, rfl, w0⟩ := open_int Try.underlying3 (hval 0 3 v0 rfl rfl) h0
  obtain ⟨a1, rfl, rfl, rfl, w1⟩ := open_int Try.underlying3 (hval 1 3 v1 rfl rfl) h1
  obtain ⟨a2, rfl, rfl, rfl, w2⟩ := open_int Try.underlying3 (hval 2 3 v2 rfl rfl) h2
  clear hA0 hval0
  simp only [List.append_nil] at hW'
  refine (walk a0 a1 a2 w0 w1 w2 W).mono fun e W' ⟨he, hg⟩ => ?_
  subst he
  exact ⟨_, rfl, _, _, _, [], [], [], hW', (trodAll_cons_mk (shut_bool Try.underlying4 _) trodAll_mk0), (trodAll_cons_mk (shut_int Try.underlying3 w0) (trodAll_cons_mk (shut_int Try.underlying3 w1) (trodAll_cons_mk (shut_int Try.underlying3 w2) trodAll_mk0))), rfl, hg.frame _, fun h => by cases h⟩

theorem over : Rows.masksSumRow.holds Try.pinned (OpenSpec.ofChange Rows.masksSumSpec) :=
  OpenClaim.holds_of_wide 9 Try.f9 rfl rfl rfl rfl rfl rfl rfl ⟨rfl, rfl, rfl, rfl, rfl⟩ rfl rfl rfl rfl rfl (by kernel_rfl) Try.func9 (by kernel_rfl)
    (of_decide_eq_true (by kernel_rfl)) (by unfold Func.isWrapper; first | (rw [if_pos (by decide +kernel)]; kernel_rfl) | (rw [if_neg (by decide +kernel)]; exact ⟨rfl, rfl⟩))
    (fun os started H enc _ => lifted os started H enc)

/-- The statement. -/
theorem proved : Rows.MasksSumSaid :=
  over
#print axioms proved
end Go.Proofs.Ytpldjhlhkjmneaa.masksSum
