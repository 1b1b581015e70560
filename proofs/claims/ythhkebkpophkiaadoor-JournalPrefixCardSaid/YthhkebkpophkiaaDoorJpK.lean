/- The law JournalPrefix: its walk. Conditions: each theorem's own hypotheses. -/
import Derived.Deep.RegionHeld3
import Derived.Deep.DeepCutAuto
import Derived.Test.YthhkebkpophkiaaDoorJpH
namespace Go.Proofs.YthhkebkpophkiaaDoor
open Go.RowKit
set_option linter.unusedVariables false

theorem Jl.pick_p (k : Int) (n : Nat) (hn : 0 < n) : ∃ r : Nat, k % (n : Int) = (r : Int) ∧ r < n := by
  have h1 := Int.emod_nonneg k (show (n : Int) ≠ 0 by omega)
  have h2 := Int.emod_lt_of_pos k (show (0 : Int) < (n : Int) by omega)
  exact ⟨(k % (n : Int)).toNat, by omega, by omega⟩
theorem Jl.num_any' (e : Int) (w : World) : Calls Tryd.prog 16 #[.int .i64 e] w fun r w' => r = .returned (.int .i64 e) ∧ w' = w := (Jl.num_any e w).mono fun e w' ⟨a, b⟩ => ⟨a, b.symm⟩
set_option maxRecDepth 100000 in
set_option maxHeartbeats 20000000 in
theorem Jl.prefix_walk (seq : Int) (L : List Jl.Rn) (A : Option Addr) (cp : Nat) (W : World) (HL : (A = none ∧ cp = 0 ∧ L = []) ∨ ∃ p, A = some p ∧ ∀ j u, (Jl.rcells L)[j]? = some u → W.cell? (p.add j) = some u) (HI : ∀ r ∈ L, Jl.Ins W W.heap.size r.A r.l ∧ r.l.length ≤ 4611686018427387904 ∧ (∀ x ∈ r.l, x.c.size ≤ 4611686018427387904) ∧ -9223372036854775808 ≤ r.ct ∧ r.ct < 9223372036854775808)
    (hl : (1 + L.length) * 56 ≤ 140737488355328) (hT : TabS W) (hP : PowT W) :
    Calls Tryd.prog 5 #[.int .i64 seq, .slice A L.length cp] W fun e W' => e = .returned (.bool true) ∧ Below W.heap.size W W' := by
  have hTB : ∀ {w : World}, Below W.heap.size W w → TabS w := fun hB => hT.below hB
  have hPB : ∀ {w : World}, Below W.heap.size W w → PowT w := fun hB => hP.below hB
  have kn := fun (n : Int) w => Jl.num_any' n w
  have k0 := Jl.new_sit (B := W.heap.size) (W0 := W) (n := 16777216) (by decide) (Below.refl _ W) (Nat.le_refl _)
  obtain ⟨n, hn, hnl⟩ := Jl.pick_p seq 1152921504606845976 (by decide)
  have kpk : ∀ w, Calls Tryd.prog 17 #[.int .i64 seq, .int .i64 1152921504606845976] w fun e w' => e = .returned (.int .i64 (n : Int)) ∧ w' = w := fun w => by
    have := pick_any seq 1152921504606845976 w (by decide) (by decide)
    rw [show ((1152921504606845976 : Int)) = ((1152921504606845976 : Nat) : Int) from rfl, hn] at this
    exact this.mono fun e w' ⟨a, b⟩ => ⟨a, b.symm⟩
  have hcr : Jl.createR (Dk.fresh 16777216) 9 (n : Int) 64 = (Jl.dm [106, 57] [] 1, 0) := by
    unfold Jl.createR
    rw [if_pos (Jl.goesE_nine (by omega)), Jn.name_nine, Jl.dm_create _ Jl.j9_named]
  have kcr := fun {w : World} {d : Nat} {K : Nat → Prop} (S : Jl.Sit W.heap.size W w d (Dk.fresh 16777216) K) => Jl.create_ok S hPB 9 n 64 Jl.j9 (by rw [Jn.name_nine]; rfl) hcr
  have hok0 : Jl.Ok n (Jl.dm [106, 57] [] 1) ⟨0, false, Jl.j9, 64, n, n⟩ [] 0 := ⟨⟨fun j u hj => by simp at hj, Nat.le_refl _, rfl, rfl⟩, rfl, by simp [Jl.dm]⟩
  have HH := Lib.hid (And.intro HI (And.intro hT (And.intro hP (And.intro hn (And.intro hcr hok0)))))
  clear HI hT hP hn hcr hok0
  go_enter Tryd.func5, Tryd.ntmps5
  go_upto_region 8 with (first
    | (go_at_call 6; refine k0.mono ?_; clear k0; rintro e w1 ⟨d, rfl, S1⟩; have kc := kcr S1; clear kcr)
    | (go_at_call 17; refine (kpk _).mono ?_; clear kpk; rintro e w1 ⟨rfl, rfl⟩)
    | (go_at_call 26; refine kc.mono ?_; clear kc; rintro e w2 ⟨j, rfl, hj, S2, K2⟩)
    | (go_at_call 16; refine (kn _ _).mono ?_; rintro e w2 ⟨rfl, rfl⟩))
  have hz2 := S2.sit.size
  have hrow0 : (Jl.lit2 w2).ownsRow W.heap.size 61 5 (.slice (some ⟨w2.heap.size + 1, 0, none⟩) 1 1) 1 (Jl.rcells [Jl.r0 w2.heap.size]) := by
    have := Jl.fresh_row (w2.alloc (.cells #[.int .i64 0, .int .i64 0, .int .i64 0, .string ⟨#[]⟩] 39)) W.heap.size (by rw [World.size_alloc]; omega) (Jl.r0 w2.heap.size)
    rw [World.size_alloc] at this
    exact this
  have hA2 := Jl.lit2_below w2
  have hHL : (A = none ∧ cp = 0 ∧ L = []) ∨ ∃ p, A = some p ∧ ∀ j u, (Jl.rcells L)[j]? = some u → (Jl.lit2 w2).cell? (p.add j) = some u := by
    rcases HL with h | ⟨p, e, h⟩
    · exact .inl h
    · refine .inr ⟨p, e, fun j u hj => ?_⟩
      have hb := World.block_lt_of_cell? W _ (h j u hj)
      exact ((S2.sit.below.trans (hA2.mono hz2)).cell hb).trans (h j u hj)
  have hsz : W.heap.size ≤ (Jl.lit2 w2).heap.size := by rw [Jl.lit2_size]; omega
  go_upto_region 9 with (at_builtin; refine Jl.wpList_more rfl (.tmp 48) (.tmp 49) rfl rfl (w2.heap.size + 1) (Jl.r0 w2.heap.size) W.heap.size (by simp [Act.eval]) hrow0 hsz A cp L (by simp [Act.eval]) hHL hl ?_; intro vl w9 hrow hgr hat)
  obtain ⟨LL, K0, gl, cl, rfl, hKg, hR9, hLL1, hLLl, hLL0, R0, HF⟩ := Jl.PR.start S2 HH.out.2.2.2.2.2 rfl hrow hgr hat HH.out.1 rfl
  clear hrow hgr hat hrow0 hHL hsz hA2 S1 S2 K2 hj hz2 HL HH w1
  go_upto_region 10 with fail
  go_wp2_with fail
  go_loopw [7, 10, 11] (fun vj vh vi wr => ∃ k j us m J, k ≤ 8 ∧ vi = .int .i64 (k : Nat) ∧ vj = .pointer (some ⟨j, 0, none⟩) ∧ Jl.PR W.heap.size W w9 d n K0 k j vh us m J wr) (fun _ _ i _ => 8 - (intOf i).toNat)
  case atStart => exact ⟨0, _, _, _, _, Nat.zero_le _, rfl, rfl, R0⟩
  case round =>
    clear R0
    obtain ⟨k, j1, us, m1, J1, hk, rfl, rfl, R⟩ := hrel
    obtain ⟨A1, c1, rfl⟩ := R.had.form
    by_cases hlt : k < LL.length
    · by_cases hk8 : k < 8
      · have u1 : decide (k < LL.length) = true := decide_eq_true hlt
        have u2 : decide ((k : Int) < 8) = true := decide_eq_true (by omega)
        have wk1 : IntKind.i64.wrap ((k : Int) + 1) = ((k + 1 : Nat) : Int) := by rw [IntWalk.i64_in _ (by omega)]; omega
        obtain ⟨r, hr⟩ : ∃ r, LL[k]? = some r := ⟨_, List.getElem?_eq_getElem hlt⟩
        obtain ⟨e0, e1, e2, e3, e4⟩ := (hR9.kept (R.kept.2 gl hKg)).five hr
        obtain ⟨f1, f2, f3, f4, f5⟩ := HF r (List.mem_of_getElem? hr)
        simp only [Nat.zero_add, Nat.add_zero] at e0 e1 e2 e3 e4
        have hlen := R.len
        have hrow := R.row
        have klv := Jl.lives_any R.st hTB R.ok (Nat.le_of_lt hnl) (by omega) R.had (fun q e => ⟨.inr (.inr e), R.sep q e⟩) r.A r.l r.cp f2 f3 (fun {w'} hB' hKB => f1 hB' (R.kept.trans2 ⟨hKB.1, fun q hq => hKB.2 q (.inl hq) (hrow q hq)⟩)) r.sy r.ct r.ke ⟨f4, f5⟩ r.sp.toNat
        have hst := Lib.hid R.st
        have hj1 : 0 ≤ (k : Int) := by omega
        have hj2 : (k : Int) < (LL.length : Int) := by omega
        have HK := Lib.hid (And.intro hk (And.intro hk8 (And.intro hlt (And.intro hlen (And.intro hLLl (And.intro hl hnl))))))
        clear f1 f2 f3 f4 f5 hk hk8 hlt hlen hLLl hl hnl
        go_upto_region 16 with (go_at_call 27; refine klv.mono ?_; clear klv; rintro e w2 ⟨va, vs, us', s', m', J', rfl, E⟩)
        obtain ⟨A2, c2, rfl⟩ := E.all.form
        obtain ⟨sl, hsl⟩ : ∃ sl, us'.take s' = sl := ⟨_, rfl⟩
        obtain ⟨A3, c3, hvs⟩ := E.sure.form
        rw [hsl] at hvs
        subst hvs
        have HSL := Lib.hid hsl
        clear hsl
        have hR2 : Jl.Kept K0 w9 w2 := R.kept.trans2 ⟨E.kept.1, fun q hq => E.kept.2 q (.inl hq) (hrow q hq)⟩
        obtain ⟨_, _, _, g3, g4⟩ := (hR9.kept (hR2.2 gl hKg)).five hr
        simp only [Nat.zero_add] at g3 g4
        have kcs := fun {X : World} (t : TypeId) (hb : Below w2.heap.size w2 X) => (E.st.later ((hb.alloc hb.size (.cells #[.string Jl.j9, .int .i64 r.ke, .int .u8 r.sp.toNat] t)).drew)).crash (show Dk.Cts (X.alloc (.cells #[.string Jl.j9, .int .i64 r.ke, .int .u8 r.sp.toNat] t)).drew _ _ from Jl.cut1 X Jl.j9 r.ke r.sp t) (Nat.le_trans (Nat.le_refl 1) (by decide)) (fun c hc => by obtain rfl := List.mem_singleton.1 hc; exact (by decide : Jl.j9.data.toList.length ≤ 9223372036854775807))
        obtain ⟨i, junk, hsi, hiu, haft, _⟩ := E.live.crash [⟨Jl.j9.data.toList, r.ke, r.sp⟩]
        have hage : (Dk.crash m' [⟨Jl.j9.data.toList, r.ke, r.sp⟩]).age ≠ J'.age := by rw [E.age]; exact Jl.age_next _
        generalize Dk.crash m' [⟨Jl.j9.data.toList, r.ke, r.sp⟩] = m3 at kcs haft hage
        have HE := Lib.hid (And.intro hsi hiu)
        have hS2 : w2.cell? ⟨gl, k * 5 + 3, none⟩ = some (.int .i64 r.ke) ∧ w2.cell? ⟨gl, k * 5 + 4, none⟩ = some (.int .u8 r.sp.toNat) := ⟨g3, g4⟩
        have hcr : ∀ {X : World}, Jl.KeptB (fun q => Jl.KJ K0 j1 (.slice A1 us.length c1) q ∨ (Value.slice A2 us'.length c2).ownBlock = some q ∨ (Value.slice A3 sl.length c3).ownBlock = some q) j1 ((w2.alloc (.cells #[.string Jl.j9, .int .i64 r.ke, .int .u8 r.sp.toNat] 66)).drew) X → X.cell? ⟨gl, k * 5 + 3, none⟩ = some (.int .i64 r.ke) ∧ X.cell? ⟨gl, k * 5 + 4, none⟩ = some (.int .u8 r.sp.toNat) := fun hX => by
          have e := (hX.2 gl (.inl (.inl hKg)) (hrow gl hKg)).trans (((Below.refl _ _).alloc (Nat.le_refl _) (.cells #[.string Jl.j9, .int .i64 r.ke, .int .u8 r.sp.toNat] 66)).block gl (E.st.sit.lt (.inl (.inl hKg))).2)
          exact ⟨(World.cell?_of_block e).trans g3, (World.cell?_of_block e).trans g4⟩
        clear hsi hiu e0 e1 e2 e3 e4
        go_cut [76] (fun p X => p = .pointer (some ⟨d, 0, none⟩) ∧ Jl.St W.heap.size W X d m3 j1 J' (fun q => Jl.KJ K0 j1 (.slice A1 us.length c1) q ∨ (Value.slice A2 us'.length c2).ownBlock = some q ∨ (Value.slice A3 sl.length c3).ownBlock = some q) ∧ Jl.KeptB (fun q => Jl.KJ K0 j1 (.slice A1 us.length c1) q ∨ (Value.slice A2 us'.length c2).ownBlock = some q ∨ (Value.slice A3 sl.length c3).ownBlock = some q) j1 w2 X)
        case first =>
          go_region_held3 (fun W' => W'.cell? ⟨gl, k * 5 + 3, none⟩ = some (.int .i64 r.ke) ∧ W'.cell? ⟨gl, k * 5 + 4, none⟩ = some (.int .u8 r.sp.toNat))
            (first
              | with_reducible assumption
              | with_reducible exact Jl.two_alloc _ (by with_reducible assumption)
              | with_reducible exact Jl.two_drew (Jl.two_alloc _ (by with_reducible assumption))
              | with_reducible exact Jl.two_drew (by with_reducible assumption))
            (first
              | (go_at_call 28; refine (kcs _ (Below.refl _ _)).mono ?_; rintro e w3 ⟨rfl, S3, K3⟩; have hS3 := hcr K3))
          all_goals
            go_wp2_with fail
            go_meet
            exact ⟨rfl, S3, (Jl.KeptB.of E.st.sit (((Below.refl _ _).alloc (Nat.le_refl _) _).drew)).trans K3⟩
        case rest =>
          obtain ⟨rfl, S3, K3⟩ := hcut
          rename_i w3
          obtain ⟨q, hq⟩ : ∃ q, n + us'.length + 1 = q := ⟨_, rfl⟩
          obtain ⟨p, hp⟩ : ∃ p, n + us'.length = p := ⟨_, rfl⟩
          obtain ⟨hk, hk8, hlt, hlen, hLLl, hl, hnl⟩ := HK.out
          obtain ⟨hsi, hiu⟩ := HE.out
          have hul := E.len
          have wp1 : IntKind.i64.wrap ((n : Int) + (us'.length : Int)) = (p : Int) := by rw [IntWalk.i64_in _ (by omega)]; omega
          have wp2 : IntKind.i64.wrap ((p : Int) + 1) = (q : Int) := by rw [IntWalk.i64_in _ (by omega)]; omega
          obtain ⟨gt, hgt⟩ : ∃ gt, us'.take i = gt := ⟨_, rfl⟩
          rw [hgt] at haft
          have hgl : gt.length = i := by rw [← hgt, List.length_take]; omega
          have hgs : gt.take s' = sl := by rw [← hgt, List.take_take, Nat.min_eq_left hsi]; exact HSL.out
          obtain ⟨m4, haft4, hage4, _, kop⟩ := Jl.open_aft haft (by omega)
          obtain ⟨m5, haft5, _, h54, kop5⟩ := Jl.open_aft haft4 (by omega)
          obtain rfl := h54 rfl
          obtain ⟨u, hu⟩ : ∃ u, Jl.gu ⟨0, 0, 0, ⟨#[]⟩⟩ q = u := ⟨_, rfl⟩
          obtain ⟨C, hC, _, _⟩ := str_of u.code
          have kg := fun w => Jl.goes_law ⟨0, 0, 0, ⟨#[]⟩⟩ q w (by decide) C (by rw [hu]; exact hC)
          simp only [hu] at kg
          unfold Jl.uv at kg
          obtain ⟨p2, hp2⟩ : ∃ p2, n + gt.length = p2 := ⟨_, rfl⟩
          have wp3 : IntKind.i64.wrap ((n : Int) + (gt.length : Int)) = (p2 : Int) := by rw [IntWalk.i64_in _ (by omega)]; omega
          have hpI : (n : Int) + (gt.length : Int) = (p2 : Int) := by omega
          have hW := R.st.sit.size
          have hj1w := R.st.blk.lt
          have hrk := R.kept
          have kcr := fun {w : World} {K : Nat → Prop} (S : Jl.St W.heap.size W w d m3 j1 J' K) => Jl.append_down S (.inr (.inr hage)) u.seq u.kind u.id C
          have HM := Lib.hid (And.intro hW (And.intro hj1w (And.intro hrk HSL.out)))
          have hcap6 : gt.length ≤ 4398046511104 := by omega
          have kb1 : ∀ {w : World} {A6 : Option Addr} {c6 j6 : Nat}, Jl.P6 W.heap.size W w9 d n K0 j6 (.slice A2 us'.length c2) (.slice A3 sl.length c3) (.slice A6 gt.length c6) us' sl gt m5 w → Calls Tryd.prog 30 #[.slice A3 sl.length c3, .slice A6 gt.length c6] w fun e w' => e = .returned (.bool true) ∧ Below w.heap.size w w' := fun {w A6 c6 j6} P => by
            have h1 := P.sure.lie
            rw [← hgs] at h1
            have := Jl.begins_true A3 A6 c3 c6 s' gt w (by omega) h1 P.got.lie P.got.cap hcap6
            rw [hgs] at this
            exact this
          have kb2 : ∀ {w : World} {A6 : Option Addr} {c6 j6 : Nat}, Jl.P6 W.heap.size W w9 d n K0 j6 (.slice A2 us'.length c2) (.slice A3 sl.length c3) (.slice A6 gt.length c6) us' sl gt m5 w → Calls Tryd.prog 30 #[.slice A6 gt.length c6, .slice A2 us'.length c2] w fun e w' => e = .returned (.bool true) ∧ Below w.heap.size w w' := fun {w A6 c6 j6} P => by
            have h1 := P.got.lie
            rw [← hgt] at h1
            have := Jl.begins_true A6 A2 c6 c2 i us' w hiu h1 P.all.lie P.all.cap (by omega)
            rw [hgt] at this
            exact this
          have kl : ∀ {w : World} {A6 : Option Addr} {c6 j6 : Nat}, Jl.P6 W.heap.size W w9 d n K0 j6 (.slice A2 us'.length c2) (.slice A3 sl.length c3) (.slice A6 gt.length c6) us' sl gt m5 w → Calls Tryd.prog 31 #[.pointer (some ⟨j6, 0, none⟩)] w fun e w' => e = .returned (.int .i64 (p2 : Nat)) ∧ w = w' := fun {w A6 c6 j6} P => (Jl.last_any P.st).mono fun e w' ⟨a, b⟩ => ⟨a.trans (by rw [← hpI]), b⟩
          have ky : ∀ {w : World} {A6 : Option Addr} {c6 j6 : Nat}, Jl.P6 W.heap.size W w9 d n K0 j6 (.slice A2 us'.length c2) (.slice A3 sl.length c3) (.slice A6 gt.length c6) us' sl gt m5 w → Calls Tryd.prog 32 #[.pointer (some ⟨j6, 0, none⟩)] w fun e w' => e = .returned (.int .i64 (n : Nat)) ∧ w = w' := fun {w A6 c6 j6} P => Jl.synced_any P.st
          obtain ⟨wv, hwv⟩ : ∃ z, m5.writes = z := ⟨_, rfl⟩
          have kw : ∀ {w : World} {K : Nat → Prop}, Jl.Sit W.heap.size W w d m5 K → Calls Tryd.prog 12 #[.pointer (some ⟨d, 0, none⟩)] w fun e w' => e = .returned (.int .i64 wv) ∧ w = w' := fun {w K} S => by
            rw [← hwv]
            exact S.ask fun F hA hG => Dk.writes_any hA
          obtain ⟨ib, hib⟩ : ∃ ib : ByteArray, ib.data.toList = Dk.image m5 := ⟨⟨(Dk.image m5).toArray⟩, rfl⟩
          have kim : ∀ {w : World} {K : Nat → Prop}, Jl.Sit W.heap.size W w d m5 K → Calls Tryd.prog 23 #[.pointer (some ⟨d, 0, none⟩)] w fun e w' => e = .returned (.string ib) ∧ Below w.heap.size w w' := fun {w K} S => Jl.sit_image S hib
          have ksm : ∀ {w : World} {A6 A7 : Option Addr} {c6 c7 : Nat}, Jl.Own w W.heap.size (.slice A7 gt.length c7) gt → Jl.Own w W.heap.size (.slice A6 gt.length c6) gt → Calls Tryd.prog 15 #[.slice A7 gt.length c7, .slice A6 gt.length c6] w fun e w' => e = .returned (.bool true) ∧ Below w.heap.size w w' := fun {w A6 A7 c6 c7} a b => Jl.same_true A7 A6 c7 c6 gt w a.lie b.lie hcap6
          have hlen2 : gt.length ≤ 60 * (k + 1) := by omega
          have hone2 : 1 ≤ gt.length := by
            have := E.lo
            rcases Nat.eq_zero_or_pos k with h0 | h0
            · subst h0
              obtain ⟨a, b, c⟩ := hLL0 r hr
              have := E.one (by omega) a (by omega)
              omega
            · have := R.one h0
              omega
          have hk9 : k + 1 ≤ 8 := hk8
          have HN := Lib.hid (And.intro hlen2 (And.intro hone2 (And.intro hk9 haft5)))
          have HR := Lib.hid (And.intro R E)
          clear hk hk8 hlt hlen hLLl hl hnl hul hgl hgs hgt hp2 hpI hsi hiu hq hp hu hC R E hage HK HE hW hj1w hrk hage4 HSL hS2 kcs hcr g3 g4 hcap6 hwv hib hlen2 hone2 hk9 haft5 haft4
          go_upto_region 19 with (first
            | (go_at_call 18; refine (kg _).mono ?_; clear kg; rintro e w4 ⟨rfl, b4⟩; have S4 := S3.later b4; have K4 := K3.trans (Jl.KeptB.of S3.sit b4); have kap := kcr S4; clear kcr)
            | (go_at_call 29; refine kap.mono ?_; clear kap; rintro e w5 ⟨rfl, S5, K5⟩; have K45 := K4.trans K5; have ko := kop S5.sit hTB hPB; clear kop)
            | (go_at_call 24; refine ko.mono ?_; clear ko; rintro e w6 ⟨j6, v6, rfl, hO6, S6, K6⟩; have P6 := Jl.P6.of HR.out.2 HM.out.1 HM.out.2.1 hrow HM.out.2.2.1 HM.out.2.2.2 K45 S5 hO6 S6 K6; obtain ⟨A6, c6, rfl⟩ := P6.got.form; clear hO6 S6 K6 S5 K45 S4 K4))
          clear HR HM S3 K3
          go_upto_region 21 with (first
            | (go_at_call 16; refine (kn _ _).mono ?_; rintro e w6 ⟨rfl, rfl⟩)
            | (go_at_call 30; refine (kb1 P6).mono ?_; clear kb1; rintro e w7 ⟨rfl, b7⟩; have P7 := P6.later b7; clear P6 b7)
            | (go_at_call 30; refine (kb2 P7).mono ?_; clear kb2; rintro e w8 ⟨rfl, b8⟩; have P8 := P7.later b8; clear P7 b8)
            | (go_at_call 31; refine (kl P8).mono ?_; clear kl; rintro e w8 ⟨rfl, rfl⟩)
            | (go_at_call 32; refine (ky P8).mono ?_; clear ky; rintro e w8 ⟨rfl, rfl⟩))
          go_upto_region 24 with (first
            | (go_at_call 12; refine (kw P8.st.sit).mono ?_; rintro e w8 ⟨rfl, rfl⟩)
            | (go_at_call 23; refine (kim P8.st.sit).mono ?_; rintro e w10 ⟨rfl, b10⟩; have P10 := P8.later b10; clear P8 b10; have ko5 := kop5 P10.st.sit hTB hPB; clear kop5)
            | (go_at_call 24; refine ko5.mono ?_; clear ko5; rintro e w11 ⟨j7, v7, rfl, hO7, S7, K7⟩; obtain ⟨R11, o11⟩ := Jl.PR.of P10 HN.out.2.2.2 hO7 S7 K7 HN.out.1 HN.out.2.1; obtain ⟨A7, c7, rfl⟩ := R11.had.form; clear hO7 S7 K7 P10))
          have kp := ksm R11.had o11
          clear ksm
          go_wp2_with (first
            | (go_at_call 16; refine (kn _ _).mono ?_; rintro e w11 ⟨rfl, rfl⟩)
            | (go_at_call 15; refine kp.mono ?_; clear kp; rintro e w12 ⟨rfl, b12⟩; have R12 := R11.later b12; clear R11 b12)
            | (go_at_call 12; refine (kw R12.st.sit).mono ?_; rintro e w12 ⟨rfl, rfl⟩)
            | (go_at_call 23; refine (kim R12.st.sit).mono ?_; rintro e w13 ⟨rfl, b13⟩; have R13 := R12.later b13; clear R12 b13))
          exact ⟨⟨k + 1, j7, gt, m5, _, HN.out.2.2.1, by go_num, rfl, R13⟩, by have := HN.out.2.2.1; simp [intOf]; omega⟩
      · have u1 : decide (k < LL.length) = true := decide_eq_true hlt
        have u2 : decide ((k : Int) < 8) = false := decide_eq_false (by omega)
        have hk1 : 1 ≤ k := by omega
        have hHALF := hk8
        have hus := R.len
        have hone := R.one hk1
        obtain ⟨q, hq⟩ : ∃ q, n + us.length + 1 = q := ⟨_, rfl⟩
        obtain ⟨p, hp⟩ : ∃ p, n + us.length = p := ⟨_, rfl⟩
        have wp1 : IntKind.i64.wrap ((n : Int) + (us.length : Int)) = (p : Int) := by rw [IntWalk.i64_in _ (by omega)]; omega
        have wp2 : IntKind.i64.wrap ((p : Int) + 1) = (q : Int) := by rw [IntWalk.i64_in _ (by omega)]; omega
        obtain ⟨hfit, hseq⟩ := Jl.gu_fit ⟨0, 1, 0, ⟨#[]⟩⟩ q (by omega)
        obtain ⟨u, hu⟩ : ∃ u, Jl.gu ⟨0, 1, 0, ⟨#[]⟩⟩ q = u := ⟨_, rfl⟩
        rw [hu] at hfit hseq
        obtain ⟨C, hC, _, _⟩ := str_of u.code
        have kg := fun w => Jl.goes_law ⟨0, 1, 0, ⟨#[]⟩⟩ q w (by decide) C (by rw [hu]; exact hC)
        simp only [hu] at kg
        unfold Jl.uv at kg
        obtain ⟨m2, d1, d2, kap⟩ := Jl.live_append R.ok (by omega) hfit (by omega) (by omega) (by rw [R.left]; decide) C hC
        obtain ⟨m3, d3, d4, ksy⟩ := Jl.live_sync d2 (by rw [d1, R.left]; decide)
        obtain ⟨i, junk, hi1, hi2, haft, hjk⟩ := d4.live.crash []
        obtain rfl : i = (us ++ [u]).length := by omega
        rw [List.take_length, hjk rfl] at haft
        have kcs := fun {w : World} {K : Nat → Prop} {J : Jl.Js} (S : Jl.St W.heap.size W w d m3 j1 J K) => S.crash (cs := []) (.inl ⟨⟨none, 0, rfl⟩, rfl⟩) (by simp) (by simp)
        generalize Dk.crash m3 [] = m4 at haft kcs
        obtain ⟨m5, haft5, _, _, kop⟩ := Jl.open_aft haft (by omega)
        obtain ⟨ue, hue⟩ : ∃ ue, us ++ [u] = ue := ⟨_, rfl⟩
        rw [hue] at kop
        have hul : ue.length = us.length + 1 := by rw [← hue]; simp
        have u3 : decide (us.length > 0) = true := decide_eq_true hone
        have u4 : decide ((us.length : Int) > 0) = true := decide_eq_true (by omega)
        have u5 : decide (0 < us.length) = true := decide_eq_true hone
        have u6 : decide ((0 : Int) < (us.length : Int)) = true := decide_eq_true (by omega)
        have hus1 : us.length ≤ 1000 := by omega
        replace kap := fun {w : World} {K : Nat → Prop} => @kap W.heap.size W w d j1 K hTB
        replace ksy := fun {w : World} {K : Nat → Prop} => @ksy W.heap.size W w d j1 K
        have HN := Lib.hid (And.intro hul (And.intro hus1 (And.intro hue hC)))
        have HR := Lib.hid R
        have hwb : W.heap.size ≤ wr.heap.size := R.st.sit.size
        have hjw := R.st.blk.lt
        clear hul hus1 hus hone hq hp hu hfit hseq hC d1 d2 d3 d4 hi1 hi2 haft hjk haft5 hue R hk hk1 hHALF hLLl hl hnl HF hLL0 hLL1
        go_upto_region 28 with (first
          | (go_at_call 18; refine (kg _).mono ?_; clear kg; rintro e x1 ⟨rfl, b1⟩; have z1 := b1.size; have bA := b1.alloc b1.size (.cells #[.int .i64 u.seq, .int .i64 u.kind, .int .i64 u.id, .string C] 39); have SA := (HR.out.st.add bA).sub (K' := fun r => Jl.KJ K0 j1 (.slice A1 us.length c1) r ∨ r = x1.heap.size) (fun r hr => hr.elim .inl (fun e => .inr ⟨by omega, by simp; omega⟩)) (.inl HR.out.st.own); have kap2 := kap SA; clear kap)
          | (go_at_call 29; refine kap2.mono ?_; clear kap2; rintro e x2 ⟨rfl, S2, K2⟩; have ksy2 := ksy S2; clear ksy))
        go_upto_region 31 with (first
          | (go_at_call 33; refine ksy2.mono ?_; clear ksy2; rintro e x3 ⟨rfl, S3, K3⟩; have kcs2 := kcs S3; clear kcs)
          | (go_at_call 28; refine kcs2.mono ?_; clear kcs2; rintro e x4 ⟨rfl, S4, K4⟩; have ko := kop S4.sit hTB hPB; clear kop)
          | (go_at_call 24; refine ko.mono ?_; clear ko; rintro e x5 ⟨j6, v6, rfl, hO6, S6, K6⟩))
        have hKK := ((K2.trans K3).trans K4).trans (K6.b j1)
        have hub : Blk x5 x1.heap.size 39 #[.int .i64 u.seq, .int .i64 u.kind, .int .i64 u.id, .string C] := (hKK.2 _ (.inr rfl) (fun e => by omega)).trans (Blk.new x1 _ _)
        have hv5 : Jl.Own x5 W.heap.size (.slice A1 us.length c1) us := (show Jl.Own (x1.alloc _) W.heap.size (.slice A1 us.length c1) us from Jl.row_grown HR.out.had (Jl.grown_of bA)).keep (fun r e => hKK.2 r (.inl (.inr (.inr e))) (HR.out.sep r e))
        have hg6 := hO6.2.2
        obtain ⟨A6, c6, rfl⟩ := hg6.form
        have B5 := S6.below
        have z5 := K6.1
        have z4 := K4.1
        have z3 := K3.1
        have z2 := K2.1
        have z0 : (x1.alloc (.cells #[.int .i64 u.seq, .int .i64 u.kind, .int .i64 u.id, .string C] 39)).heap.size = x1.heap.size + 1 := by simp
        have hsz4 : wr.heap.size ≤ x4.heap.size := by omega
        have hsz5 : W.heap.size ≤ x5.heap.size := by omega
        have hv6 : Jl.Own (x5.alloc (.cells #[.int .i64 u.seq, .int .i64 u.kind, .int .i64 u.id, .string C] 39)) W.heap.size (.slice A1 us.length c1) us := Jl.row_grown hv5 (Jl.grown_of ((Below.refl _ _).alloc (Nat.le_refl _) _))
        have hsz6 : W.heap.size ≤ (x5.alloc (.cells #[.int .i64 u.seq, .int .i64 u.kind, .int .i64 u.id, .string C] 39)).heap.size := by rw [World.size_alloc]; omega
        have hfin : ∀ {g' cap : Nat} {x6 : World}, Jl.Own x6 W.heap.size (.slice (some ⟨g', 0, none⟩) (us.length + 1) cap) (us ++ [u]) → (x5.alloc (.cells #[.int .i64 u.seq, .int .i64 u.kind, .int .i64 u.id, .string C] 39)).grownBy x6 (Value.slice A1 us.length c1).ownBlock → (Calls Tryd.prog 15 #[.slice A6 ue.length c6, .slice (some ⟨g', 0, none⟩) (us.length + 1) cap] x6 fun e w' => e = .returned (.bool true) ∧ Below x6.heap.size x6 w') ∧ Below W.heap.size W x6 := fun {g' cap x6} ho hg => by
          obtain ⟨n1, n2, n3, n4⟩ := HN.out
          have hvl := fun r (e : (Value.slice A1 us.length c1).ownBlock = some r) => HR.out.had.lt e
          have hX : Dk.Only (fun k => W.heap.size ≤ k) x5 x6 := ((Dk.Only.refl _ x5).alloc _).grown hg fun k e => .inl (hvl k e).1
          refine ⟨?_, B5.trans (hX.below hsz5 fun k hk => hk)⟩
          rw [n3] at ho
          have hg7 : Jl.Own x6 x4.heap.size (.slice A6 ue.length c6) ue := (show Jl.Own (x5.alloc _) x4.heap.size (.slice A6 ue.length c6) ue from Jl.row_grown hg6 (Jl.grown_of ((Below.refl _ _).alloc (Nat.le_refl _) (.cells #[.int .i64 u.seq, .int .i64 u.kind, .int .i64 u.id, .string C] 39)))).keep fun r e => hg.block r (by have := (hg6.lt e).2; rw [World.size_alloc]; omega) (fun e2 => by have := (hvl r e2.symm).2; have := (hg6.lt e).1; omega)
          rw [← n1] at ho ⊢
          exact Jl.same_true A6 (some ⟨g', 0, none⟩) c6 cap ue x6 hg7.lie ho.lie (by omega)
        obtain ⟨f0, f1, f2, f3⟩ : x5.cell? ⟨x1.heap.size, 0, none⟩ = some (.int .i64 u.seq) ∧ x5.cell? ⟨x1.heap.size, 1, none⟩ = some (.int .i64 u.kind) ∧ x5.cell? ⟨x1.heap.size, 2, none⟩ = some (.int .i64 u.id) ∧ x5.cell? ⟨x1.heap.size, 3, none⟩ = some (.string C) := ⟨hub.cell 0, hub.cell 1, hub.cell 2, hub.cell 3⟩
        clear S2 S3 S4 S6 K2 K3 K4 K6 hKK hv5 hO6 hg6 B5 z5 z4 z3 z2 z0 z1 hsz4 hsz5 bA SA b1 hub hwb hjw
        go_wp2_with (first
          | (go_at_call 16; refine (kn _ _).mono ?_; rintro e x5 ⟨rfl, rfl⟩)
          | (go_at_call 15; refine hfi.1.mono ?_; rintro e x7 ⟨rfl, b7⟩)
          | (at_builtin; refine Jl.wpList_add (.tmp 217) (.tmp 219) rfl (by rfl) (.slice A1 us.length c1) us W.heap.size (by simp [Act.eval]) hv6 x5.heap.size u C HN.out.2.2.2 (by simp [Act.eval]) (Blk.new x5 _ _) HN.out.2.1 hsz6 ?_; intro g' cap x6 ho hg; have hfi := hfin ho hg; clear hfin ho hg))
        go_ret
        exact ⟨rfl, hfi.2.trans (b7.mono hfi.2.size)⟩
    · have u1 : decide (k < LL.length) = false := decide_eq_false hlt
      have hk1 : 1 ≤ k := by omega
      have hHALF := hlt
      have hus := R.len
      have hone := R.one hk1
      obtain ⟨q, hq⟩ : ∃ q, n + us.length + 1 = q := ⟨_, rfl⟩
      obtain ⟨p, hp⟩ : ∃ p, n + us.length = p := ⟨_, rfl⟩
      have wp1 : IntKind.i64.wrap ((n : Int) + (us.length : Int)) = (p : Int) := by rw [IntWalk.i64_in _ (by omega)]; omega
      have wp2 : IntKind.i64.wrap ((p : Int) + 1) = (q : Int) := by rw [IntWalk.i64_in _ (by omega)]; omega
      obtain ⟨hfit, hseq⟩ := Jl.gu_fit ⟨0, 1, 0, ⟨#[]⟩⟩ q (by omega)
      obtain ⟨u, hu⟩ : ∃ u, Jl.gu ⟨0, 1, 0, ⟨#[]⟩⟩ q = u := ⟨_, rfl⟩
      rw [hu] at hfit hseq
      obtain ⟨C, hC, _, _⟩ := str_of u.code
      have kg := fun w => Jl.goes_law ⟨0, 1, 0, ⟨#[]⟩⟩ q w (by decide) C (by rw [hu]; exact hC)
      simp only [hu] at kg
      unfold Jl.uv at kg
      obtain ⟨m2, d1, d2, kap⟩ := Jl.live_append R.ok (by omega) hfit (by omega) (by omega) (by rw [R.left]; decide) C hC
      obtain ⟨m3, d3, d4, ksy⟩ := Jl.live_sync d2 (by rw [d1, R.left]; decide)
      obtain ⟨i, junk, hi1, hi2, haft, hjk⟩ := d4.live.crash []
      obtain rfl : i = (us ++ [u]).length := by omega
      rw [List.take_length, hjk rfl] at haft
      have kcs := fun {w : World} {K : Nat → Prop} {J : Jl.Js} (S : Jl.St W.heap.size W w d m3 j1 J K) => S.crash (cs := []) (.inl ⟨⟨none, 0, rfl⟩, rfl⟩) (by simp) (by simp)
      generalize Dk.crash m3 [] = m4 at haft kcs
      obtain ⟨m5, haft5, _, _, kop⟩ := Jl.open_aft haft (by omega)
      obtain ⟨ue, hue⟩ : ∃ ue, us ++ [u] = ue := ⟨_, rfl⟩
      rw [hue] at kop
      have hul : ue.length = us.length + 1 := by rw [← hue]; simp
      have u3 : decide (us.length > 0) = true := decide_eq_true hone
      have u4 : decide ((us.length : Int) > 0) = true := decide_eq_true (by omega)
      have u5 : decide (0 < us.length) = true := decide_eq_true hone
      have u6 : decide ((0 : Int) < (us.length : Int)) = true := decide_eq_true (by omega)
      have hus1 : us.length ≤ 1000 := by omega
      replace kap := fun {w : World} {K : Nat → Prop} => @kap W.heap.size W w d j1 K hTB
      replace ksy := fun {w : World} {K : Nat → Prop} => @ksy W.heap.size W w d j1 K
      have HN := Lib.hid (And.intro hul (And.intro hus1 (And.intro hue hC)))
      have HR := Lib.hid R
      have hwb : W.heap.size ≤ wr.heap.size := R.st.sit.size
      have hjw := R.st.blk.lt
      clear hul hus1 hus hone hq hp hu hfit hseq hC d1 d2 d3 d4 hi1 hi2 haft hjk haft5 hue R hk hk1 hHALF hLLl hl hnl HF hLL0 hLL1
      go_upto_region 28 with (first
        | (go_at_call 18; refine (kg _).mono ?_; clear kg; rintro e x1 ⟨rfl, b1⟩; have z1 := b1.size; have bA := b1.alloc b1.size (.cells #[.int .i64 u.seq, .int .i64 u.kind, .int .i64 u.id, .string C] 39); have SA := (HR.out.st.add bA).sub (K' := fun r => Jl.KJ K0 j1 (.slice A1 us.length c1) r ∨ r = x1.heap.size) (fun r hr => hr.elim .inl (fun e => .inr ⟨by omega, by simp; omega⟩)) (.inl HR.out.st.own); have kap2 := kap SA; clear kap)
        | (go_at_call 29; refine kap2.mono ?_; clear kap2; rintro e x2 ⟨rfl, S2, K2⟩; have ksy2 := ksy S2; clear ksy))
      go_upto_region 31 with (first
        | (go_at_call 33; refine ksy2.mono ?_; clear ksy2; rintro e x3 ⟨rfl, S3, K3⟩; have kcs2 := kcs S3; clear kcs)
        | (go_at_call 28; refine kcs2.mono ?_; clear kcs2; rintro e x4 ⟨rfl, S4, K4⟩; have ko := kop S4.sit hTB hPB; clear kop)
        | (go_at_call 24; refine ko.mono ?_; clear ko; rintro e x5 ⟨j6, v6, rfl, hO6, S6, K6⟩))
      have hKK := ((K2.trans K3).trans K4).trans (K6.b j1)
      have hub : Blk x5 x1.heap.size 39 #[.int .i64 u.seq, .int .i64 u.kind, .int .i64 u.id, .string C] := (hKK.2 _ (.inr rfl) (fun e => by omega)).trans (Blk.new x1 _ _)
      have hv5 : Jl.Own x5 W.heap.size (.slice A1 us.length c1) us := (show Jl.Own (x1.alloc _) W.heap.size (.slice A1 us.length c1) us from Jl.row_grown HR.out.had (Jl.grown_of bA)).keep (fun r e => hKK.2 r (.inl (.inr (.inr e))) (HR.out.sep r e))
      have hg6 := hO6.2.2
      obtain ⟨A6, c6, rfl⟩ := hg6.form
      have B5 := S6.below
      have z5 := K6.1
      have z4 := K4.1
      have z3 := K3.1
      have z2 := K2.1
      have z0 : (x1.alloc (.cells #[.int .i64 u.seq, .int .i64 u.kind, .int .i64 u.id, .string C] 39)).heap.size = x1.heap.size + 1 := by simp
      have hsz4 : wr.heap.size ≤ x4.heap.size := by omega
      have hsz5 : W.heap.size ≤ x5.heap.size := by omega
      have hv6 : Jl.Own (x5.alloc (.cells #[.int .i64 u.seq, .int .i64 u.kind, .int .i64 u.id, .string C] 39)) W.heap.size (.slice A1 us.length c1) us := Jl.row_grown hv5 (Jl.grown_of ((Below.refl _ _).alloc (Nat.le_refl _) _))
      have hsz6 : W.heap.size ≤ (x5.alloc (.cells #[.int .i64 u.seq, .int .i64 u.kind, .int .i64 u.id, .string C] 39)).heap.size := by rw [World.size_alloc]; omega
      have hfin : ∀ {g' cap : Nat} {x6 : World}, Jl.Own x6 W.heap.size (.slice (some ⟨g', 0, none⟩) (us.length + 1) cap) (us ++ [u]) → (x5.alloc (.cells #[.int .i64 u.seq, .int .i64 u.kind, .int .i64 u.id, .string C] 39)).grownBy x6 (Value.slice A1 us.length c1).ownBlock → (Calls Tryd.prog 15 #[.slice A6 ue.length c6, .slice (some ⟨g', 0, none⟩) (us.length + 1) cap] x6 fun e w' => e = .returned (.bool true) ∧ Below x6.heap.size x6 w') ∧ Below W.heap.size W x6 := fun {g' cap x6} ho hg => by
        obtain ⟨n1, n2, n3, n4⟩ := HN.out
        have hvl := fun r (e : (Value.slice A1 us.length c1).ownBlock = some r) => HR.out.had.lt e
        have hX : Dk.Only (fun k => W.heap.size ≤ k) x5 x6 := ((Dk.Only.refl _ x5).alloc _).grown hg fun k e => .inl (hvl k e).1
        refine ⟨?_, B5.trans (hX.below hsz5 fun k hk => hk)⟩
        rw [n3] at ho
        have hg7 : Jl.Own x6 x4.heap.size (.slice A6 ue.length c6) ue := (show Jl.Own (x5.alloc _) x4.heap.size (.slice A6 ue.length c6) ue from Jl.row_grown hg6 (Jl.grown_of ((Below.refl _ _).alloc (Nat.le_refl _) (.cells #[.int .i64 u.seq, .int .i64 u.kind, .int .i64 u.id, .string C] 39)))).keep fun r e => hg.block r (by have := (hg6.lt e).2; rw [World.size_alloc]; omega) (fun e2 => by have := (hvl r e2.symm).2; have := (hg6.lt e).1; omega)
        rw [← n1] at ho ⊢
        exact Jl.same_true A6 (some ⟨g', 0, none⟩) c6 cap ue x6 hg7.lie ho.lie (by omega)
      obtain ⟨f0, f1, f2, f3⟩ : x5.cell? ⟨x1.heap.size, 0, none⟩ = some (.int .i64 u.seq) ∧ x5.cell? ⟨x1.heap.size, 1, none⟩ = some (.int .i64 u.kind) ∧ x5.cell? ⟨x1.heap.size, 2, none⟩ = some (.int .i64 u.id) ∧ x5.cell? ⟨x1.heap.size, 3, none⟩ = some (.string C) := ⟨hub.cell 0, hub.cell 1, hub.cell 2, hub.cell 3⟩
      clear S2 S3 S4 S6 K2 K3 K4 K6 hKK hv5 hO6 hg6 B5 z5 z4 z3 z2 z0 z1 hsz4 hsz5 bA SA b1 hub hwb hjw
      go_wp2_with (first
        | (go_at_call 16; refine (kn _ _).mono ?_; rintro e x5 ⟨rfl, rfl⟩)
        | (go_at_call 15; refine hfi.1.mono ?_; rintro e x7 ⟨rfl, b7⟩)
        | (at_builtin; refine Jl.wpList_add (.tmp 217) (.tmp 219) rfl (by rfl) (.slice A1 us.length c1) us W.heap.size (by simp [Act.eval]) hv6 x5.heap.size u C HN.out.2.2.2 (by simp [Act.eval]) (Blk.new x5 _ _) HN.out.2.1 hsz6 ?_; intro g' cap x6 ho hg; have hfi := hfin ho hg; clear hfin ho hg))
      go_ret
      exact ⟨rfl, hfi.2.trans (b7.mono hfi.2.size)⟩
#print axioms Jl.prefix_walk
end Go.Proofs.YthhkebkpophkiaaDoor
