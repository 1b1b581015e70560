/- One life of a journal: the walk of the law's helper lives. Conditions: each theorem's own hypotheses. -/
import Derived.Test.YthhkebkpophkiaaDoorJpE
namespace Go.Proofs.YthhkebkpophkiaaDoor
open Go.RowKit
set_option linter.unusedVariables false

set_option maxRecDepth 100000 in
set_option maxHeartbeats 20000000 in
theorem Jl.lives_any {B d j n : Nat} {W0 w : World} {m : Dk.M} {J : Jl.Js} {K : Nat → Prop} {us : List Jn.Upd} (h : Jl.St B W0 w d m j J K) (hT : ∀ {w : World}, Below B W0 w → TabS w) (L : Jl.Ok n m J us us.length) (hn : n ≤ 1152921504606845976) (hus : us.length ≤ 900)
    {v : Value} (hv : Jl.Own w B v us) (hvK : ∀ k, v.ownBlock = some k → K k ∧ k ≠ j) (A : Option Addr) (l : List Jl.In) (cp : Nat) (hl : l.length ≤ 4611686018427387904) (hcs : ∀ x ∈ l, x.c.size ≤ 4611686018427387904)
    (HI : ∀ {w' : World}, Below B W0 w' → Jl.KeptB K j w w' → Jl.Lst w' A l) (sy ct ke : Int) (hct : -9223372036854775808 ≤ ct ∧ ct < 9223372036854775808) (sp : Int) :
    Calls Tryd.prog 27 #[.pointer (some ⟨d, 0, none⟩), .pointer (some ⟨j, 0, none⟩), .int .i64 n, v, .agg #[.slice A l.length cp, .int .i64 sy, .int .i64 ct, .int .i64 ke, .int .u8 sp]] w fun e w' =>
      ∃ va vs us' s' m' J', e = .returned (.tuple #[va, vs, .bool true]) ∧ Jl.LE B W0 w d j K n us.length l.length ct sy va vs us' s' m' J' w' := by
  obtain ⟨i0, hi, hz0i, hz1i, hz2i⟩ := info_parts infoUpd
  have kn := fun (n : Int) w => Jl.num_any n w
  have hz := h.sit.size
  obtain ⟨A0, c0, rfl⟩ := hv.form
  have hA : ∀ o : Obj, Below w.heap.size w (w.alloc o) := fun o => (Below.refl _ _).alloc (Nat.le_refl _) o
  obtain ⟨bx, hbx⟩ : ∃ bx, w.heap.size = bx := ⟨_, rfl⟩
  go_enter Tryd.func27, Tryd.ntmps27
  go_upto_region 1 with fail
  have hb1 : Blk (w.alloc (.cells #[.slice A l.length cp, .int .i64 sy, .int .i64 ct, .int .i64 ke, .int .u8 sp] 61)) bx 61 #[.slice A l.length cp, .int .i64 sy, .int .i64 ct, .int .i64 ke, .int .u8 sp] := hbx ▸ Blk.new _ _ _
  have hA1 := hA (.cells #[.slice A l.length cp, .int .i64 sy, .int .i64 ct, .int .i64 ke, .int .u8 sp] 61)
  generalize w.alloc (.cells #[.slice A l.length cp, .int .i64 sy, .int .i64 ct, .int .i64 ke, .int .u8 sp] 61) = w1 at hb1 hA1 ⊢
  have hzw := hA1.size
  have hbxl := hb1.lt
  have S1 : Jl.St B W0 w1 d m j J (fun q => K q ∨ q = bx) := (h.add hA1).sub (fun q hq => hq.elim .inl fun e => .inr ⟨by omega, by omega⟩) (.inl h.own)
  have k1 : Jl.KeptB K j w w1 := .of h.sit hA1
  have o1 : Jl.Own w1 B (.slice A0 us.length c0) us := Jl.row_grown hv (Jl.grown_of hA1)
  have hjx : bx ≠ j := fun e => by have := h.blk.lt; omega
  have harm := L.arm ct
  have karm := fun {w : World} {K : Nat → Prop} (S : Jl.St B W0 w d m j J K) => S.arm ct hct
  go_upto_region 4 with (first
    | (at_builtin; refine Jl.wpList_copy rfl (.tmp 20) rfl rfl (.slice A0 us.length c0) us B (by simp [Act.eval]) o2 (by omega) ?_; intro vs w3 ov3 g3; have b23 := Jl.below_of g3; have hz3 := b23.size; have hb3 : Blk w3 bx 61 #[.slice A l.length cp, .int .i64 sy, .int .i64 ct, .int .i64 ke, .int .u8 sp] := (b23.block _ hb2.lt).trans hb2; have cx2 : w3.cell? ⟨bx, 2, none⟩ = some (.int .i64 ct) := hb3.cell 2; have S3 : Jl.St B W0 w3 d m j J (fun q => (K q ∨ q = bx) ∨ va.ownBlock = some q ∨ vs.ownBlock = some q) := (S2.add b23).sub (fun q hq => hq.elim (fun e => .inl (.inl e)) fun hq => hq.elim (fun e => .inl (.inr e)) fun e => .inr (ov3.lt e)) (.inl (.inl h.own)); have ov23 : Jl.Own w3 w1.heap.size va us := Jl.row_grown ov2 g3; have two : ∀ q, va.ownBlock = some q → vs.ownBlock ≠ some q := fun q e1 e2 => by have := (ov2.lt e1).2; have := (ov3.lt e2).1; omega)
    | (at_builtin; refine Jl.wpList_copy rfl (.tmp 18) rfl rfl (.slice A0 us.length c0) us B (by simp [Act.eval]) o1 (by omega) ?_; intro va w2 ov2 g2; have o2 : Jl.Own w2 B (.slice A0 us.length c0) us := Jl.row_grown o1 g2; have b12 := Jl.below_of g2; have hz2' := b12.size; have S2 : Jl.St B W0 w2 d m j J (fun q => (K q ∨ q = bx) ∨ va.ownBlock = some q) := (S1.add b12).sub (fun q hq => hq.elim .inl fun e => .inr (ov2.lt e)) (.inl (.inl h.own)); have hb2 : Blk w2 bx 61 #[.slice A l.length cp, .int .i64 sy, .int .i64 ct, .int .i64 ke, .int .u8 sp] := (b12.block _ hbxl).trans hb1)
    | (go_at_call 59; refine (karm S3).mono ?_; clear karm; rintro e w4 ⟨rfl, S4, K4⟩))
  have R0 : Jl.LR B W0 w1 d j K bx n us.length ct sy 0 va vs us us.length (Dk.arm m ct false) J w4 := by
    refine ⟨S4, ⟨Nat.le_trans hz2' (Nat.le_trans hz3 K4.1), fun k hk hkj => ?_⟩, ov23.kept K4 (fun k hk => .inr (.inl hk)), ?_, two, harm.1, rfl, Nat.le_refl _, fun hne => ?_, fun h1 => by omega⟩
    · have hlt := (S1.sit.lt hk).2
      exact (K4.2 k (.inl hk)).trans ((b23.block k (by omega)).trans (b12.block k hlt))
    · rw [List.take_length]
      exact (ov3.kept K4 (fun k hk => .inr (.inr hk))).more hz2'
    · rw [harm.2] at hne
      omega
  have hj1 : K j := h.own
  have hjl : j < w1.heap.size := by have := h.blk.lt; omega
  have S1lt : ∀ k, (K k ∨ k = bx) → k < w1.heap.size := fun k hk => (S1.sit.lt hk).2
  have hbl0 : ∀ {x : World}, Jl.KeptB (fun q => K q ∨ q = bx) j w1 x → Blk x bx 61 #[.slice A l.length cp, .int .i64 sy, .int .i64 ct, .int .i64 ke, .int .u8 sp] := fun hx => (hx.2 bx (.inr rfl) hjx).trans hb1
  have HI1 : ∀ {x : World}, Below B W0 x → Jl.KeptB (fun q => K q ∨ q = bx) j w1 x → Jl.Lst x A l := fun a b => HI a (k1.trans ⟨b.1, fun k hk hkj => b.2 k (.inl hk) hkj⟩)
  have hfin : ∀ {va vs : Value} {us' : List Jn.Upd} {s' : Nat} {m' : Dk.M} {J' : Jl.Js} {x : World} {P : Nat → Prop}, Jl.St B W0 x d m' j J' P → (∀ q, (K q ∨ va.ownBlock = some q ∨ vs.ownBlock = some q) → P q) → Jl.KeptB (fun q => K q ∨ q = bx) j w1 x → Jl.Own x w1.heap.size va us' → Jl.Own x w1.heap.size vs (us'.take s') → Jl.Live n m' us' s' → J'.age = m'.age → us'.length ≤ us.length + 60 → us.length ≤ s' → (1 ≤ l.length → sy = 1 → ct ≤ 0 → us.length + 1 ≤ s') → Jl.LE B W0 w d j K n us.length l.length ct sy va vs us' s' m' J' x :=
    fun a b c d1 d2 e f g g2 g3 => ⟨a.sub b (.inl hj1), k1.trans ⟨c.1, fun k hk hkj => c.2 k (.inl hk) hkj⟩, d1.more hzw, d2.more hzw, e, f, g, g2, g3⟩
  clear S1 S2 S3 S4 K4 b12 b23 hb1 hb2 hb3 cx2 ov2 ov3 ov23 o1 o2 g2 g3 two harm h L hv hvK hA hA1 HI
  go_wp2_with fail
  go_loopw [13, 14, 15] (fun va vs i wr => ∃ k us' s' m' J', k ≤ 60 ∧ i = .int .i64 (k : Nat) ∧ Jl.LR B W0 w1 d j K bx n us.length ct sy k va vs us' s' m' J' wr) (fun _ _ i _ => 60 - (intOf i).toNat)
  case atStart => exact ⟨0, _, _, _, _, Nat.zero_le _, rfl, R0⟩
  case round =>
    clear R0
    obtain ⟨k, us', s', m', J', hk, rfl, R⟩ := hrel
    obtain ⟨hS, hkept, hall, hsure, htwo, hok, hlen, hlo, hleft, hone⟩ := R
    obtain ⟨A1, c1, rfl⟩ := hall.form
    have hbx0 := hbl0 hkept
    have x0 : wr.cell? ⟨bx, 0, none⟩ = some (.slice A l.length cp) := hbx0.cell 0
    by_cases hlt : k < l.length
    · have u1 : decide (k < l.length) = true := decide_eq_true hlt
      by_cases hk6 : k < 60
      · have u2 : decide ((k : Int) < 60) = true := decide_eq_true (by omega)
        obtain ⟨b, off, x, hA, hj, e0, e1, e2, e3⟩ := (HI1 hS.sit.below hkept).at_ hlt
        subst hA
        have hxm : x ∈ l := List.mem_of_getElem? hj
        obtain ⟨q, hq⟩ : ∃ q, n + 1 + us'.length = q := ⟨_, rfl⟩
        obtain ⟨p, hp⟩ : ∃ p, n + us'.length = p := ⟨_, rfl⟩
        obtain ⟨hfit, hseq⟩ := Jl.gu_fit x q (by omega)
        obtain ⟨C, hC, _, _⟩ := str_of (Jl.gu x q).code
        have kg := fun w => Jl.goes_law x q w (hcs x hxm) C hC
        obtain ⟨u, hu⟩ : ∃ u, Jl.gu x q = u := ⟨_, rfl⟩
        rw [hu] at hfit hseq hC
        simp only [hu] at kg
        have hf4 := Jl.four_p u C hC
        have wp1 : IntKind.i64.wrap ((n : Int) + (us'.length : Int)) = (p : Int) := by rw [IntWalk.i64_in _ (by omega)]; omega
        have wp2 : IntKind.i64.wrap ((p : Int) + 1) = (q : Int) := by rw [IntWalk.i64_in _ (by omega)]; omega
        have wk1 : IntKind.i64.wrap ((k : Int) + 1) = ((k + 1 : Nat) : Int) := by rw [IntWalk.i64_in _ (by omega)]; omega
        obtain ⟨xq, xk, xi, xc⟩ := x
        simp only at e0 e1 e2 e3
        unfold Jl.uv at kg
        have hj0 : (0 : Int) ≤ (k : Int) := by omega
        have hj1' : (k : Int) < (l.length : Int) := by omega
        have hqs : u.seq = n + 1 + us'.length := by omega
        have hqI : (u.seq : Int) = (q : Int) := by omega
        have hul : us'.length ≤ 1000 := by omega
        have B0 := hS.sit.below
        have hjl' : j < w1.heap.size := hjl
        have hz0 := hkept.1
        have hap1 : us'.length + 1 ≤ maxLen := by unfold maxLen; omega
        have hap2 : (us'.length + 1) * 40 ≤ 140737488355328 := by omega
        have hvaK : ∀ k, (Value.slice A1 us'.length c1).ownBlock = some k → (((K k ∨ k = bx) ∨ (Value.slice A1 us'.length c1).ownBlock = some k ∨ u14.ownBlock = some k)) ∧ k ≠ j := fun k e => ⟨.inr (.inl e), fun ej => by have := (hall.lt e).1; omega⟩
        by_cases hlf : m'.left = 1
        · obtain ⟨m2, d1, d2, d3, kap⟩ := Jl.dead_append hok (by omega) hfit hqs hul hlf C hC
          have HD := Lib.hid (And.intro d1 (And.intro d2 d3))
          replace kap := fun {w : World} {d : Nat} {K : Nat → Prop} => @kap B W0 w d j K hT
          have HH := Lib.hid (And.intro hC (And.intro hseq (And.intro hfit hf4)))
          have HE := Lib.hid (And.intro hq (And.intro hp (And.intro hqs (And.intro hqI (And.intro hlen hlf)))))
          have HL := Lib.hid (And.intro hok (And.intro hlo (And.intro hleft (And.intro hone (And.intro htwo hkept)))))
          have HU := Lib.hid hul
          clear hus hcs hC hseq hfit hf4 hq hp hqs hqI hlen hlf hu hok hlo hleft hone htwo hj hxm hul hbx0 hbx
          try clear d1
          try clear d2
          try clear d3
          go_upto_region 10 with (first
            | (go_at_call 18; refine (kg _).mono ?_; clear kg; rintro e x1 ⟨rfl, b1⟩; have z1 := b1.size; have bA := b1.alloc b1.size (.cells #[.int .i64 u.seq, .int .i64 u.kind, .int .i64 u.id, .string C] 39); have SA := (hS.add bA).sub (K' := fun r => ((K r ∨ r = bx) ∨ (Value.slice A1 us'.length c1).ownBlock = some r ∨ u14.ownBlock = some r) ∨ r = x1.heap.size) (fun r hr => hr.elim .inl (fun e => .inr ⟨by omega, by simp; omega⟩)) (.inl (.inl (.inl hj1))); have kap2 := kap SA; clear kap SA)
            | (go_at_call 29; refine kap2.mono ?_; clear kap2; rintro e x2 ⟨rfl, S2, K2⟩; have hu2 : Blk x2 x1.heap.size 39 #[.int .i64 u.seq, .int .i64 u.kind, .int .i64 u.id, .string C] := (K2.2 _ (.inr rfl) (fun e => by omega)).trans (Blk.new x1 _ _); have f0 : x2.cell? ⟨x1.heap.size, 0, none⟩ = some (.int .i64 u.seq) := hu2.cell 0; have f1 : x2.cell? ⟨x1.heap.size, 1, none⟩ = some (.int .i64 u.kind) := hu2.cell 1; have f2 : x2.cell? ⟨x1.heap.size, 2, none⟩ = some (.int .i64 u.id) := hu2.cell 2; have f3 : x2.cell? ⟨x1.heap.size, 3, none⟩ = some (.string C) := hu2.cell 3; have hown2 : x2.ownsRow w1.heap.size 39 4 (.slice A1 us'.length c1) us'.length (Jl.cells us') := (show Jl.Own (x1.alloc _) w1.heap.size (.slice A1 us'.length c1) us' from Jl.row_grown hall (Jl.grown_of bA)).keep (fun r e => K2.2 r (.inl (hvaK r e).1) (hvaK r e).2); have hown2a := hown2.alloc (.cells #[.int .i64 u.seq, .int .i64 u.kind, .int .i64 u.id, .string C] 39); have HN := Lib.hid (Jl.news (Blk.new x2 39 #[.int .i64 u.seq, .int .i64 u.kind, .int .i64 u.id, .string C])); have hz2x := K2.1; have hap3 : w1.heap.size ≤ (x2.alloc (.cells #[.int .i64 u.seq, .int .i64 u.kind, .int .i64 u.id, .string C] 39)).heap.size := by rw [World.size_alloc]; simp at hz2x; omega)
            | (at_builtin; refine wpList_append_lies (hs := ?e1) (hx := ?e2) (hown := hown2a) (hnews := HN.out) _ rfl (.tmp 51) (.tmp 53) 32 ?e0 w1.heap.size 39 i0 (.agg #[.int .i64 0, .int .i64 0, .int .i64 0, .string ⟨#[]⟩]) 4 40 Tryd.underlying32 hi hz0i hz1i hz2i ?e3 (by decide) (.slice A1 us'.length c1) us'.length (Jl.cells us') ⟨x2.heap.size, 0, none⟩ 1 1 [.int .i64 u.seq, .int .i64 u.kind, .int .i64 u.id, .string C] ?e4 (by simp [Value.oneCell']) (by decide) hap1 hap2 hap3 _ rfl ?_))
          case e0 => rfl
          case e3 => rfl
          case e4 => rfl
          case e1 => simp [Act.eval]
          case e2 => simp [Act.eval]
          intro g3 cap3 x3 hown3 hgr3 hat3 hlt3
          obtain ⟨S3, hz3x, hkey⟩ := S2.grown (fun r e => ⟨.inl (hvaK r e).1, (hvaK r e).2⟩) hgr3 hat3 hlt3
          obtain ⟨hC, hseq, hfit, hf4⟩ := HH.out
          obtain ⟨hq, hp, hqs, hqI, hlen, hlf⟩ := HE.out
          obtain ⟨hok, hlo, hleft, hone, htwo, hkept⟩ := HL.out
          have hz1A : (x1.alloc (.cells #[.int .i64 u.seq, .int .i64 u.kind, .int .i64 u.id, .string C] 39)).heap.size = x1.heap.size + 1 := by simp
          have o3 : Jl.Own x3 w1.heap.size (.slice (some ⟨g3, 0, none⟩) (us'.length + 1) cap3) (us' ++ [u]) := by
            unfold Jl.Own
            rw [Jl.cells_snoc, hf4, List.length_append]
            exact hown3
          have hvlt : ∀ r, (Value.slice A1 us'.length c1).ownBlock = some r → r < wr.heap.size := fun r e => (hall.lt e).2
          have hslt : ∀ r, u14.ownBlock = some r → w1.heap.size ≤ r ∧ r < wr.heap.size := fun r e => hsure.lt e
          have hu3 : Blk x3 x1.heap.size 39 #[.int .i64 u.seq, .int .i64 u.kind, .int .i64 u.id, .string C] := (hkey _ (by omega) (fun e => by have := hvlt _ e; omega)).trans hu2
          have hk3 : Jl.KeptB (fun q => K q ∨ q = bx) j w1 x3 := ⟨by omega, fun r hr hrj => by
            have hr1 := (S1lt r hr)
            refine (hkey r (by omega) (fun e => by have := (hall.lt e).1; omega)).trans ((K2.2 r (.inl (.inl hr)) hrj).trans ((bA.block r (by omega)).trans (hkept.2 r hr hrj)))⟩
          have os3 : Jl.Own x3 w1.heap.size u14 (us'.take s') := hsure.keep fun r e => by
            have := hslt r e
            exact (hkey r (by omega) (fun e2 => htwo r e2 e)).trans ((K2.2 r (.inl (.inr (.inr e))) (by omega)).trans (bA.block r this.2))
          have two3 : ∀ r, (Value.slice (some ⟨g3, 0, none⟩) (us'.length + 1) cap3).ownBlock = some r → u14.ownBlock ≠ some r := fun r e1 e2 => by
            have := hslt r e2
            have e1' : g3 = r := Option.some.inj e1
            subst e1'
            rcases hat3 with h | h
            · exact htwo _ h e2
            · omega
          have q0 := hu3.cell 0
          have y0 : x3.cell? ⟨x1.heap.size, 0, none⟩ = some (.int .i64 u.seq) := q0
          have hbx3 := hbl0 hk3
          clear hown3 hgr3 hat3 hlt3 S2 K2 hu2 f0 f1 f2 f3 hown2 hown2a HN hkey hall hsure hS e0 e1 e2 e3 x0 q0 bA b1
          obtain ⟨d1, d2, d3⟩ := HD.out
          have kd : Calls Tryd.prog 60 #[.pointer (some ⟨d, 0, none⟩)] x3 fun e w' => e = .returned (.bool m2.off) ∧ w' = x3 := S3.down 0
          rw [d1] at kd
          have z2 : ∀ nq, (x3.drewN nq).cell? ⟨bx, 2, none⟩ = some (.int .i64 ct) := fun _ => hbx3.cell 2
          have hct1 : 0 < ct := hleft (by omega)
          have hct2 : decide (0 < ct) = true := decide_eq_true hct1
          have hct3 : decide (ct > 0) = true := hct2
          have hage : J'.age = m'.age := by rw [hok.js]
          have z20 : x3.cell? ⟨bx, 2, none⟩ = some (.int .i64 ct) := hbx3.cell 2
          have HN2 := Lib.hid hlen
          have os4 : Jl.Own x3 w1.heap.size u14 ((us' ++ [u]).take s') := by
            rw [Jl.take_snoc hok.live.sure]
            exact os3
          clear hlen os3 y0 hq hp hqs hqI hlf HE HL HH HD hbx3 wp1 wp2 hap1 hap2 hvaK
          go_upto_region 11 with (first
            | (go_at_call 16; refine (kn _ _).mono ?_; rintro e w' ⟨rfl, rfl⟩)
            | (go_at_call 60; refine kd.mono ?_; rintro e w' ⟨rfl, rfl⟩))
          go_quiet (fail)
          go_wp2_with fail
          refine bodyPost_ret (v := .tuple #[.slice (some ⟨g3, 0, none⟩) (us'.length + 1) cap3, u14, .bool true]) (by simp [results, Tryd.results27, go_sem]) rfl ?_
          refine ⟨_, _, us' ++ [u], s', m2, _, rfl, hfin (S3.dn nq) (fun r hr => ?_) (hk3.trans ⟨Nat.le_refl _, fun _ _ _ => rfl⟩) (o3.keep fun _ _ => rfl) (os4.keep fun _ _ => rfl) d3 (hage.trans d2.symm) (by rw [List.length_append]; show us'.length + 1 ≤ _; have := HN2.out; omega) hlo (fun _ b c => by omega)⟩
          rcases hr with hr | hr | hr
          · exact .inl (.inl (.inl (.inl hr)))
          · exact .inr (Option.some.inj hr).symm
          · exact .inl (.inl (.inr (.inr hr)))
        · obtain ⟨m2, d1, d2, kap⟩ := Jl.live_append hok (by omega) hfit hqs hul hlf C hC
          have HD := Lib.hid (And.intro d1 d2)
          replace kap := fun {w : World} {d : Nat} {K : Nat → Prop} => @kap B W0 w d j K hT
          have HH := Lib.hid (And.intro hC (And.intro hseq (And.intro hfit hf4)))
          have HE := Lib.hid (And.intro hq (And.intro hp (And.intro hqs (And.intro hqI (And.intro hlen hlf)))))
          have HL := Lib.hid (And.intro hok (And.intro hlo (And.intro hleft (And.intro hone (And.intro htwo hkept)))))
          have HU := Lib.hid hul
          clear hus hcs hC hseq hfit hf4 hq hp hqs hqI hlen hlf hu hok hlo hleft hone htwo hj hxm hul hbx0 hbx
          try clear d1
          try clear d2
          try clear d3
          go_upto_region 10 with (first
            | (go_at_call 18; refine (kg _).mono ?_; clear kg; rintro e x1 ⟨rfl, b1⟩; have z1 := b1.size; have bA := b1.alloc b1.size (.cells #[.int .i64 u.seq, .int .i64 u.kind, .int .i64 u.id, .string C] 39); have SA := (hS.add bA).sub (K' := fun r => ((K r ∨ r = bx) ∨ (Value.slice A1 us'.length c1).ownBlock = some r ∨ u14.ownBlock = some r) ∨ r = x1.heap.size) (fun r hr => hr.elim .inl (fun e => .inr ⟨by omega, by simp; omega⟩)) (.inl (.inl (.inl hj1))); have kap2 := kap SA; clear kap SA)
            | (go_at_call 29; refine kap2.mono ?_; clear kap2; rintro e x2 ⟨rfl, S2, K2⟩; have hu2 : Blk x2 x1.heap.size 39 #[.int .i64 u.seq, .int .i64 u.kind, .int .i64 u.id, .string C] := (K2.2 _ (.inr rfl) (fun e => by omega)).trans (Blk.new x1 _ _); have f0 : x2.cell? ⟨x1.heap.size, 0, none⟩ = some (.int .i64 u.seq) := hu2.cell 0; have f1 : x2.cell? ⟨x1.heap.size, 1, none⟩ = some (.int .i64 u.kind) := hu2.cell 1; have f2 : x2.cell? ⟨x1.heap.size, 2, none⟩ = some (.int .i64 u.id) := hu2.cell 2; have f3 : x2.cell? ⟨x1.heap.size, 3, none⟩ = some (.string C) := hu2.cell 3; have hown2 : x2.ownsRow w1.heap.size 39 4 (.slice A1 us'.length c1) us'.length (Jl.cells us') := (show Jl.Own (x1.alloc _) w1.heap.size (.slice A1 us'.length c1) us' from Jl.row_grown hall (Jl.grown_of bA)).keep (fun r e => K2.2 r (.inl (hvaK r e).1) (hvaK r e).2); have hown2a := hown2.alloc (.cells #[.int .i64 u.seq, .int .i64 u.kind, .int .i64 u.id, .string C] 39); have HN := Lib.hid (Jl.news (Blk.new x2 39 #[.int .i64 u.seq, .int .i64 u.kind, .int .i64 u.id, .string C])); have hz2x := K2.1; have hap3 : w1.heap.size ≤ (x2.alloc (.cells #[.int .i64 u.seq, .int .i64 u.kind, .int .i64 u.id, .string C] 39)).heap.size := by rw [World.size_alloc]; simp at hz2x; omega)
            | (at_builtin; refine wpList_append_lies (hs := ?e1) (hx := ?e2) (hown := hown2a) (hnews := HN.out) _ rfl (.tmp 51) (.tmp 53) 32 ?e0 w1.heap.size 39 i0 (.agg #[.int .i64 0, .int .i64 0, .int .i64 0, .string ⟨#[]⟩]) 4 40 Tryd.underlying32 hi hz0i hz1i hz2i ?e3 (by decide) (.slice A1 us'.length c1) us'.length (Jl.cells us') ⟨x2.heap.size, 0, none⟩ 1 1 [.int .i64 u.seq, .int .i64 u.kind, .int .i64 u.id, .string C] ?e4 (by simp [Value.oneCell']) (by decide) hap1 hap2 hap3 _ rfl ?_))
          case e0 => rfl
          case e3 => rfl
          case e4 => rfl
          case e1 => simp [Act.eval]
          case e2 => simp [Act.eval]
          intro g3 cap3 x3 hown3 hgr3 hat3 hlt3
          obtain ⟨S3, hz3x, hkey⟩ := S2.grown (fun r e => ⟨.inl (hvaK r e).1, (hvaK r e).2⟩) hgr3 hat3 hlt3
          obtain ⟨hC, hseq, hfit, hf4⟩ := HH.out
          obtain ⟨hq, hp, hqs, hqI, hlen, hlf⟩ := HE.out
          obtain ⟨hok, hlo, hleft, hone, htwo, hkept⟩ := HL.out
          have hz1A : (x1.alloc (.cells #[.int .i64 u.seq, .int .i64 u.kind, .int .i64 u.id, .string C] 39)).heap.size = x1.heap.size + 1 := by simp
          have o3 : Jl.Own x3 w1.heap.size (.slice (some ⟨g3, 0, none⟩) (us'.length + 1) cap3) (us' ++ [u]) := by
            unfold Jl.Own
            rw [Jl.cells_snoc, hf4, List.length_append]
            exact hown3
          have hvlt : ∀ r, (Value.slice A1 us'.length c1).ownBlock = some r → r < wr.heap.size := fun r e => (hall.lt e).2
          have hslt : ∀ r, u14.ownBlock = some r → w1.heap.size ≤ r ∧ r < wr.heap.size := fun r e => hsure.lt e
          have hu3 : Blk x3 x1.heap.size 39 #[.int .i64 u.seq, .int .i64 u.kind, .int .i64 u.id, .string C] := (hkey _ (by omega) (fun e => by have := hvlt _ e; omega)).trans hu2
          have hk3 : Jl.KeptB (fun q => K q ∨ q = bx) j w1 x3 := ⟨by omega, fun r hr hrj => by
            have hr1 := (S1lt r hr)
            refine (hkey r (by omega) (fun e => by have := (hall.lt e).1; omega)).trans ((K2.2 r (.inl (.inl hr)) hrj).trans ((bA.block r (by omega)).trans (hkept.2 r hr hrj)))⟩
          have os3 : Jl.Own x3 w1.heap.size u14 (us'.take s') := hsure.keep fun r e => by
            have := hslt r e
            exact (hkey r (by omega) (fun e2 => htwo r e2 e)).trans ((K2.2 r (.inl (.inr (.inr e))) (by omega)).trans (bA.block r this.2))
          have two3 : ∀ r, (Value.slice (some ⟨g3, 0, none⟩) (us'.length + 1) cap3).ownBlock = some r → u14.ownBlock ≠ some r := fun r e1 e2 => by
            have := hslt r e2
            have e1' : g3 = r := Option.some.inj e1
            subst e1'
            rcases hat3 with h | h
            · exact htwo _ h e2
            · omega
          have q0 := hu3.cell 0
          have y0 : x3.cell? ⟨x1.heap.size, 0, none⟩ = some (.int .i64 u.seq) := q0
          have hbx3 := hbl0 hk3
          clear hown3 hgr3 hat3 hlt3 S2 K2 hu2 f0 f1 f2 f3 hown2 hown2a HN hkey hall hsure hS e0 e1 e2 e3 x0 q0 bA b1
          obtain ⟨d1, d2⟩ := HD.out
          have hq1 : ((u.seq : Int) != (u.seq : Int)) = false := by rw [bne_eq_false_iff_eq]
          have kq0 : ∀ w, Calls Tryd.prog 16 #[.int .i64 0] w fun r w' => r = .returned (.int .i64 0) ∧ w' = w := fun w => (kn 0 w).mono fun e w' ⟨a, b⟩ => ⟨a, b.symm⟩
          have kla : ∀ nq, Calls Tryd.prog 31 #[.pointer (some ⟨j, 0, none⟩)] (x3.drewN nq) fun r w' => r = .returned (.int .i64 u.seq) ∧ w' = x3.drewN nq := fun nq => (Jl.last_any (S3.dn nq)).mono fun e w' ⟨a, b⟩ => ⟨a, b.symm⟩
          have HN2 := Lib.hid hlen
          have HO2 := Lib.hid (And.intro d1 d2)
          have HP2 := Lib.hid (And.intro hlo (And.intro hleft (And.intro hone (And.intro hok hlf))))
          have HQ2 := Lib.hid hseq
          clear hlen hq hp hqs hqI hlf HE HL HH HD wp1 wp2 hap1 hap2 hvaK d1 d2 hlo hleft hone hok hseq
          go_upto_region 12 with (go_at_call 16; refine (kq0 _).mono ?_; rintro e y3 ⟨rfl, rfl⟩)
          go_quiet (first | (go_at_call 16; exact Calls.quiet_of_same (kq0 _)) | (go_at_call 31; exact Calls.quiet_of_same (kla _)))
          have S4 := S3.dn nq
          have hk4 : Jl.KeptB (fun q => K q ∨ q = bx) j w1 (y3.drewN nq) := hk3.trans ⟨Nat.le_refl _, fun _ _ _ => rfl⟩
          have o4 : Jl.Own (y3.drewN nq) w1.heap.size (.slice (some ⟨g3, 0, none⟩) (us'.length + 1) cap3) (us' ++ [u]) := o3.keep fun _ _ => rfl
          have os4 : Jl.Own (y3.drewN nq) w1.heap.size u14 (us'.take s') := os3.keep fun _ _ => rfl
          have hu4 : Blk (y3.drewN nq) x1.heap.size 39 #[.int .i64 u.seq, .int .i64 u.kind, .int .i64 u.id, .string C] := hu3
          generalize y3.drewN nq = x4 at S4 hk4 o4 os4 hu4 ⊢
          clear S3 hk3 o3 os3 hu3 y0 kla hbx3
          have hbx4 := hbl0 hk4
          have cx1 : x4.cell? ⟨bx, 1, none⟩ = some (.int .i64 sy) := hbx4.cell 1
          clear hbx4
          cases hbt : (bits BinOp.and IntKind.i64 (sy / 2 ^ k) 1 == 0) with
          | true =>
            go_wp2_with fail
            go_roundw
            case rel =>
              obtain ⟨d1, d2⟩ := HO2.out
              obtain ⟨hlo, hleft, hone, hok, hlf⟩ := HP2.out
              have hlen := HN2.out
              refine ⟨k + 1, us' ++ [u], s', m2, _, by omega, by go_num, S4.sub (fun r hr => ?_) (.inl (.inl hj1)), hk4, ?_, ?_, two3, d2, by rw [List.length_append, List.length_singleton]; omega, hlo, fun hne => hleft (by omega), fun _ hs1 => ?_⟩
              · rcases hr with hr | hr | hr
                · exact .inl (.inl (.inl hr))
                · exact .inr (Option.some.inj hr).symm
                · exact .inl (.inl (.inr (.inr hr)))
              · exact o4
              · rw [Jl.take_snoc hok.live.sure]
                exact os4
              · rcases Nat.eq_zero_or_pos k with h0 | h0
                · subst h0 hs1
                  exact absurd hbt (by decide)
                · exact hone h0 hs1
            case measure => simp [intOf]; omega
          | false =>
            obtain ⟨d1, d2⟩ := HO2.out
            have hgj : g3 ≠ j := fun e => by have := (o4.lt (k := g3) rfl).1; omega
            have hx1j : x1.heap.size ≠ j := fun e => by omega
            have hvsj : ∀ r, u14.ownBlock = some r → r ≠ j := fun r e ej => by have := (os4.lt e).1; omega
            by_cases hl2 : m2.left = 1
            · obtain ⟨m5, f1, f2, f3, ksy⟩ := Jl.dead_sync d2 hl2
              replace ksy := ksy S4
              have HO3 := Lib.hid (And.intro f2 (And.intro f3 (And.intro d1 (And.intro d2 hl2))))
              clear f2 f3 d1 d2 hl2 HO2
              go_upto_region 16 with (go_at_call 33; refine ksy.mono ?_; clear ksy; rintro e x5 ⟨rfl, S5, K5⟩)
              have hk5 : Jl.KeptB (fun q => K q ∨ q = bx) j w1 x5 := hk4.trans ⟨K5.1, fun r hr hrj => K5.2 r (.inl (.inl (.inl hr))) hrj⟩
              have o5 : Jl.Own x5 w1.heap.size (.slice (some ⟨g3, 0, none⟩) (us'.length + 1) cap3) (us' ++ [u]) := o4.keep fun r e => by
                obtain rfl : g3 = r := Option.some.inj e
                exact K5.2 _ (.inr rfl) hgj
              have os5 : Jl.Own x5 w1.heap.size u14 (us'.take s') := os4.keep fun r e => K5.2 r (.inl (.inl (.inr (.inr e)))) (hvsj r e)
              have kd : Calls Tryd.prog 60 #[.pointer (some ⟨d, 0, none⟩)] x5 fun e w' => e = .returned (.bool m5.off) ∧ w' = x5 := S5.down 0
              rw [f1] at kd
              have hbx5 := hbl0 hk5
              have z20 : x5.cell? ⟨bx, 2, none⟩ = some (.int .i64 ct) := hbx5.cell 2
              have hct1 : 0 < ct := HP2.out.2.1 (by have := HO3.out.2.2.1; have := HO3.out.2.2.2.2; omega)
              have hct2 : decide (0 < ct) = true := decide_eq_true hct1
              have hct3 : decide (ct > 0) = true := hct2
              clear hbx5 hu4 cx1 S4 hk4 o4 os4 K5 kq0
              go_upto_region 17 with (first
                | (go_at_call 16; refine (kn _ _).mono ?_; rintro e y5 ⟨rfl, rfl⟩)
                | (go_at_call 60; refine kd.mono ?_; rintro e y6 ⟨rfl, rfl⟩))
              go_quiet (fail)
              go_wp2_with fail
              refine bodyPost_ret (v := .tuple #[.slice (some ⟨g3, 0, none⟩) (us'.length + 1) cap3, u14, .bool true]) (by simp [results, Tryd.results27, go_sem]) rfl ?_
              obtain ⟨f2, f3, d1, d2, hl2⟩ := HO3.out
              obtain ⟨hlo, hleft, hone, hok, hlf⟩ := HP2.out
              have hlen := HN2.out
              refine ⟨_, _, us' ++ [u], s', m5, _, rfl, hfin (S5.dn nq) (fun r hr => ?_) (hk5.trans ⟨Nat.le_refl _, fun _ _ _ => rfl⟩) (o5.keep fun _ _ => rfl) ?_ f3 ?_ (by rw [List.length_append]; show us'.length + 1 ≤ _; omega) hlo (fun _ b c => by omega)⟩
              · rcases hr with hr | hr | hr
                · exact .inl (.inl (.inl (.inl hr)))
                · exact .inr (Option.some.inj hr).symm
                · exact .inl (.inl (.inr (.inr hr)))
              · rw [Jl.take_snoc hok.live.sure]
                exact os5.keep fun _ _ => rfl
              · have hj2 := d2.js
                rw [f2]
                exact congrArg Jl.Js.age hj2
            · obtain ⟨m5, f1, f2, ksy⟩ := Jl.live_sync d2 hl2
              replace ksy := ksy S4
              have HO3 := Lib.hid (And.intro f1 (And.intro f2 (And.intro d1 (And.intro d2 hl2))))
              clear f1 f2 d1 d2 hl2 HO2
              go_upto_region 16 with (go_at_call 33; refine ksy.mono ?_; clear ksy; rintro e x5 ⟨rfl, S5, K5⟩)
              have hk5 : Jl.KeptB (fun q => K q ∨ q = bx) j w1 x5 := hk4.trans ⟨K5.1, fun r hr hrj => K5.2 r (.inl (.inl (.inl hr))) hrj⟩
              have o5 : Jl.Own x5 w1.heap.size (.slice (some ⟨g3, 0, none⟩) (us'.length + 1) cap3) (us' ++ [u]) := o4.keep fun r e => by
                obtain rfl : g3 = r := Option.some.inj e
                exact K5.2 _ (.inr rfl) hgj
              have hu5 : Blk x5 x1.heap.size 39 #[.int .i64 u.seq, .int .i64 u.kind, .int .i64 u.id, .string C] := (K5.2 _ (.inl (.inr rfl)) hx1j).trans hu4
              have y5 : x5.cell? ⟨x1.heap.size, 0, none⟩ = some (.int .i64 u.seq) := hu5.cell 0
              have ksd : ∀ nq, Calls Tryd.prog 32 #[.pointer (some ⟨j, 0, none⟩)] (x5.drewN nq) fun r w' => r = .returned (.int .i64 u.seq) ∧ w' = x5.drewN nq := fun nq => (Jl.synced_any (S5.dn nq)).mono fun e w' ⟨a, b⟩ => ⟨a, b.symm⟩
              clear hu4 hu5 cx1 S4 hk4 o4 os4 K5
              go_upto_region 18 with (go_at_call 16; refine (kq0 _).mono ?_; rintro e z5 ⟨rfl, rfl⟩)
              go_quiet (first | (go_at_call 16; exact Calls.quiet_of_same (kq0 _)) | (go_at_call 32; exact Calls.quiet_of_same (ksd _)))
              have S6 := S5.dn nq
              have hk6' : Jl.KeptB (fun q => K q ∨ q = bx) j w1 (z5.drewN nq) := hk5.trans ⟨Nat.le_refl _, fun _ _ _ => rfl⟩
              have o6 : Jl.Own (z5.drewN nq) w1.heap.size (.slice (some ⟨g3, 0, none⟩) (us'.length + 1) cap3) (us' ++ [u]) := o5.keep fun _ _ => rfl
              generalize z5.drewN nq = x6 at S6 hk6' o6 ⊢
              clear S5 hk5 o5 y5 ksd
              have hlsn : (us' ++ [u]).length ≤ 1000000 := by rw [List.length_append, List.length_singleton]; have := HU.out; omega
              go_wp2_with (at_builtin; refine Jl.wpList_copy rfl (.tmp 112) rfl rfl (.slice (some ⟨g3, 0, none⟩) (us'.length + 1) cap3) (us' ++ [u]) w1.heap.size (by simp [Act.eval]) o6 hlsn ?_; intro vs7 x7 ov7 g7)
              have b67 := Jl.below_of g7
              have hz67 := b67.size
              have hz6 := hk6'.1
              go_roundw
              case rel =>
                obtain ⟨f1, f2, d1, d2, hl2⟩ := HO3.out
                obtain ⟨hlo, hleft, hone, hok, hlf⟩ := HP2.out
                have hlen := HN2.out
                have hg3 := (o6.lt (k := g3) rfl).2
                refine ⟨k + 1, us' ++ [u], (us' ++ [u]).length, m5, _, by omega, by go_num, (S6.add b67).sub (fun r hr => ?_) (.inl (.inl hj1)), hk6'.trans ⟨hz67, fun r hr hrj => b67.block r (by have := S1lt r hr; omega)⟩, o6.keep (fun r e => b67.block r (o6.lt e).2), ?_, fun r e1 e2 => ?_, f2, by rw [List.length_append, List.length_singleton]; omega, by rw [List.length_append, List.length_singleton]; omega, fun hne => hleft (by omega), fun _ hs1 => by rw [List.length_append, List.length_singleton]; omega⟩
                · rcases hr with hr | hr | hr
                  · exact .inl (.inl (.inl (.inl hr)))
                  · exact .inl (.inr (Option.some.inj hr).symm)
                  · exact .inr (ov7.lt hr)
                · rw [List.take_length]
                  exact ov7.more (by omega)
                · have := (o6.lt e1).2
                  have := (ov7.lt e2).1
                  omega
              case measure => simp [intOf]; omega
      · have u2 : decide ((k : Int) < 60) = false := decide_eq_false (by omega)
        go_wp2_with fail
        refine bodyPost_ret (v := .tuple #[.slice A1 us'.length c1, u14, .bool true]) (by simp [results, Tryd.results27, go_sem]) rfl ?_
        have hage : J'.age = m'.age := by rw [hok.js]
        exact ⟨_, _, us', s', m', J', rfl, hfin hS (fun q hq => hq.elim (fun e => .inl (.inl e)) .inr) hkept hall hsure hok.live hage (by omega) hlo (fun _ b _ => hone (by omega) b)⟩
    · have u1 : decide (k < l.length) = false := decide_eq_false hlt
      go_wp2_with fail
      refine bodyPost_ret (v := .tuple #[.slice A1 us'.length c1, u14, .bool true]) (by simp [results, Tryd.results27, go_sem]) rfl ?_
      have hage : J'.age = m'.age := by rw [hok.js]
      exact ⟨_, _, us', s', m', J', rfl, hfin hS (fun q hq => hq.elim (fun e => .inl (.inl e)) .inr) hkept hall hsure hok.live hage (by omega) hlo (fun a b _ => hone (by omega) b)⟩
end Go.Proofs.YthhkebkpophkiaaDoor
