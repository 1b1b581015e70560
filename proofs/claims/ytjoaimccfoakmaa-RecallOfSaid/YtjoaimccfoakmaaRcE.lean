/- The walk of the law RecallOf. Conditions: each theorem's own hypotheses. -/
import Derived.Test.YtjoaimccfoakmaaRcD
namespace Go.Proofs.Ytjoaimccfoakmaa
open Go.RowKit
set_option linter.unusedVariables false

theorem Keep.init {w : World} {ga gb : Nat} {F G : List Hit} {m m' : Hit} {W : World} (h : Keep w ga gb (F ++ [m]) (G ++ [m']) W) : Keep w ga gb F G W := ⟨h.a.init, h.b.init, h.below⟩

/-- A share's block that was made just ahead of a call stands behind it. -/
theorem share_kept {X x1 : World} {n : Nat} (t : TypeId) (hn : X.heap.size = n) (kB : Below (X.alloc (.cells #[.int .i64 0, .int .i64 0] t)).heap.size (X.alloc (.cells #[.int .i64 0, .int .i64 0] t)) x1) : Blk x1 n t #[.int .i64 0, .int .i64 0] := by
  subst hn
  exact (kB.block _ (by simp)).trans (Blk.new X t _)
theorem share_kept' {X x1 : World} {n : Nat} (t : TypeId) (hn : X.heap.size = n) (kB : Below (X.alloc (.cells #[.int .i64 0, .int .i64 0] t)).drew.heap.size (X.alloc (.cells #[.int .i64 0, .int .i64 0] t)).drew x1) : Blk x1 n t #[.int .i64 0, .int .i64 0] :=
  share_kept t hn (((Below.refl _ _).drew).trans kB)

theorem refOf_out (w : World) (s ga gb : Nat) (F G F' G' : List Hit) (A C : Option Addr) (c d N : Nat) (W : World) (HF : Hs w w.heap.size A F) (HG : Hs w w.heap.size C G) (hf : F.length ≤ 4398046511104) (hg : G.length ≤ 4398046511104) (hN : cntL (ids F) (ids G) G.length = N)
    (hS : W.cell? ⟨s, 0, none⟩ = some (.int .i64 N) ∧ W.cell? ⟨s, 1, none⟩ = some (.int .i64 G.length) ∧ Keep w ga gb F' G' W) :
    Calls Try.prog 7 #[.slice A F.length c, .slice C G.length d] W fun e W' => e = .returned (.agg #[.int .i64 N, .int .i64 G.length]) ∧ W'.cell? ⟨s, 0, none⟩ = some (.int .i64 N) ∧ W'.cell? ⟨s, 1, none⟩ = some (.int .i64 G.length) ∧ Keep w ga gb F' G' W' := by
  obtain ⟨h0, h1, hK⟩ := hS
  rw [← hN]
  rw [← hN] at h0
  have hb := World.block_lt_of_cell? W _ h0
  refine (refOf_any F G A C c d W ((HF.below hK.below).more hK.below.size) ((HG.below hK.below).more hK.below.size) (by omega) (by omega)).mono fun e W' ⟨he, hB⟩ => ⟨he, (hB.cell (p := ⟨s, 0, none⟩) hb).trans h0, (hB.cell (p := ⟨s, 1, none⟩) hb).trans h1, hK.later hB⟩

theorem of_both (w : World) (ga gb gx gy ca cb : Nat) (F G : List Hit) (W : World) (h : Keep w ga gb F G W ∧ Keep w gx gy F G W) (hf : F.length ≤ 4398046511104) (hg : G.length ≤ 4398046511104)
    (hFw : ∀ h ∈ F, (Lit.int .i64 h.id).wf = true) (hGw : ∀ h ∈ G, (Lit.int .i64 h.id).wf = true) (N : Nat) (hN : cntL (ids F) (ids G) G.length = N) :
    Calls Try.prog 5 #[.slice (some ⟨ga, 0, none⟩) F.length ca, .slice (some ⟨gb, 0, none⟩) G.length cb] W fun e W' => e = .returned (.agg #[.int .i64 N, .int .i64 G.length]) ∧ Keep w ga gb F G W' ∧ Keep w gx gy F G W' :=
  (of_held w ga gb ca cb F G W h.1 hf hg hFw hGw N hN).mono fun e W' ⟨he, hK, hB⟩ => ⟨he, hK, h.2.later hB⟩
theorem refOf_both (w : World) (ga gb gx gy ca cb : Nat) (F G : List Hit) (W : World) (h : Keep w ga gb F G W ∧ Keep w gx gy F G W) (hf : F.length ≤ 4398046511104) (hg : G.length ≤ 4398046511104)
    (N : Nat) (hN : cntL (ids F) (ids G) G.length = N) :
    Calls Try.prog 7 #[.slice (some ⟨gx, 0, none⟩) F.length ca, .slice (some ⟨gy, 0, none⟩) G.length cb] W fun e W' => e = .returned (.agg #[.int .i64 N, .int .i64 G.length]) ∧ Keep w ga gb F G W' ∧ Keep w gx gy F G W' :=
  (refOf_held w gx gy ca cb F G W h.2 hf hg N hN).mono fun e W' ⟨he, hK, hB⟩ => ⟨he, h.1.later hB, hK⟩

/-- While the numbers are written over. -/
def Wrote (w : World) (ga gb n m : Nat) (W : World) : Prop :=
  ∃ F G : List Hit, F.length = n ∧ G.length = m ∧ (∀ h ∈ F, (Lit.int .i64 h.id).wf = true) ∧ (∀ h ∈ G, (Lit.int .i64 h.id).wf = true) ∧ Keep w ga gb F G W
def WroteTo (w : World) (ga gb n m top : Nat) (i : Value) (W : World) : Prop := ∃ k : Nat, k ≤ top ∧ i = .int .i64 k ∧ Wrote w ga gb n m W
theorem wf_set {F : List Hit} (h : ∀ x ∈ F, (Lit.int .i64 x.id).wf = true) (k : Nat) (y : Hit) (hy : (Lit.int .i64 y.id).wf = true) : ∀ x ∈ F.set k y, (Lit.int .i64 x.id).wf = true := by
  intro x hx
  rcases List.mem_or_eq_of_mem_set hx with h1 | h1
  · exact h x h1
  · rw [h1]; exact hy

set_option maxRecDepth 100000 in
set_option maxHeartbeats 4000000 in
theorem recallOf_walk (F G : List Hit) (A C : Option Addr) (c d : Nat) (w : World) (HF : Hs w w.heap.size A F) (HG : Hs w w.heap.size C G) (hA : A = none → c = 0 ∧ F = []) (hC : C = none → d = 0 ∧ G = [])
    (hf : (F.length + 1) * 32 ≤ 140737488355328) (hg : (G.length + 1) * 32 ≤ 140737488355328) (hFw : ∀ h ∈ F, (Lit.int .i64 h.id).wf = true) (hGw : ∀ h ∈ G, (Lit.int .i64 h.id).wf = true) :
    Calls Try.prog 3 #[.slice A F.length c, .slice C G.length d] w fun e w' => e = .returned (.bool true) ∧ Below w.heap.size w w' := by
  obtain ⟨N, hN⟩ : ∃ N, cntL (ids F) (ids G) G.length = N := ⟨_, rfl⟩
  have HN := Lib.hid hN
  have HA := Lib.hid hA
  have HC := Lib.hid hC
  clear hN hA hC
  go_enter Try.func3, Try.ntmps3
  go_wp2_with fail
  refine (twin_any F A c _ HF HA.out hf).mono ?_
  rintro e x1 ⟨⟨ga, ca, rfl, oa⟩, B1⟩
  have oac := oa.cap
  have oal := oa.lt
  have Ra := Row.of_own oa
  rw [List.length_append] at oac
  simp only [List.length_cons, List.length_nil] at oac
  clear oa
  go_wp2_with fail
  refine (twin_any G C d _ ((HG.below B1).more B1.size) HC.out hg).mono ?_
  rintro e x2 ⟨⟨gb, cb, rfl, ob⟩, B2⟩
  have obc := ob.cap
  have obl := ob.lt
  have Rb := Row.of_own ob
  rw [List.length_append] at obc
  simp only [List.length_cons, List.length_nil] at obc
  have K2 : Keep w ga gb (F ++ [mark]) (G ++ [mark]) x2 := ⟨Ra.below B2 Ra.lt, Rb, B1.trans (B2.mono B1.size)⟩
  have hab : ga < gb := by omega
  have haw : w.heap.size ≤ ga := oal.1
  have ha0 : (0 : Int) ≤ (F.length : Int) := by omega
  have ha1 : (F.length : Int) ≤ (ca : Int) := by omega
  have hb0 : (0 : Int) ≤ (G.length : Int) := by omega
  have hb1 : (G.length : Int) ≤ (cb : Int) := by omega
  have x2s : gb < x2.heap.size := obl.2
  clear ob Ra Rb B1 B2
  go_upto_region 5 with fail
  go_cut [9] (fun p W => ∃ s : Nat, p = .pointer (some ⟨s, 0, none⟩) ∧ Blk W s 25 #[.int .i64 N, .int .i64 G.length] ∧ Keep w ga gb (F ++ [mark]) (G ++ [mark]) W ∧ gb < s)
  case first =>
    go_region_held3 (fun W' => Keep w ga gb (F ++ [mark]) (G ++ [mark]) W')
      (first
        | with_reducible assumption
        | with_reducible exact Keep.drew (by with_reducible assumption)
        | with_reducible exact Keep.alloc (by with_reducible assumption) _
        | with_reducible exact Keep.adrew (by with_reducible assumption) _
        | (with_reducible refine Keep.set_ (Keep.set_ (by with_reducible assumption) _ ?_ ?_ ?_) _ ?_ ?_ ?_ <;> simp <;> omega))
      (first
        | (go_at_call 5; refine (of_held w ga gb ca cb F G _ (Keep.init (by with_reducible assumption)) (by omega) (by omega) hFw hGw N HN.out).mono ?_; rintro e x3 ⟨rfl, _, kB⟩; have kS := Keep.later (F := F ++ [mark]) (G := G ++ [mark]) (by with_reducible assumption) kB; (try ((first | have kk := share_kept (n := x2.heap.size) _ rfl kB | have kk := share_kept' (n := x2.heap.size) _ rfl kB); have k0 := kk.cell 0; have k1 := kk.cell 1; have f0 := kk.frozen 0; have f1 := kk.frozen 1; simp only [List.getElem?_toArray, List.getElem?_cons_zero, List.getElem?_cons_succ] at k0 k1))))
    all_goals
      go_wp2_with fail
      go_meet
      first
        | with_reducible exact ⟨_, rfl, Blk.new _ _ _, by with_reducible assumption, kS.b.lt⟩
        | with_reducible exact ⟨_, rfl, (kk.set_ 0 _).set_ 1 _, by with_reducible assumption, x2s⟩
  case rest =>
    obtain ⟨s, rfl, hs, KW, hbs⟩ := hcut
    clear x2s K2
    have hFs : Hs wc w.heap.size A F := HF.below KW.below
    have hGs : Hs wc w.heap.size C G := HG.below KW.below
    have hs1 := KW.below.size
    go_wp2_with fail
    refine (whole_any F A _ c ca wc.heap.size wc (hFs.more hs1) KW.a.hs (by omega)).mono ?_
    rintro e x4 ⟨rfl, n4, rfl⟩
    go_wp2_with fail
    refine (whole_any G C _ d cb wc.heap.size (wc.drewN n4) (hGs.more hs1) KW.b.hs (by omega)).mono ?_
    rintro e x5 ⟨rfl, n5, rfl⟩
    go_wp2_with fail
    go_cut [49] (fun b W => b = .bool false ∧ Keep w ga gb (F ++ [mark]) (G ++ [mark]) W)
    case first =>
      have z0 := hs.cell 0
      have z1 := hs.cell 1
      simp only [List.getElem?_toArray, List.getElem?_cons_zero, List.getElem?_cons_succ] at z0 z1
      go_region_held3 (fun W' => W'.cell? ⟨s, 0, none⟩ = some (.int .i64 N) ∧ W'.cell? ⟨s, 1, none⟩ = some (.int .i64 G.length) ∧ Keep w ga gb (F ++ [mark]) (G ++ [mark]) W')
        (first
          | with_reducible assumption
          | exact ⟨z0, z1, KW.later ⟨rfl, rfl, rfl, Nat.le_refl _, fun _ _ => rfl⟩⟩)
        (first
          | (go_at_call 7; refine (refOf_out w s ga gb F G (F ++ [mark]) (G ++ [mark]) A C c d N _ HF HG (by omega) (by omega) HN.out (by first | with_reducible assumption | exact ⟨z0, z1, KW.later ⟨rfl, rfl, rfl, Nat.le_refl _, fun _ _ => rfl⟩⟩)).mono ?_; rintro e x6 ⟨rfl, kS⟩))
      all_goals
        go_wp2_with fail
        go_meet
        first
          | with_reducible exact ⟨rfl, kS.2.2⟩
          | (trace_state; sorry)
    case rest =>
      obtain ⟨rfl, K3⟩ := hcut
      clear hs KW hFs hGs hs1
      have W3 : Wrote w ga gb F.length G.length wc := ⟨F, G, rfl, rfl, hFw, hGw, K3.init⟩
      clear K3
      go_wp2_with fail
      go_loopw [12] (fun i W => WroteTo w ga gb F.length G.length F.length i W) (fun i _ => F.length - (intOf i).toNat)
      case atStart => exact ⟨0, Nat.zero_le _, rfl, W3⟩
      case round =>
        obtain ⟨k, hk, rfl, F1, G1, l1, l2, wf1, wf2, K1⟩ := hrel
        have L1 := Lib.hid l1
        have L2 := Lib.hid l2
        by_cases hlt : k < F.length
        · have hj : F1[k]? = some F1[k] := List.getElem?_eq_getElem (by omega)
          obtain ⟨h, hh⟩ : ∃ h, F1[k] = h := ⟨_, rfl⟩
          rw [hh] at hj
          have HJ := Lib.hid hj
          have e1 := (K1.a.at_ k h hj).2.1
          have f1 := K1.a.free (k * 3 + 1)
          have hlt' : (k : Int) < (F.length : Int) + 1 := by omega
          clear hj hh l1 l2
          go_wp2_with fail
          go_roundw
          case rel =>
            exact ⟨k + 1, by omega, by go_num, F1.set k ⟨h.dist, _, h.code⟩, G1, by rw [List.length_set]; exact L1.out, L2.out, wf_set wf1 _ _ (show (Lit.int .i64 ((k : Int) % 3)).wf = true from WalkArith.wf_i64 (by omega)), wf2, K1.a.set_ HJ.out _, K1.b.far (by simp; omega) _, K1.below.setCell (by simp; omega) _⟩
          case measure => simp [intOf]; omega
        · clear l1 l2
          obtain ⟨wo, rfl⟩ : ∃ wo : World, wo = wr := ⟨_, rfl⟩
          have W4 : Wrote w ga gb F.length G.length wo := ⟨F1, G1, L1.out, L2.out, wf1, wf2, K1⟩
          clear wf1 wf2 K1 L1 L2
          go_wp2_with fail
          go_loopw [13] (fun i W => WroteTo w ga gb F.length G.length G.length i W) (fun i _ => G.length - (intOf i).toNat)
          case atStart => exact ⟨0, Nat.zero_le _, rfl, W4⟩
          case round =>
            obtain ⟨k, hk, rfl, F1, G1, l1, l2, wf1, wf2, K1⟩ := hrel
            have L1 := Lib.hid l1
            have L2 := Lib.hid l2
            by_cases hlt : k < G.length
            · have hj : G1[k]? = some G1[k] := List.getElem?_eq_getElem (by omega)
              obtain ⟨h, hh⟩ : ∃ h, G1[k] = h := ⟨_, rfl⟩
              rw [hh] at hj
              have HJ := Lib.hid hj
              have e1 := (K1.b.at_ k h hj).2.1
              have f1 := K1.b.free (k * 3 + 1)
              have hlt' : (k : Int) < (G.length : Int) + 1 := by omega
              clear hj hh l1 l2
              go_wp2_with fail
              go_roundw
              case rel =>
                exact ⟨k + 1, by omega, by go_num, F1, G1.set k ⟨h.dist, _, h.code⟩, L1.out, by rw [List.length_set]; exact L2.out, wf1, wf_set wf2 _ _ (show (Lit.int .i64 (1 + (k : Int) % 3)).wf = true from WalkArith.wf_i64 (by omega)), K1.a.far (by simp; omega) _, K1.b.set_ HJ.out _, K1.below.setCell (by simp; omega) _⟩
              case measure => simp [intOf]; omega
            · clear HN
              obtain ⟨N, hN⟩ : ∃ N, cntL (ids F1) (ids G1) G1.length = N := ⟨_, rfl⟩
              have HN := Lib.hid hN
              clear hN
              rw [← l1] at ha0 ha1 hf ⊢
              rw [← l2] at hb0 hb1 hg hk hlt ⊢
              clear l1 l2
              go_wp2_with fail
              refine (twin_any F1 (some ⟨ga, 0, none⟩) ca _ K1.a.hs (fun h => by cases h) hf).mono ?_
              rintro e x6 ⟨⟨gx, cx, rfl, ox⟩, B6⟩
              have oxc := ox.cap
              have oxl := ox.lt
              have Rx := Row.of_own ox
              rw [List.length_append] at oxc
              simp only [List.length_cons, List.length_nil] at oxc
              have K6 := K1.later B6
              clear ox K1
              go_wp2_with fail
              refine (twin_any G1 (some ⟨gb, 0, none⟩) cb _ K6.b.hs (fun h => by cases h) hg).mono ?_
              rintro e x7 ⟨⟨gy, cy, rfl, oy⟩, B7⟩
              have oyc := oy.cap
              have oyl := oy.lt
              have Ry := Row.of_own oy
              rw [List.length_append] at oyc
              simp only [List.length_cons, List.length_nil] at oyc
              have K7 : Keep w ga gb F1 G1 x7 ∧ Keep w gx gy F1 G1 x7 := ⟨K6.later B7, (Rx.below B7 Rx.lt).init, Ry.init, (K6.later B7).below⟩
              have hx0 : (0 : Int) ≤ (F1.length : Int) := by omega
              have hx1 : (F1.length : Int) ≤ (cx : Int) := by omega
              have hy1 : (G1.length : Int) ≤ (cy : Int) := by omega
              clear oy K6 Rx Ry B6 B7
              go_wp2_with fail
              have KD : Keep w ga gb F1 G1 x7.drew ∧ Keep w gx gy F1 G1 x7.drew := ⟨K7.1.drew, K7.2.drew⟩
              go_region_held3 (fun W' => Keep w ga gb F1 G1 W' ∧ Keep w gx gy F1 G1 W')
                (with_reducible assumption)
                (first
                  | (go_at_call 5; refine (of_both w ga gb gx gy ca cb F1 G1 _ (by with_reducible assumption) (by omega) (by omega) wf1 wf2 N HN.out).mono ?_; rintro e x8 ⟨rfl, kS⟩)
                  | (go_at_call 7; refine (refOf_both w ga gb gx gy cx cy F1 G1 _ (by with_reducible assumption) (by omega) (by omega) N HN.out).mono ?_; rintro e x9 ⟨rfl, kR⟩))
              all_goals
                go_wp2_with fail
                go_ret
                first
                  | exact ⟨rfl, kR.1.below⟩
                  | exact ⟨rfl, kS.1.below⟩
end Go.Proofs.Ytjoaimccfoakmaa
