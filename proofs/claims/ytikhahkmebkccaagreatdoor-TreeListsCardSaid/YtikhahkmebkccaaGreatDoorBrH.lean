/- The document's tree: within, the walk. Conditions: each theorem's own hypotheses. -/
import Derived.Test.YtikhahkmebkccaaGreatDoorBrG
import Derived.Deep.DeepCutAuto
namespace Go.Proofs.YtikhahkmebkccaaGreatDoor
open Go.RowKit Go.Maps Go.Sort Go.Shelf
set_option linter.unusedVariables false
set_option linter.unusedSimpArgs false

set_option maxRecDepth 100000 in
set_option maxHeartbeats 8000000 in
theorem Br.within_rec {W0 : World} {t : Nat} {T : Bk.T} {A : Option Addr} {cap : Nat} (hS : Br.St W0 t T A cap) (hG : Bk.Good T.w T.l) (hwide : 64 ≤ T.w) (hw : T.w ≤ 1024) (hl : T.l.length ≤ 4398046511104) (q : ByteArray) (hq : q.size = T.w / 8) (R : Nat) (hR : R ≤ T.w) :
    ∀ f i, T.l.length - i < f → i < T.l.length → ∀ s v W, Br.Sx W0 t T A cap (Br.PW R) s v W → (Bk.V T.w T.l q.data.toList (fun _ => R) i s).1.length ≤ T.l.length →
      Calls Tryz.prog 45 #[.pointer (some ⟨t, 0, none⟩), .int .i64 (i : Nat), .string q, .int .i64 (R : Nat), v] W fun e W' => ∃ v', e = .returned v' ∧ Br.Sx W0 t T A cap (Br.PW R) (Bk.V T.w T.l q.data.toList (fun _ => R) i s) v' W' := by
  intro f
  induction f with
  | zero => intro i h; omega
  | succ f ih =>
    intro i hfi hil s v W hx hlen
    rw [Br.V_up _ _ _ _ _ hG] at hlen ⊢
    obtain ⟨n, hn⟩ : ∃ n, T.l[i]? = some n := ⟨_, List.getElem?_eq_getElem hil⟩
    obtain ⟨xb, hxb, hxs⟩ := Tx.of n.code
    have hsz : xb.size = q.size := by rw [hxs, hG.len n (List.mem_of_getElem? hn), hq]
    have hfl := Bk.far_le n.code q.data.toList
    rw [← hxs] at hfl
    have hcd := Bk.code_at hn
    have hlv := Bk.liveAt_at hn
    obtain ⟨d, hd⟩ : ∃ d, Bk.far n.code q.data.toList = d := ⟨_, rfl⟩
    rw [hd] at hfl
    have hdw : d ≤ T.w := by omega
    have hd1024 : d ≤ 1024 := by omega
    obtain ⟨s1, hs1⟩ : ∃ s1, Bk.look T.l q.data.toList i s = s1 := ⟨_, rfl⟩
    have hlook : s1 = (if n.live = true then s.1 ++ [⟨d, n.code⟩] else s.1, s.2 + 1) := by rw [← hs1]; unfold Bk.look; rw [hlv, hcd, hd]
    rw [hs1] at hlen ⊢
    have hlen1 : s1.1.length ≤ T.l.length := Nat.le_trans (by have := Br.up_mono T.w T.l q.data.toList (fun _ => R) i s1 (Nat.zero_le (T.w + 1)); exact this) hlen
    have hfar : Bk.far (Bk.code T.l i) q.data.toList = d := by rw [hcd, hd]
    have hst : ∀ e k, Bk.child T.l i e = some k → d ≤ e + R → e ≤ d + R → ∀ s, Br.st T.w T.l q.data.toList (fun _ => R) i s e = Bk.V T.w T.l q.data.toList (fun _ => R) k s := fun e k hc h1 h2 s => by
      unfold Br.st
      rw [hc, hfar]
      simp only
      rw [if_pos (by unfold Bk.near; rw [decide_eq_true h1, decide_eq_true h2]; rfl)]
    have hsn : ∀ e, Bk.child T.l i e = none → ∀ s, Br.st T.w T.l q.data.toList (fun _ => R) i s e = s := fun e hc s => by unfold Br.st; rw [hc]
    have hsf : ∀ e, ¬ (d ≤ e + R ∧ e ≤ d + R) → ∀ s, Br.st T.w T.l q.data.toList (fun _ => R) i s e = s := fun e h s => by
      unfold Br.st
      split
      · rfl
      · rw [hfar, if_neg (by unfold Bk.near; simpa using h)]
    obtain ⟨Av, cv, rfl⟩ := Bk.row_form hx.row
    obtain ⟨g, rfl, hg1, hg2, d0, d1, -, -⟩ := Br.row_at (hx.nodes hS) hn
    rw [Tx.v_eq hxb] at d0
    have t0 := (hx.st hS).t0
    have t1 := (hx.st hS).t1
    have t2 := (hx.st hS).t2
    have ft := hx.tree.frozen 2
    have hgt : g ≠ t := hS.off g rfl
    have hsee := hx.seen hS
    have hwr := Bk.w64_succ s.2
    have hHyp := Lib.hid (And.intro hG (And.intro hn (And.intro hs1 (And.intro hlook (And.intro hlen (And.intro hst (And.intro hsn (And.intro hsf (And.intro hcd (And.intro hfar hxb))))))))))
    have IH := Lib.hid ih
    clear ih hG hn hs1 hlook hlen hst hsn hsf hcd hfar hxb hlv hd
    simp only at t2
    generalize Bk.w64 s.2 = y0 at t2 hwr
    obtain ⟨y1, hy1⟩ : ∃ y1, Bk.w64 (s.2 + 1) = y1 := ⟨_, rfl⟩
    rw [hy1] at hwr hsee
    have HX := Lib.hid (And.intro hsee hy1)
    clear hsee hy1 hx
    go_enter Tryz.func45, Tryz.ntmps45
    go_upto_region 2 with fail
    generalize W.setCell ⟨t, 2, none⟩ (.int .i64 y1) = W1 at *
    have x1 := HX.out.1
    have e0 := (x1.st hS).t0
    have e1 := (x1.st hS).t1
    obtain ⟨g', hg', -, -, b0, b1, -, -⟩ := Br.row_at (x1.nodes hS) hHyp.out.2.1
    obtain rfl : g = g' := by injection hg' with e; injection e
    rw [Tx.v_eq hHyp.out.2.2.2.2.2.2.2.2.2.2] at b0
    clear t0 t1 t2 ft d0 d1 hwr hg'
    simp only at e0 e1
    have kf := Br.far_any xb q hsz (by omega) W1
    rw [hHyp.out.2.2.2.2.2.2.2.2.2.2, ← hHyp.out.2.2.2.2.2.2.2.2.1, hHyp.out.2.2.2.2.2.2.2.2.2.1] at kf
    have HX1 := Lib.hid x1
    clear x1
    go_upto_region 3 with (go_at_call 57; refine kf.mono ?_; clear kf; rintro e w2 ⟨rfl, rfl⟩)
    obtain ⟨lv, hlv⟩ : ∃ lv, n.live = lv := ⟨_, rfl⟩
    rw [hlv] at b1
    go_cut [44] (fun v X => ∃ b : Bool, v = .bool b ∧ (b = true ↔ lv = true ∧ d ≤ R) ∧ W1 = X)
    case first =>
      cases lv with
      | true =>
        by_cases hdR : d ≤ R
        · have u1 : decide (d ≤ R) = true := decide_eq_true hdR
          go_wp2_with fail
          go_meet
          exact ⟨_, rfl, by simp [hdR], rfl⟩
        · have u1 : decide (d ≤ R) = false := decide_eq_false hdR
          go_wp2_with fail
          go_meet
          exact ⟨_, rfl, by simp [hdR], rfl⟩
      | false =>
        go_wp2_with fail
        go_meet
        exact ⟨_, rfl, by simp, rfl⟩
    case rest =>
    obtain ⟨b, rfl, hbb, rfl⟩ := hcut
    go_upto_if 44 with fail
    go_cut [4] (fun v X => ∃ Av cv W2, v = .slice Av (Br.PW R s1.1).length cv ∧ W2 = X ∧ Br.Sx W0 t T (some ⟨g, 0, none⟩) cap (Br.PW R) s1 (.slice Av (Br.PW R s1.1).length cv) W2)
    case first =>
      cases b with
      | true =>
        obtain ⟨rfl, hdR⟩ := hbb.1 rfl
        have hs1 : s1 = (s.1 ++ [⟨d, n.code⟩], s.2 + 1) := by rw [hHyp.out.2.2.2.1, if_pos hlv]
        have hpl := Br.PW_len R s.1
        have hsl : s.1.length + 1 ≤ T.l.length := by have := hlen1; rw [hs1, List.length_append] at this; exact this
        have kp := Br.put_any HX1.out.row HX1.out.only.size (Bk.sortH_sorted _) (by have h2 : (Br.PW R s.1).length ≤ _ := hpl; show (Br.PW R s.1).length ≤ _; omega) d hd1024 xb
        have hput : Br.PW R s1.1 = Bk.sortH (Br.PW R s.1 ++ [⟨d, xb.data.toList⟩]) := by rw [hs1, hHyp.out.2.2.2.2.2.2.2.2.2.2]; exact Br.PW_put R s.1 ⟨d, n.code⟩ hdR
        have HP := Lib.hid (And.intro hput hs1)
        clear hput hs1 hpl hsl hbb
        go_wp2_with (go_at_call 59; refine kp.mono ?_; clear kp; rintro e w3 ⟨v3, rfl, hb3, hr3⟩)
        go_meet
        obtain ⟨p1, p2⟩ := HP.out
        have hrow : w3.ownsRow W0.heap.size 61 3 v3 (Br.PW R s1.1).length (Bk.hcs (Br.PW R s1.1)) := by rw [p1]; exact hr3
        obtain ⟨A3, c3, rfl⟩ := Bk.row_form hrow
        have x3 := HX1.out.hit hS hb3 (F' := s1.1) hrow
        exact ⟨A3, c3, w3, rfl, rfl, by
          have e9 : (s1.1, (s.1, s.2 + 1).2) = s1 := by rw [p2]
          rw [e9] at x3
          exact x3⟩
      | false =>
        have hpw : Br.PW R s1.1 = Br.PW R s.1 ∧ s1.2 = s.2 + 1 := by
          rw [hHyp.out.2.2.2.1]
          by_cases hl9 : n.live = true
          · rw [if_pos hl9]
            refine ⟨Br.PW_skip R s.1 _ fun h9 => ?_, rfl⟩
            have := hbb.2 ⟨hlv.symm.trans hl9, h9⟩
            cases this
          · rw [if_neg hl9]; exact ⟨rfl, rfl⟩
        have HP := Lib.hid hpw
        clear hpw hbb
        go_wp2_with fail
        go_meet
        obtain ⟨p1, p2⟩ := HP.out
        have x3 := HX1.out.same (F' := s1.1) p1
        refine ⟨Av, cv, _, by rw [p1], rfl, ?_⟩
        have e9 : (s1.1, (s.1, s.2 + 1).2) = s1 := Prod.ext rfl p2.symm
        rw [e9, ← p1] at x3
        exact x3
    case rest =>
    obtain ⟨Av2, cv2, W2, rfl, rfl, x2⟩ := hcut
    have HX2 := Lib.hid x2
    clear x2 hbb b0 b1 e0 e1 HX1 HX
    go_upto_region 5 with fail
    obtain ⟨e0, he0⟩ : ∃ e0 : Nat, e0 = max 1 (d - R) := ⟨_, rfl⟩
    go_cut [12] (fun v X => v = .int .i64 (e0 : Nat) ∧ W2 = X)
    case first =>
      by_cases hdr : d ≤ R + 1
      · have e01 : e0 = 1 := by omega
        subst e01
        clear he0
        go_wp2_with fail
        all_goals
          go_meet
          exact ⟨congrArg (Value.int .i64) (by omega), rfl⟩
      · have e01 : (e0 : Int) = (d : Int) - (R : Int) := by omega
        have HE := Lib.hid e01
        clear he0 e01
        go_wp2_with fail
        all_goals
          go_meet
          exact ⟨congrArg (Value.int .i64) (by have := HE.out; omega), rfl⟩
    case rest =>
    obtain ⟨rfl, rfl⟩ := hcut
    go_upto_region 6 with fail
    have hup0 : Br.up T.w T.l q.data.toList (fun _ => R) i s1 e0 = s1 := by
      rw [Br.up_idle _ _ _ _ _ _ (Nat.zero_le e0) fun e _ he s => ?_]
      · rfl
      · by_cases h0 : e = 0
        · subst h0
          exact hHyp.out.2.2.2.2.2.2.1 0 (Br.child_zero _ _ _ hHyp.out.1) s
        · exact hHyp.out.2.2.2.2.2.2.2.1 e (fun h => by omega) s
    have HU := Lib.hid (And.intro hup0 he0)
    have he0b : e0 ≤ d + R + 1 ∧ e0 ≤ T.w + 1 ∧ 1 ≤ e0 ∧ d ≤ e0 + R := by omega
    clear hup0 he0
    go_loopg [4, 12] (d + R + 1 - e0) (fun m v ev wr => ∃ (e : Nat) (Av : Option Addr) (cv : Nat), ev = .int .i64 (e : Nat) ∧ v = .slice Av (Br.PW R (Br.up T.w T.l q.data.toList (fun _ => R) i s1 e).1).length cv ∧ m = d + R + 1 - e ∧ e0 ≤ e ∧ e ≤ d + R + 1 ∧ e ≤ T.w + 1 ∧ Hid (Br.Sx W0 t T (some ⟨g, 0, none⟩) cap (Br.PW R) (Br.up T.w T.l q.data.toList (fun _ => R) i s1 e) (.slice Av (Br.PW R (Br.up T.w T.l q.data.toList (fun _ => R) i s1 e).1).length cv) wr))
    case atStart => exact ⟨e0, Av2, cv2, rfl, by rw [HU.out.1], rfl, Nat.le_refl _, he0b.1, he0b.2.1, by rw [HU.out.1]; exact HX2⟩
    case round =>
      clear HX2
      obtain ⟨e, Av3, cv3, rfl, rfl, hm, hge, hle1, hle2, hx3⟩ := hrel
      have q0 := (hx3.out.st hS).t0
      simp only at q0
      obtain ⟨u, hu⟩ : ∃ u, Br.up T.w T.l q.data.toList (fun _ => R) i s1 e = u := ⟨_, rfl⟩
      rw [hu] at hx3 ⊢
      have HUe := Lib.hid hu
      clear hu
      by_cases h1 : e ≤ d + R
      · have u1 : decide (e ≤ d + R) = true := decide_eq_true h1
        by_cases h2 : e ≤ T.w
        · have u2 : decide (e ≤ T.w) = true := decide_eq_true h2
          have kc := Br.child_any (hx3.out.at' hS) (show T.l.length ≤ 4398046511104 by omega) i e
          have hnr : d ≤ e + R := by omega
          have hsucc := Br.up_succ T.w T.l q.data.toList (fun _ => R) i s1 e
          rw [HUe.out] at hsucc
          simp only at kc
          cases hc : Bk.child T.l i e with
          | none =>
            rw [hc] at kc
            unfold Br.idx at kc
            rw [hHyp.out.2.2.2.2.2.2.1 e hc] at hsucc
            have HN := Lib.hid hsucc
            have u3 : decide ((0 : Int) ≤ -1) = false := by decide
            clear hsucc hc
            go_wp2_with (go_at_call 58; refine kc.mono ?_; clear kc; rintro r w4 ⟨rfl, rfl⟩)
            go_roundg (d + R + 1 - (e + 1))
            case measure => omega
            case rel => exact ⟨e + 1, Av3, cv3, congrArg (Value.int .i64) (by omega), by rw [HN.out], rfl, by omega, by omega, by omega, by rw [HN.out]; exact hx3⟩
          | some k =>
            rw [hc] at kc
            unfold Br.idx at kc
            obtain ⟨k1, k2⟩ := hHyp.out.1.child_lt hc
            rw [hHyp.out.2.2.2.2.2.1 e k hc hnr h1] at hsucc
            have hmono := Br.up_mono T.w T.l q.data.toList (fun _ => R) i s1 (show e + 1 ≤ T.w + 1 by omega)
            have hbnd := hHyp.out.2.2.2.2.1
            rw [hsucc] at hmono
            have kr := IH.out k (by omega) k2 u _ wr hx3.out (Nat.le_trans hmono hbnd)
            obtain ⟨u9, hu9⟩ : ∃ u9, Bk.V T.w T.l q.data.toList (fun _ => R) k u = u9 := ⟨_, rfl⟩
            rw [hu9] at kr hsucc
            have HN := Lib.hid hsucc
            have u3 : decide ((0 : Int) ≤ (k : Int)) = true := decide_eq_true (by omega)
            clear hsucc hc hu9 hmono hbnd
            go_wp2_with (first | (go_at_call 58; refine kc.mono ?_; clear kc; rintro r w4 ⟨rfl, rfl⟩) | (go_at_call 45; refine kr.mono ?_; clear kr; rintro r w5 ⟨v5, rfl, hx5⟩; obtain ⟨A5, c5, rfl⟩ := Bk.row_form hx5.row))
            go_roundg (d + R + 1 - (e + 1))
            case measure => omega
            case rel => exact ⟨e + 1, A5, c5, congrArg (Value.int .i64) (by omega), by rw [HN.out], rfl, by omega, by omega, by omega, by rw [HN.out]; exact Lib.hid hx5⟩
        · have u2 : decide (e ≤ T.w) = false := decide_eq_false h2
          have hee : e = T.w + 1 := by omega
          have HE := Lib.hid hee
          clear hee h2
          go_wp2_with fail
          go_ret
          rw [← HE.out, HUe.out]
          exact ⟨_, rfl, hx3.out⟩
      · have u1 : decide (e ≤ d + R) = false := decide_eq_false h1
        go_wp2_with fail
        go_ret
        rw [Br.up_idle _ _ _ _ _ _ hle2 fun e' h1' h2' s => hHyp.out.2.2.2.2.2.2.2.1 e' (fun h => by omega) s, HUe.out]
        exact ⟨_, rfl, hx3.out⟩
end Go.Proofs.YtikhahkmebkccaaGreatDoor
