/- The document's tree: nearest, the walk. Conditions: each theorem's own hypotheses. -/
import Derived.Test.YtikhahkmebkccaaGreatDoorBrI
namespace Go.Proofs.YtikhahkmebkccaaGreatDoor
open Go.RowKit Go.Maps Go.Sort Go.Shelf
set_option linter.unusedVariables false
set_option linter.unusedSimpArgs false

section
variable {w : Nat} {l : List Bk.N} {q : List UInt8} {r : List Bk.H → Nat}
theorem Br.look_far (h : Bk.Good w l) (hw : 8 ≤ w) (i : Nat) (s : List Bk.H × Nat) (hs : ∀ x ∈ s.1, x.d ≤ w) : ∀ x ∈ (Bk.look l q i s).1, x.d ≤ w := by
  unfold Bk.look
  intro x hx
  split at hx
  · rcases List.mem_append.1 hx with hx | hx
    · exact hs x hx
    · rw [List.mem_singleton] at hx
      subst hx
      show Bk.far (Bk.code l i) q ≤ w
      have h1 := Bk.far_le (Bk.code l i) q
      have h2 : (Bk.code l i).length ≤ w / 8 := by
        unfold Bk.code
        cases hn : l[i]? with
        | none => simp
        | some n => exact Nat.le_of_eq (h.len n (List.mem_of_getElem? hn))
      omega
  · exact hs x hx
theorem Br.visit_far (h : Bk.Good w l) (hw : 8 ≤ w) : ∀ f i s, (∀ x ∈ s.1, x.d ≤ w) → ∀ x ∈ (Bk.visit w l q r f i s).1, x.d ≤ w
  | 0, _, _, hs => hs
  | f + 1, i, s, hs => by
    have hf : ∀ (L : List (Nat × Nat)) (s : List Bk.H × Nat), (∀ x ∈ s.1, x.d ≤ w) → ∀ x ∈ (L.foldl (fun s ec => if Bk.near (Bk.far (Bk.code l i) q) ec.1 (r s.1) = true then Bk.visit w l q r f ec.2 s else s) s).1, x.d ≤ w := by
      intro L
      induction L with
      | nil => exact fun s hs => hs
      | cons y L ih =>
        intro s hs
        rw [List.foldl_cons]
        refine ih _ ?_
        split
        · exact Br.visit_far h hw f y.2 s hs
        · exact hs
    unfold Bk.visit
    exact hf _ _ (Br.look_far h hw i s hs)
theorem Br.up_far (h : Bk.Good w l) (hw : 8 ≤ w) (i : Nat) (s : List Bk.H × Nat) (hs : ∀ x ∈ s.1, x.d ≤ w) : ∀ n, ∀ x ∈ (Br.up w l q r i s n).1, x.d ≤ w
  | 0 => hs
  | n + 1 => by
    have ih := Br.up_far h hw i s hs n
    rw [Br.up_succ]
    unfold Br.st
    split
    · exact ih
    · split
      · exact Br.visit_far h hw _ _ _ ih
      · exact ih
end
set_option maxRecDepth 100000 in
set_option maxHeartbeats 8000000 in
theorem Br.nearest_rec {W0 : World} {t : Nat} {T : Bk.T} {A : Option Addr} {cap : Nat} (hS : Br.St W0 t T A cap) (hG : Bk.Good T.w T.l) (hwide : 64 ≤ T.w) (hw : T.w ≤ 1024) (hl : T.l.length ≤ 4398046511104) (q : ByteArray) (hq : q.size = T.w / 8) (K : Nat) (hK : 1 ≤ K) (hK2 : K ≤ 4096) :
    ∀ f i, T.l.length - i < f → i < T.l.length → ∀ s v W, Br.Sx W0 t T A cap Bk.sortH s v W → (∀ x ∈ s.1, x.d ≤ T.w) → (Bk.V T.w T.l q.data.toList (fun F => Bk.down K F T.w) i s).1.length ≤ T.l.length →
      Calls Tryz.prog 46 #[.pointer (some ⟨t, 0, none⟩), .int .i64 (i : Nat), .string q, .int .i64 (K : Nat), v] W fun e W' => ∃ v', e = .returned v' ∧ Br.Sx W0 t T A cap Bk.sortH (Bk.V T.w T.l q.data.toList (fun F => Bk.down K F T.w) i s) v' W' := by
  intro f
  induction f with
  | zero => intro i h; omega
  | succ f ih =>
    intro i hfi hil s v W hx hsf0 hlen
    have hlf := Br.look_far (q := q.data.toList) hG (by omega) i s hsf0
    rw [Br.V_up _ _ _ _ _ hG] at hlen ⊢
    obtain ⟨n, hn⟩ : ∃ n, T.l[i]? = some n := ⟨_, List.getElem?_eq_getElem hil⟩
    obtain ⟨xb, hxb, hxs⟩ := Tx.of n.code
    have hsz : xb.size = q.size := by rw [hxs, hG.len n (List.mem_of_getElem? hn), hq]
    have hfl := Bk.far_le n.code q.data.toList
    rw [← hxs] at hfl
    have hcd := Bk.code_at hn
    have hlv := Bk.liveAt_at hn
    obtain ⟨d, hd⟩ : ∃ d, Bk.far n.code q.data.toList = d := ⟨_, rfl⟩
    rw [hd] at hfl
    have hdw : d ≤ T.w := by omega
    have hd1024 : d ≤ 1024 := by omega
    obtain ⟨s1, hs1⟩ : ∃ s1, Bk.look T.l q.data.toList i s = s1 := ⟨_, rfl⟩
    have hlook : s1 = (if n.live = true then s.1 ++ [⟨d, n.code⟩] else s.1, s.2 + 1) := by rw [← hs1]; unfold Bk.look; rw [hlv, hcd, hd]
    rw [hs1] at hlen hlf ⊢
    have hlen1 : s1.1.length ≤ T.l.length := Nat.le_trans (by have := Br.up_mono T.w T.l q.data.toList (fun F => Bk.down K F T.w) i s1 (Nat.zero_le (T.w + 1)); exact this) hlen
    have hfar : Bk.far (Bk.code T.l i) q.data.toList = d := by rw [hcd, hd]
    have hst : ∀ e k, Bk.child T.l i e = some k → ∀ s, Br.st T.w T.l q.data.toList (fun F => Bk.down K F T.w) i s e = if d ≤ e + Bk.down K s.1 T.w ∧ e ≤ d + Bk.down K s.1 T.w then Bk.V T.w T.l q.data.toList (fun F => Bk.down K F T.w) k s else s := fun e k hc s => by
      unfold Br.st
      rw [hc, hfar]
      simp only
      by_cases h : d ≤ e + Bk.down K s.1 T.w ∧ e ≤ d + Bk.down K s.1 T.w
      · rw [if_pos h, if_pos (by unfold Bk.near; rw [decide_eq_true h.1, decide_eq_true h.2]; rfl)]
      · rw [if_neg h, if_neg (by unfold Bk.near; simpa using h)]
    have hsn : ∀ e, Bk.child T.l i e = none → ∀ s, Br.st T.w T.l q.data.toList (fun F => Bk.down K F T.w) i s e = s := fun e hc s => by unfold Br.st; rw [hc]
    have hupf := Br.up_far (q := q.data.toList) (r := fun F => Bk.down K F T.w) hG (by omega) i s1 hlf
    obtain ⟨Av, cv, rfl⟩ := Bk.row_form hx.row
    obtain ⟨g, rfl, hg1, hg2, d0, d1, -, -⟩ := Br.row_at (hx.nodes hS) hn
    rw [Tx.v_eq hxb] at d0
    have t0 := (hx.st hS).t0
    have t1 := (hx.st hS).t1
    have t2 := (hx.st hS).t2
    have ft := hx.tree.frozen 2
    have hgt : g ≠ t := hS.off g rfl
    have hsee := hx.seen hS
    have hwr := Bk.w64_succ s.2
    have hHyp := Lib.hid (And.intro hG (And.intro hn (And.intro hs1 (And.intro hlook (And.intro hlen (And.intro hst (And.intro hsn (And.intro hupf (And.intro hcd (And.intro hfar hxb))))))))))
    have IH := Lib.hid ih
    clear ih hG hn hs1 hlook hlen hst hsn hupf hcd hfar hxb hlv hd hlf hsf0
    simp only at t2
    generalize Bk.w64 s.2 = y0 at t2 hwr
    obtain ⟨y1, hy1⟩ : ∃ y1, Bk.w64 (s.2 + 1) = y1 := ⟨_, rfl⟩
    rw [hy1] at hwr hsee
    have HX := Lib.hid (And.intro hsee hy1)
    clear hsee hy1 hx
    go_enter Tryz.func46, Tryz.ntmps46
    go_upto_region 2 with fail
    generalize W.setCell ⟨t, 2, none⟩ (.int .i64 y1) = W1 at *
    have x1 := HX.out.1
    have e0 := (x1.st hS).t0
    have e1 := (x1.st hS).t1
    obtain ⟨g', hg', -, -, b0, b1, -, -⟩ := Br.row_at (x1.nodes hS) hHyp.out.2.1
    obtain rfl : g = g' := by injection hg' with e; injection e
    rw [Tx.v_eq hHyp.out.2.2.2.2.2.2.2.2.2.2] at b0
    clear t0 t1 t2 ft d0 d1 hwr hg'
    simp only at e0 e1
    have kf := Br.far_any xb q hsz (by omega) W1
    rw [hHyp.out.2.2.2.2.2.2.2.2.2.2, ← hHyp.out.2.2.2.2.2.2.2.2.1, hHyp.out.2.2.2.2.2.2.2.2.2.1] at kf
    have HX1 := Lib.hid x1
    clear x1
    go_upto_region 3 with (go_at_call 57; refine kf.mono ?_; clear kf; rintro e w2 ⟨rfl, rfl⟩)
    obtain ⟨lv, hlv⟩ : ∃ lv, n.live = lv := ⟨_, rfl⟩
    rw [hlv] at b1
    go_cut [40] (fun v X => v = .bool lv ∧ W1 = X)
    case first =>
      go_wp2_with fail
      go_meet
      exact ⟨rfl, rfl⟩
    case rest =>
    obtain ⟨rfl, rfl⟩ := hcut
    go_upto_if 40 with fail
    go_cut [4] (fun v X => ∃ Av cv W2, v = .slice Av (Bk.sortH s1.1).length cv ∧ W2 = X ∧ Br.Sx W0 t T (some ⟨g, 0, none⟩) cap Bk.sortH s1 (.slice Av (Bk.sortH s1.1).length cv) W2)
    case first =>
      cases lv with
      | true =>
        have hs1 : s1 = (s.1 ++ [⟨d, n.code⟩], s.2 + 1) := by rw [hHyp.out.2.2.2.1, if_pos hlv]
        have hpl : (Bk.sortH s.1).length = s.1.length := (Bk.sortH_is _).length_eq
        have hsl : s.1.length + 1 ≤ T.l.length := by have := hlen1; rw [hs1, List.length_append] at this; exact this
        have kp := Br.put_any HX1.out.row HX1.out.only.size (Bk.sortH_sorted _) (by show (Bk.sortH s.1).length ≤ _; omega) d hd1024 xb
        have hput : Bk.sortH s1.1 = Bk.sortH (Bk.sortH s.1 ++ [⟨d, xb.data.toList⟩]) := by rw [hs1, hHyp.out.2.2.2.2.2.2.2.2.2.2]; exact Bk.sortH_perm ((Bk.sortH_is _).symm.append_right _)
        have HP := Lib.hid (And.intro hput hs1)
        clear hput hs1 hpl hsl
        go_wp2_with (go_at_call 59; refine kp.mono ?_; clear kp; rintro e w3 ⟨v3, rfl, hb3, hr3⟩)
        go_meet
        obtain ⟨p1, p2⟩ := HP.out
        have hrow : w3.ownsRow W0.heap.size 61 3 v3 (Bk.sortH s1.1).length (Bk.hcs (Bk.sortH s1.1)) := by rw [p1]; exact hr3
        obtain ⟨A3, c3, rfl⟩ := Bk.row_form hrow
        have x3 := HX1.out.hit hS hb3 (F' := s1.1) hrow
        exact ⟨A3, c3, w3, rfl, rfl, by
          have e9 : (s1.1, (s.1, s.2 + 1).2) = s1 := by rw [p2]
          rw [e9] at x3
          exact x3⟩
      | false =>
        have hpw : s1 = (s.1, s.2 + 1) := by rw [hHyp.out.2.2.2.1, hlv, if_neg (by decide)]
        have HP := Lib.hid hpw
        clear hpw
        go_wp2_with fail
        go_meet
        have p1 := HP.out
        refine ⟨Av, cv, _, by rw [p1], rfl, ?_⟩
        rw [p1]
        exact HX1.out
    case rest =>
    obtain ⟨Av2, cv2, W2, rfl, rfl, x2⟩ := hcut
    have HX2 := Lib.hid x2
    clear x2 b0 b1 e0 e1 HX1 HX
    go_upto_region 6 with fail
    have hup0 : Br.up T.w T.l q.data.toList (fun F => Bk.down K F T.w) i s1 1 = s1 := by
      rw [Br.up_succ]
      exact hHyp.out.2.2.2.2.2.2.1 0 (Br.child_zero _ _ _ hHyp.out.1) _
    have HU := Lib.hid hup0
    clear hup0
    go_loopg [4, 12] (T.w + 1 - 1) (fun m v ev wr => ∃ (e : Nat) (Av : Option Addr) (cv : Nat), ev = .int .i64 (e : Nat) ∧ v = .slice Av (Bk.sortH (Br.up T.w T.l q.data.toList (fun F => Bk.down K F T.w) i s1 e).1).length cv ∧ m = T.w + 1 - e ∧ 1 ≤ e ∧ e ≤ T.w + 1 ∧ Hid (Br.Sx W0 t T (some ⟨g, 0, none⟩) cap Bk.sortH (Br.up T.w T.l q.data.toList (fun F => Bk.down K F T.w) i s1 e) (.slice Av (Bk.sortH (Br.up T.w T.l q.data.toList (fun F => Bk.down K F T.w) i s1 e).1).length cv) wr))
    case atStart => exact ⟨1, Av2, cv2, rfl, by rw [HU.out], rfl, Nat.le_refl _, by omega, by rw [HU.out]; exact HX2⟩
    case round =>
      clear HX2
      obtain ⟨e, Av3, cv3, rfl, rfl, hm, hge, hle2, hx3⟩ := hrel
      have q0 := (hx3.out.st hS).t0
      simp only at q0
      have hufr := hHyp.out.2.2.2.2.2.2.2.1 e
      have hmo := Br.up_mono T.w T.l q.data.toList (fun F => Bk.down K F T.w) i s1 (show e ≤ T.w + 1 by omega)
      have hul := Nat.le_trans hmo hHyp.out.2.2.2.2.1
      obtain ⟨u, hu⟩ : ∃ u, Br.up T.w T.l q.data.toList (fun F => Bk.down K F T.w) i s1 e = u := ⟨_, rfl⟩
      rw [hu] at hx3 hufr hul ⊢
      have HUe := Lib.hid hu
      clear hu hmo
      by_cases h2 : e ≤ T.w
      · have u2 : decide (e ≤ T.w) = true := decide_eq_true h2
        have kc := Br.child_any (hx3.out.at' hS) (show T.l.length ≤ 4398046511104 by omega) i e
        have hsl : (Bk.sortH u.1).length = u.1.length := (Bk.sortH_is _).length_eq
        have kb := Br.bound_any q0 hx3.out.row (by show (Bk.sortH u.1).length ≤ _; omega) K hK hK2
        rw [Br.bnd_down hK hufr] at kb
        have hbw := Bk.down_le K u.1 T.w
        have hsucc := Br.up_succ T.w T.l q.data.toList (fun F => Bk.down K F T.w) i s1 e
        rw [HUe.out] at hsucc
        simp only at kc
        cases hc : Bk.child T.l i e with
        | none =>
          rw [hc] at kc
          unfold Br.idx at kc
          rw [hHyp.out.2.2.2.2.2.2.1 e hc] at hsucc
          have HN := Lib.hid hsucc
          generalize Bk.down K u.1 T.w = b at kb hbw
          have u3 : decide ((0 : Int) ≤ -1) = false := by decide
          clear hsucc hc hsl hufr
          go_wp2_with (first | (go_at_call 58; refine kc.mono ?_; clear kc; rintro r w4 ⟨rfl, rfl⟩) | (go_at_call 47; refine kb.mono ?_; clear kb; rintro r w4 ⟨rfl, rfl⟩))
          go_roundg (T.w + 1 - (e + 1))
          case measure => omega
          case rel => exact ⟨e + 1, Av3, cv3, congrArg (Value.int .i64) (by omega), by rw [HN.out], rfl, by omega, by omega, by rw [HN.out]; exact hx3⟩
        | some k =>
          rw [hc] at kc
          unfold Br.idx at kc
          obtain ⟨k1, k2⟩ := hHyp.out.1.child_lt hc
          rw [hHyp.out.2.2.2.2.2.1 e k hc u] at hsucc
          have hmono := Br.up_mono T.w T.l q.data.toList (fun F => Bk.down K F T.w) i s1 (show e + 1 ≤ T.w + 1 by omega)
          have hbnd := hHyp.out.2.2.2.2.1
          have u3 : decide ((0 : Int) ≤ (k : Int)) = true := decide_eq_true (by omega)
          obtain ⟨b, hb⟩ : ∃ b, Bk.down K u.1 T.w = b := ⟨_, rfl⟩
          rw [hb] at kb hbw hsucc
          by_cases hnr : d ≤ e + b ∧ e ≤ d + b
          · rw [if_pos hnr] at hsucc
            rw [hsucc] at hmono
            have kr := IH.out k (by omega) k2 u _ wr hx3.out hufr (Nat.le_trans hmono hbnd)
            obtain ⟨u9, hu9⟩ : ∃ u9, Bk.V T.w T.l q.data.toList (fun F => Bk.down K F T.w) k u = u9 := ⟨_, rfl⟩
            rw [hu9] at kr hsucc
            have HN := Lib.hid hsucc
            have u4 : decide ((d : Int) - (b : Int) ≤ (e : Int)) = true := decide_eq_true (by omega)
            have u6 : decide (d ≤ e + b) = true := decide_eq_true hnr.1
            have u7 : d ≤ e + b := hnr.1
            have u8 : (d : Int) - (b : Int) ≤ (e : Int) := by omega
            have u5 : decide ((e : Int) ≤ (d : Int) + (b : Int)) = true := decide_eq_true (by omega)
            have u9' : (e : Int) ≤ (d : Int) + (b : Int) := by omega
            clear hsucc hc hu9 hmono hbnd hsl hufr hnr hb
            go_wp2_with (first | (go_at_call 58; refine kc.mono ?_; clear kc; rintro r w4 ⟨rfl, rfl⟩) | (go_at_call 47; refine kb.mono ?_; clear kb; rintro r w4 ⟨rfl, rfl⟩) | (go_at_call 46; refine kr.mono ?_; clear kr; rintro r w5 ⟨v5, rfl, hx5⟩; obtain ⟨A5, c5, rfl⟩ := Bk.row_form hx5.row))
            go_roundg (T.w + 1 - (e + 1))
            case measure => omega
            case rel => exact ⟨e + 1, A5, c5, congrArg (Value.int .i64) (by omega), by rw [HN.out], rfl, by omega, by omega, by rw [HN.out]; exact Lib.hid hx5⟩
          · rw [if_neg hnr] at hsucc
            have HN := Lib.hid hsucc
            clear hsucc hc hmono hbnd hsl hufr hb
            by_cases h4 : d ≤ e + b
            · have u4 : decide ((d : Int) - (b : Int) ≤ (e : Int)) = true := decide_eq_true (by omega)
              have u5 : decide ((e : Int) ≤ (d : Int) + (b : Int)) = false := decide_eq_false (by omega)
              clear hnr h4
              go_wp2_with (first | (go_at_call 58; refine kc.mono ?_; clear kc; rintro r w4 ⟨rfl, rfl⟩) | (go_at_call 47; refine kb.mono ?_; clear kb; rintro r w4 ⟨rfl, rfl⟩))
              go_roundg (T.w + 1 - (e + 1))
              case measure => omega
              case rel => exact ⟨e + 1, Av3, cv3, congrArg (Value.int .i64) (by omega), by rw [HN.out], rfl, by omega, by omega, by rw [HN.out]; exact hx3⟩
            · have u4 : decide ((d : Int) - (b : Int) ≤ (e : Int)) = false := decide_eq_false (by omega)
              have u6 : decide (d ≤ e + b) = false := decide_eq_false h4
              have u8 : ¬ ((d : Int) - (b : Int) ≤ (e : Int)) := by omega
              clear hnr h4
              go_wp2_with (first | (go_at_call 58; refine kc.mono ?_; clear kc; rintro r w4 ⟨rfl, rfl⟩) | (go_at_call 47; refine kb.mono ?_; clear kb; rintro r w4 ⟨rfl, rfl⟩))
              go_roundg (T.w + 1 - (e + 1))
              case measure => omega
              case rel => exact ⟨e + 1, Av3, cv3, congrArg (Value.int .i64) (by omega), by rw [HN.out], rfl, by omega, by omega, by rw [HN.out]; exact hx3⟩
      · have u2 : decide (e ≤ T.w) = false := decide_eq_false h2
        have hee : e = T.w + 1 := by omega
        have HE := Lib.hid hee
        clear hee h2 hufr
        go_wp2_with fail
        go_ret
        rw [← HE.out, HUe.out]
        exact ⟨_, rfl, hx3.out⟩
end Go.Proofs.YtikhahkmebkccaaGreatDoor
