/- The document's tree: Add and Drop. Conditions: each theorem's own hypotheses. -/
import Derived.Test.YtikhahkmebkccaaGreatDoorBrD
namespace Go.Proofs.YtikhahkmebkccaaGreatDoor
open Go.RowKit Go.Maps Go.Sort Go.Shelf
set_option linter.unusedVariables false
set_option linter.unusedSimpArgs false

theorem Br.ncs_live : ∀ (l : List Bk.N) (j : Nat) (b : Bool), Br.ncs (Bk.setLive l j b) = (Br.ncs l).set (j * 4 + 1) (.bool b)
  | [], j, b => by simp [Bk.setLive, Br.ncs]
  | x :: l, 0, b => by
    have e : Bk.setLive (x :: l) 0 b = { x with live := b } :: l := by simp [Bk.setLive]
    rw [e, Br.ncs_cons, Br.ncs_cons]; rfl
  | x :: l, j + 1, b => by
    have e : Bk.setLive (x :: l) (j + 1) b = x :: Bk.setLive l j b := by simp [Bk.setLive]
    rw [e, Br.ncs_cons, Br.ncs_cons, Br.ncs_live l j b, show (j + 1) * 4 + 1 = j * 4 + 1 + 4 by omega]; rfl
section
variable {W W' : World} {t : Nat} {T : Bk.T} {F : Nat → Prop} {A : Option Addr} {cap : Nat}
theorem Br.At.same (h : Br.At W t T F) : Br.Moved W W t F T := ⟨F, h, Bk.Only.refl _ _, fun k hk => .inl hk⟩
theorem Br.St.mark {g : Nat} (h : Br.St W t T (some ⟨g, 0, none⟩) cap) (i : Nat) (b : Bool) :
    Br.Moved W (W.setCell ⟨g, i * 4 + 1, none⟩ (.bool b)) t (Br.foot t (.slice (some ⟨g, 0, none⟩) T.l.length cap)) { T with l := Bk.setLive T.l i b } := by
  have e := Bk.setLive_len T.l i b
  have ht : g ≠ t := h.off g rfl
  refine ⟨Br.foot t (.slice (some ⟨g, 0, none⟩) (Bk.setLive T.l i b).length cap), ⟨some ⟨g, 0, none⟩, cap, ⟨?_, ?_, ?_⟩, rfl⟩, ?_, ?_⟩
  · show Blk _ t _ #[.int .i64 T.w, .slice (some ⟨g, 0, none⟩) (Bk.setLive T.l i b).length cap, .int .i64 (Bk.w64 T.seen)]
    rw [e]
    exact h.tree.far (p := ⟨g, i * 4 + 1, none⟩) (fun x => ht x.symm) _
  · show World.ownsRow _ 0 _ 4 (.slice (some ⟨g, 0, none⟩) (Bk.setLive T.l i b).length cap) (Bk.setLive T.l i b).length (Br.ncs (Bk.setLive T.l i b))
    rw [e, Br.ncs_live]
    exact (h.row.stored (i * 4 + 1) (.bool b)).1
  · exact fun j hj => h.off j hj
  · exact (Bk.Only.refl _ W).setCell (p := ⟨g, i * 4 + 1, none⟩) (.inl (.inr rfl)) _
  · exact fun k hk => .inl hk
set_option maxRecDepth 100000 in
set_option maxHeartbeats 2000000 in
theorem Br.add_any (h : Br.At W t T F) (hG : Bk.Good T.w T.l) (hw : T.w ≤ 1024) (hl : T.l.length ≤ 4398046511103) (c : ByteArray) (hc : c.size ≤ 9223372036854775807) :
    Calls Tryz.prog 22 #[.pointer (some ⟨t, 0, none⟩), .string c] W fun e W' => e = .returned (.tuple #[.bool (Bk.add T c.data.toList).2.1, .int .i64 (Bk.add T c.data.toList).2.2]) ∧ Br.Moved W W' t F (Bk.add T c.data.toList).1 := by
  have kn := Br.node_any h (by omega) c
  have hat := h
  obtain ⟨A, cap, hS, rfl⟩ := h
  have c0 := hS.t0
  have c1 := hS.t1
  have hcs : c.data.toList.length = c.size := Array.length_toList
  obtain ⟨w8, hw8⟩ : ∃ w8, T.w / 8 = w8 := ⟨_, rfl⟩
  have e8 : Int.tdiv (T.w : Int) 8 = (w8 : Int) := by rw [← hw8]; rfl
  have hw9 : w8 ≤ 128 := by omega
  by_cases hfit : c.size = w8
  · have u1 : ((c.size : Int) != (w8 : Int)) = false := by rw [hfit]; exact bne_self_eq_false _
    cases hf : Bk.find T.l c.data.toList with
    | none =>
      have hR : Bk.add T c.data.toList = ({ T with l := Bk.hang T.l c.data.toList }, true, 0) := by
        unfold Bk.add
        rw [if_pos (by omega), hf]
      rw [hf] at kn
      unfold Br.idx at kn
      have kh := Br.hang_any hat hG hw hl c (by omega)
      rw [hR]
      have u2 : decide ((-1 : Int) < 0) = true := by decide
      clear hf hR hcs hfit hG hat hw8
      go_enter Tryz.func22, Tryz.ntmps22
      go_wp2_with (first | (go_at_call 42; refine kn.mono ?_; clear kn; rintro e w1 ⟨rfl, rfl⟩) | (go_at_call 43; refine kh.mono ?_; clear kh; rintro e w2 ⟨rfl, hm⟩))
      go_ret2
      exact ⟨rfl, hm⟩
    | some k =>
      obtain ⟨n, hn, hcn⟩ := Bk.find_some hf
      have hR : Bk.add T c.data.toList = ({ T with l := Bk.setLive T.l k true }, !n.live, 0) := by
        unfold Bk.add
        rw [if_pos (by omega), hf]
        simp only
        rw [Bk.liveAt_at hn]
      rw [hf] at kn
      unfold Br.idx at kn
      obtain ⟨g, rfl, hg1, hg2, d0, d1, d2, d3⟩ := Br.row_at hS.row hn
      have f1 := hS.row.frozenAt (k * 4 + 1)
      have hkl : k < T.l.length := (List.getElem?_eq_some_iff.1 hn).1
      rw [hR]
      generalize n.live = b at d1 ⊢
      have u2 : decide ((k : Int) < 0) = false := decide_eq_false (by omega)
      clear hf hR hcs hfit hG hat hw8 hn hcn d0 d2 d3
      go_enter Tryz.func22, Tryz.ntmps22
      go_wp2_with (go_at_call 42; refine kn.mono ?_; clear kn; rintro e w1 ⟨rfl, rfl⟩)
      go_ret2
      exact ⟨rfl, hS.mark k true⟩
  · have hR : Bk.add T c.data.toList = (T, false, 11) := by
      unfold Bk.add
      rw [if_neg (by omega)]
    have u1 : ((c.size : Int) != (w8 : Int)) = true := by rw [bne_iff_ne]; omega
    rw [hR]
    clear kn hR hcs hfit hG hw8
    go_enter Tryz.func22, Tryz.ntmps22
    go_wp2_with fail
    go_ret2
    exact ⟨rfl, hat.same⟩
theorem Br.Moved.then {W1 : World} {T2 : Bk.T} {F1 : Nat → Prop} (o1 : Bk.Only F W W1) (g1 : ∀ k, F1 k → F k ∨ W.heap.size ≤ k) (h2 : Br.Moved W1 W' t F1 T2) : Br.Moved W W' t F T2 := by
  obtain ⟨F2, a2, o2, g2⟩ := h2
  have hs := o1.size
  refine ⟨F2, a2, ?_, fun k hk => ?_⟩
  · have p1 : Bk.Only (fun k => F k ∨ W.heap.size ≤ k) W W1 := o1.wide fun k _ hk => .inl hk
    have p2 : Bk.Only (fun k => F k ∨ W.heap.size ≤ k) W1 W' := o2.wide fun k _ hk => g1 k hk
    exact (p1.trans p2).wide fun k hk h => h.elim id fun e => by omega
  · rcases g2 k hk with h | h
    · exact g1 k h
    · exact .inr (by omega)
/-- While the tree is hung anew. -/
def Br.DR (W3 : World) (t : Nat) (F : Nat → Prop) (T1 : Bk.T) (C : List (List UInt8)) (m : Nat) (v : Value) (wr : World) : Prop :=
  ∃ (k : Nat) (F' : Nat → Prop), m + k = C.length ∧ v = .int .i64 (k : Nat) ∧ Br.At wr t { T1 with l := (C.take k).foldl Bk.hang [] } F' ∧ Bk.Only F W3 wr ∧ ∀ j, F' j → F j ∨ W3.heap.size ≤ j
theorem Br.St.empty (h : Br.St W t T A cap) : Br.Moved W (W.setCell ⟨t, 1, none⟩ (.slice none 0 0)) t (Br.foot t (.slice A T.l.length cap)) { T with l := [] } :=
  ⟨Br.foot t (.slice none 0 0), ⟨none, 0, ⟨h.tree.set_ 1 (.slice none 0 0), ⟨by simp [Br.ncs], .inl ⟨rfl, rfl⟩⟩, fun j hj => by simp [Value.ownBlock] at hj⟩, rfl⟩,
    (Bk.Only.refl _ W).setCell (p := ⟨t, 1, none⟩) (.inl (.inl rfl)) _, fun k hk => by
      rcases hk with rfl | hk
      · exact .inl (.inl rfl)
      · simp [Value.ownBlock] at hk⟩
theorem Br.row_some {w : World} {B size : Nat} {e : TypeId} {A : Option Addr} {n cap : Nat} {xs : List Value} (h : w.ownsRow B e size (.slice A n cap) n xs) (hn : 0 < n) : ∃ g, A = some ⟨g, 0, none⟩ ∧ n ≤ cap ∧ cap ≤ maxLen := by
  rcases h.2 with ⟨h', h0⟩ | ⟨g, cap', cur, h', hb, hg, h1, h2, _⟩
  · omega
  · injection h' with h1' h2' h3'
    subst h3' h1'
    exact ⟨g, rfl, h1, h2⟩
set_option maxRecDepth 100000 in
set_option maxHeartbeats 8000000 in
theorem Br.drop_any (h : Br.At W t T F) (hG : Bk.Good T.w T.l) (hw : T.w ≤ 1024) (hl : T.l.length ≤ 4398046511103) (c : ByteArray) (hc : c.size ≤ 9223372036854775807) :
    Calls Tryz.prog 23 #[.pointer (some ⟨t, 0, none⟩), .string c] W fun e W' => e = .returned (.bool (Bk.drop T c.data.toList).2) ∧ Br.Moved W W' t F (Bk.drop T c.data.toList).1 := by
  have kn := Br.node_any h (by omega) c
  have hat := h
  obtain ⟨A, cap, hS, rfl⟩ := h
  have c1 := hS.t1
  cases hf : Bk.find T.l c.data.toList with
  | none =>
    have hR : Bk.drop T c.data.toList = (T, false) := by unfold Bk.drop; rw [hf]
    rw [hf] at kn
    unfold Br.idx at kn
    rw [hR]
    have u2 : decide ((-1 : Int) < 0) = true := by decide
    clear hf hR hG
    go_enter Tryz.func23, Tryz.ntmps23
    go_wp2_with (go_at_call 42; refine kn.mono ?_; clear kn; rintro e w1 ⟨rfl, rfl⟩)
    go_ret
    exact ⟨rfl, hat.same⟩
  | some i =>
    obtain ⟨n, hn, hcn⟩ := Bk.find_some hf
    rw [hf] at kn
    unfold Br.idx at kn
    obtain ⟨g, rfl, hg1, hg2, d0, d1, d2, d3⟩ := Br.row_at hS.row hn
    have f1 := hS.row.frozenAt (i * 4 + 1)
    have hkl : i < T.l.length := (List.getElem?_eq_some_iff.1 hn).1
    have u2 : decide ((i : Int) < 0) = false := decide_eq_false (by omega)
    cases hlv : n.live with
    | false =>
      have hR : Bk.drop T c.data.toList = (T, false) := by
        unfold Bk.drop
        rw [hf]
        simp only
        rw [Bk.liveAt_at hn, hlv, if_neg (by decide)]
      rw [hlv] at d1
      rw [hR]
      clear hf hR hG hn hcn hlv d0 d2 d3
      go_enter Tryz.func23, Tryz.ntmps23
      go_wp2_with (go_at_call 42; refine kn.mono ?_; clear kn; rintro e w1 ⟨rfl, rfl⟩)
      go_ret
      exact ⟨rfl, hat.same⟩
    | true =>
      have hR : Bk.drop T c.data.toList = ({ T with l := Bk.swept (Bk.setLive T.l i false) }, true) := by
        unfold Bk.drop
        rw [hf]
        simp only
        rw [Bk.liveAt_at hn, hlv, if_pos rfl]
      rw [hlv] at d1
      rw [hR]
      have hm1 := hS.mark i false
      have hG1 := hG.setLive i false
      have hl1 := Bk.setLive_len T.l i false
      have hlv1 := Bk.live_le (Bk.setLive T.l i false)
      have HM := Lib.hid (And.intro hm1 (And.intro hG1 hl1))
      rw [hl1] at hlv1
      clear hf hR hG hn hcn hlv d0 d2 d3 hm1 hG1 hat hl1
      go_enter Tryz.func23, Tryz.ntmps23
      go_upto_region 5 with (go_at_call 42; refine kn.mono ?_; clear kn; rintro e w1 ⟨rfl, rfl⟩)
      obtain ⟨F1, a1, o1, g1⟩ := HM.out.1
      have kl := Br.len_any a1 (by rw [HM.out.2.2]; omega)
      have kr := Br.rising_any a1 (by rw [HM.out.2.2]; omega)
      have ha1 := a1
      obtain ⟨A1, cap1, S1, hF1⟩ := a1
      have b1 := S1.t1
      simp only [HM.out.2.2] at b1
      clear c1 d1 f1 S1
      generalize W.setCell ⟨g, i * 4 + 1, none⟩ (.bool false) = W1 at *
      have HA := Lib.hid (And.intro ha1 (And.intro o1 g1))
      have hsw : Bk.swept (Bk.setLive T.l i false) = if T.l.length - Bk.live (Bk.setLive T.l i false) > Bk.live (Bk.setLive T.l i false) + 16 then Bk.anew (Bk.setLive T.l i false) else Bk.setLive T.l i false := by
        unfold Bk.swept
        rw [HM.out.2.2]
      obtain ⟨lv, hlv⟩ : ∃ lv, Bk.live (Bk.setLive T.l i false) = lv := ⟨_, rfl⟩
      simp only [hlv] at kl hlv1 hsw
      have HV := Lib.hid hlv
      clear ha1 o1 g1 hF1 hlv hS
      by_cases hbig : T.l.length - lv > lv + 16
      · rw [if_pos hbig] at hsw
        have HSw := Lib.hid hsw
        clear hsw
        have u3 : decide ((lv : Int) + 16 < (T.l.length : Int) - (lv : Int)) = true := decide_eq_true (by omega)
        go_upto_region 7 with (go_at_call 28; refine kl.mono ?_; clear kl; rintro e w1 ⟨rfl, rfl⟩)
        have hris := HM.out.2.1.rising
        have hrl : (Bk.rising (Bk.setLive T.l i false)).length ≤ T.l.length := by
          rw [(Bk.rising_perm _).length_eq, List.length_map, ← HM.out.2.2]
          exact List.length_filter_le _ _
        have han : Bk.anew (Bk.setLive T.l i false) = (Bk.rising (Bk.setLive T.l i false)).foldl Bk.hang [] := rfl
        generalize Bk.rising (Bk.setLive T.l i false) = C at *
        have HC := Lib.hid (And.intro hris han)
        clear hris han
        go_upto_region 8 with (go_at_call 44; refine kr.mono ?_; clear kr; rintro e w2 ⟨v2, rfl, hb2, hro⟩; obtain ⟨A2, c2, rfl⟩ := Bk.row_form hro)
        have ha2 := HA.out.1.later hb2 (Nat.le_refl _)
        obtain ⟨A3, cap3, S3, hF3⟩ := ha2
        have b3 := S3.t1
        have f3 := S3.tree.frozen 1
        have ht2 := S3.tree.lt
        have hm3 := S3.empty
        rw [← hF3] at hm3
        have hF1t : F1 t := by rw [hF3]; exact .inl rfl
        have HN := Lib.hid (And.intro hm3 (And.intro hb2 (And.intro hro hF1t)))
        clear hm3 hb2 hro S3 hF3 b1
        go_upto_region 10 with fail
        obtain ⟨F4, a4, o4, g4⟩ := HN.out.1
        generalize hw3 : w2.setCell ⟨t, 1, none⟩ (.slice none 0 0) = w3 at *
        have hro3 : w3.ownsRow W1.heap.size 9 1 (.slice A2 C.length c2) C.length (Bk.ss C) := Bk.own_of HN.out.2.2.1 fun j hj => by
          rw [← hw3]
          exact Below.heap_setCell w2 ⟨t, 1, none⟩ _ j fun e => by
            have e' : j = t := e
            have := (HN.out.2.2.1.lt j hj).1
            have := HA.out.1.lt HN.out.2.2.2
            omega
        have hz3 : w3.heap.size = w2.heap.size := by rw [← hw3]; simp
        have hsz2 := HN.out.2.1.size
        have HD := Lib.hid (show Br.DR w3 t F1 { T with l := Bk.setLive T.l i false } C C.length (.int .i64 ((0 : Nat) : Int)) w3 from ⟨0, F4, by omega, rfl, a4, Bk.Only.refl _ _, fun j hj => (g4 j hj).imp id fun e => by omega⟩)
        have H4 := Lib.hid (And.intro o4 g4)
        clear a4 o4 g4 hw3 b3 f3
        go_loopg [8] C.length (fun m v wr => Br.DR w3 t F1 { T with l := Bk.setLive T.l i false } C m v wr)
        case atStart => exact HD.out
        case round =>
          clear HD
          obtain ⟨k, F', hmk, rfl, hat', hon, hFF⟩ := hrel
          by_cases hkn : k = C.length
          · have u4 : decide (k < C.length) = false := decide_eq_false (by omega)
            have HZ := Lib.hid (And.intro hat' (And.intro hon (And.intro hFF hkn)))
            clear hat' hon hFF hkn hmk
            go_wp2_with fail
            go_ret
            refine ⟨rfl, ?_⟩
            obtain ⟨q1, q2, q3, q4⟩ := HZ.out
            rw [q4, List.take_length, ← HC.out.2, ← HSw.out] at q1
            have p1 : Bk.Only F1 W1 wr := ((Bk.Only.of HN.out.2.1).trans H4.out.1).trans q2
            exact Br.Moved.then HA.out.2.1 HA.out.2.2 ⟨F', q1, p1, fun j hj => (q3 j hj).imp id fun e => by omega⟩
          · have u4 : decide (k < C.length) = true := decide_eq_true (by omega)
            obtain ⟨x, hx⟩ : ∃ x, C[k]? = some x := ⟨_, List.getElem?_eq_getElem (by omega)⟩
            have hro9 : wr.ownsRow 0 9 1 (.slice A2 C.length c2) C.length (Bk.ss C) := Bk.own_base (Bk.own_of hro3 fun j hj => hon.block j (hro3.lt j hj).2 fun hf => by
              have := (hro3.lt j hj).1
              have := HA.out.1.lt hf
              omega) (Nat.zero_le _)
            obtain ⟨g9, rfl, hg3, hg4, d0⟩ := Bk.srow_at hro9 hx
            obtain ⟨xb, hxb, hxs⟩ := Tx.of x
            rw [Tx.v_eq hxb] at d0
            have hxm := List.mem_of_getElem? hx
            have hkl : k < C.length := by omega
            have hlx : xb.size = T.w / 8 := by rw [hxs, HC.out.1.2 x hxm]
            have hGk : Bk.Good T.w ((C.take k).foldl Bk.hang []) := Bk.Good.fold _ _ (Bk.Good.nil _) (fun z hz => HC.out.1.2 z (List.mem_of_mem_take hz)) (HC.out.1.1.sublist (List.take_sublist _ _)) (fun z hz n hn => by cases hn)
            have hlk : ((C.take k).foldl Bk.hang []).length = k := by
              rw [(Bk.fold_num _ _).1, List.length_take]; simp; omega
            have kh := Br.hang_any hat' hGk hw (by show ((C.take k).foldl Bk.hang []).length ≤ _; rw [hlk]; omega) xb hlx
            have htk : C.take (k + 1) = C.take k ++ [x] := by rw [List.take_add_one, hx]; rfl
            rw [hxb] at kh
            have HZ := Lib.hid (And.intro hon (And.intro hFF (And.intro hmk htk)))
            clear hon hFF hmk htk hat' hGk hlk hxm hx hkn hxb hxs hlx hro9
            go_wp2_with (go_at_call 43; refine kh.mono ?_; clear kh; rintro e w9 ⟨rfl, hm9⟩)
            go_roundg (gk - 1)
            case measure => have := HZ.out.2.2.1; omega
            case rel =>
              obtain ⟨F9, a9, o9, g9'⟩ := hm9
              obtain ⟨q1, q2, q3, q4⟩ := HZ.out
              have hs9 := q1.size
              refine ⟨k + 1, F9, by omega, congrArg (Value.int .i64) (by omega), ?_, ?_, fun j hj => ?_⟩
              · rw [q4, List.foldl_append]; exact a9
              · have p1 : Bk.Only (fun k => F1 k ∨ w3.heap.size ≤ k) w3 wr := q1.wide fun k _ hk => .inl hk
                have p2 : Bk.Only (fun k => F1 k ∨ w3.heap.size ≤ k) wr w9 := o9.wide fun k _ hk => q2 k hk
                exact (p1.trans p2).wide fun k hk h => h.elim id fun e => by omega
              · rcases g9' j hj with h9 | h9
                · exact q2 j h9
                · exact .inr (by omega)
      · rw [if_neg hbig] at hsw
        have u3 : decide ((lv : Int) + 16 < (T.l.length : Int) - (lv : Int)) = false := decide_eq_false (by omega)
        have HSw := Lib.hid hsw
        clear hsw
        go_wp2_with (go_at_call 28; refine kl.mono ?_; clear kl; rintro e w1 ⟨rfl, rfl⟩)
        go_ret
        rw [HSw.out]
        exact ⟨rfl, F1, HA.out.1, HA.out.2.1, HA.out.2.2⟩
end
end Go.Proofs.YtikhahkmebkccaaGreatDoor
