/- Contracts of Has, Add: Conditions: each theorem's own hypotheses. -/
import Derived.Test.YtikhahkmebkccaaGreatDoorBkD
namespace Go.Proofs.YtikhahkmebkccaaGreatDoor
open Go.RowKit Go.Maps Go.Sort
set_option linter.unusedVariables false

theorem Bk.findIdx_K {p : Bk.N → Bool} (hp : ∀ a b : Bk.N, Bk.K a = Bk.K b → p a = p b) : ∀ {l l' : List Bk.N}, l'.map Bk.K = l.map Bk.K → l'.findIdx? p = l.findIdx? p
  | [], [], _ => rfl
  | [], _ :: _, h => by simp at h
  | _ :: _, [], h => by simp at h
  | a :: l, b :: l', h => by
    rw [List.map_cons, List.map_cons] at h
    injection h with h1 h2
    rw [List.findIdx?_cons, List.findIdx?_cons, hp b a h1, Bk.findIdx_K hp h2]
theorem Bk.child_K {l l' : List Bk.N} (h : l'.map Bk.K = l.map Bk.K) (i e : Nat) : Bk.child l' i e = Bk.child l i e := by
  unfold Bk.child
  refine Bk.findIdx_K (fun a b hab => ?_) h
  unfold Bk.K at hab
  simp only [Prod.mk.injEq] at hab
  rw [hab.2.1, hab.2.2]
theorem Bk.find_K {l l' : List Bk.N} (h : l'.map Bk.K = l.map Bk.K) (c : List UInt8) : Bk.find l' c = Bk.find l c := by
  unfold Bk.find
  refine Bk.findIdx_K (fun a b hab => ?_) h
  unfold Bk.K at hab
  simp only [Prod.mk.injEq] at hab
  rw [hab.1]
theorem Bk.os_K {l l' : List Bk.N} (h : l'.map Bk.K = l.map Bk.K) : Bk.os l' = Bk.os l := by
  have h2 : (l'.map Bk.K).map (fun z => z.2.1) = (l.map Bk.K).map (fun z => z.2.1) := by rw [h]
  rw [List.map_map, List.map_map] at h2
  exact h2
theorem Bk.len_K {l l' : List Bk.N} (h : l'.map Bk.K = l.map Bk.K) : l'.length = l.length := by
  have := congrArg List.length h
  simpa using this
theorem Bk.setLive_at {l : List Bk.N} {i : Nat} {b : Bool} {j : Nat} {n : Bk.N} (h : (Bk.setLive l i b)[j]? = some n) : ∃ m, l[j]? = some m ∧ n = if i = j then { m with live := b } else m := by
  unfold Bk.setLive at h
  rw [List.getElem?_modify] at h
  obtain ⟨m, hm, he⟩ := Option.map_eq_some_iff.1 h
  refine ⟨m, hm, he.symm.trans ?_⟩
  split <;> rfl
theorem Bk.live_setLive : ∀ {l : List Bk.N} {i : Nat} {n : Bk.N} {b : Bool}, l[i]? = some n → Bk.live (Bk.setLive l i b) + (if n.live then 1 else 0) = Bk.live l + (if b then 1 else 0)
  | [], i, n, b, h => by simp at h
  | a :: l, 0, n, b, h => by
    obtain rfl := Option.some.inj h
    simp only [Bk.setLive, List.modify_zero_cons, Bk.live, List.filter_cons]
    cases a.live <;> cases b <;> simp
  | a :: l, i + 1, n, b, h => by
    have ih := Bk.live_setLive (b := b) (show l[i]? = some n from h)
    simp only [Bk.setLive, List.modify_succ_cons, Bk.live, List.filter_cons] at ih ⊢
    cases a.live <;> simp at ih ⊢ <;> omega

/-- A node lives, or no longer. -/
theorem Bk.Stand.setLive {W : World} {t bm : Nat} {T : Bk.T} {L : List Bk.X} (h : Bk.Stand W t bm T L) {i : Nat} {x : Bk.X} {n : Bk.N} (hx : L[i]? = some x) (hn : T.l[i]? = some n) (b : Bool) (z : Int) (hz : (Bk.live (Bk.setLive T.l i b) : Int) = z) :
    Bk.Stand ((W.setCell ⟨x.blk, 1, none⟩ (.bool (!b))).setCell ⟨t, 3, none⟩ (.int .i64 z)) t bm { T with l := Bk.setLive T.l i b } L ∧ Bk.Only (Bk.foot t bm L) W ((W.setCell ⟨x.blk, 1, none⟩ (.bool (!b))).setCell ⟨t, 3, none⟩ (.int .i64 z)) := by
  have hK := Bk.setLive_K T.l i b
  have hx' := List.mem_of_getElem? hx
  obtain ⟨a1, a2, a3, a4⟩ := h.apart.tx x hx'
  have hmx : ∀ y ∈ L, x.blk ≠ y.mb := fun y hy => by
    obtain ⟨j, hj⟩ := List.mem_iff_getElem?.1 hy
    exact (h.apart.xx i j x y hx hj).2.2
  have far : ∀ k, k ≠ x.blk → k ≠ t → ((W.setCell ⟨x.blk, 1, none⟩ (.bool (!b))).setCell ⟨t, 3, none⟩ (.int .i64 z)).heap[k]? = W.heap[k]? := fun k h1 h2 => (Below.heap_setCell _ ⟨t, 3, none⟩ _ k h2).trans (Below.heap_setCell W ⟨x.blk, 1, none⟩ _ k h1)
  refine ⟨⟨?_, ?_, ?_, fun j y m hy hm => ?_, h.apart⟩, ((Bk.Only.refl _ W).setCell (.inl (.inr (.inr ⟨x, hx', .inl rfl⟩))) _).setCell (.inl (.inl rfl)) _⟩
  · rw [h.len]; exact (Bk.len_K hK).symm
  · have h1 := (h.tree.far (p := ⟨x.blk, 1, none⟩) (fun e => a1 e.symm) (.bool (!b))).set_ 3 (.int .i64 z)
    unfold Bk.treeCells
    rw [show Bk.os (Bk.setLive T.l i b) = Bk.os T.l from Bk.os_K hK, hz]
    exact h1
  · show Bk.SMap _ bm (Bk.setLive T.l i b).length _
    rw [Bk.len_K hK]
    exact (h.map.keep (far bm (fun e => a3 e.symm) h.apart.tm.symm)).congr fun c => by rw [Bk.find_K hK]
  · obtain ⟨m0, hm0, he⟩ := Bk.setLive_at hm
    obtain ⟨h1, h2⟩ := h.node j y m0 hy hm0
    have hy' := List.mem_of_getElem? hy
    obtain ⟨b1, b2, b3, b4⟩ := h.apart.tx y hy'
    show Blk _ y.blk _ (Bk.nodeCells m ((Bk.deeps (Bk.os (Bk.setLive T.l i b))).getD j 0) y.mb) ∧ Bk.IMap _ y.mb (Bk.setLive T.l i b).length _
    rw [Bk.os_K hK, Bk.len_K hK]
    refine ⟨?_, (h2.keep (far y.mb (fun e => hmx y hy' e.symm) b2)).congr fun e => ?_⟩
    · by_cases hij : i = j
      · subst hij
        obtain rfl := Option.some.inj (hx.symm.trans hy)
        rw [if_pos rfl] at he
        subst he
        exact (h1.set_ 1 (.bool (!b))).far (p := ⟨t, 3, none⟩) a1 _
      · rw [if_neg hij] at he
        subst he
        exact (far y.blk (fun e => hij ((h.apart.xx j i y x hy hx).1 e).symm) b1).trans h1
    · unfold Bk.kid
      rw [Bk.child_K hK]
theorem Bk.foot_snoc {t bm : Nat} {L : List Bk.X} {x : Bk.X} {B : Nat} (h1 : B ≤ x.blk) (h2 : B ≤ x.mb) {k : Nat} (hk : Bk.foot t bm (L ++ [x]) k) : Bk.foot t bm L k ∨ B ≤ k := by
  rcases hk with rfl | rfl | ⟨y, hy, e⟩
  · exact .inl (.inl rfl)
  · exact .inl (.inr (.inl rfl))
  · rcases List.mem_append.1 hy with hy | hy
    · exact .inl (.inr (.inr ⟨y, hy, e⟩))
    · obtain rfl := List.mem_singleton.1 hy
      rcases e with rfl | rfl
      · exact .inr h1
      · exact .inr h2
section
variable {W : World} {t : Nat} {T : Bk.T} {F : Nat → Prop}
/-- Where the node of a code lies. -/
theorem Bk.Stand.look {bm : Nat} {L : List Bk.X} (h : Bk.Stand W t bm T L) (c : ByteArray) (hc : c.size ≤ 9223372036854775807) :
    (Instr.lookup 41 (.map (some bm)) (.string c) false).run Tryz.prog W = .ok (Bk.ptr (Bk.adr L (Bk.find T.l c.data.toList))) W :=
  h.map.look Bk.strKeyed Tryz.underlying41 (Bk.key_str c hc)
set_option maxRecDepth 100000 in
theorem Bk.has_any (h : Bk.At W t T F) (c : ByteArray) (hc : c.size ≤ 9223372036854775807) :
    Calls Tryz.prog 15 #[.pointer (some ⟨t, 0, none⟩), .string c] W fun e W' => e = .returned (.bool (Bk.has T c.data.toList)) ∧ W = W' := by
  obtain ⟨bm, L, hS, rfl⟩ := h
  obtain ⟨c0, c1, c2, c3, c4, c5⟩ := hS.six
  have hlk := hS.look c hc
  obtain ⟨R, hR⟩ : ∃ R, Bk.has T c.data.toList = R := ⟨_, rfl⟩
  rw [hR]
  unfold Bk.has at hR
  cases hf : Bk.find T.l c.data.toList with
  | none =>
    rw [hf] at hlk hR
    simp only [Bk.adr, Option.bind_none, Bk.ptr] at hlk
    subst hR
    clear hf
    go_enter Tryz.func15, Tryz.ntmps15
    go_wp2_with fail
    go_ret
    exact ⟨rfl, rfl⟩
  | some i =>
    obtain ⟨n, hn, _⟩ := Bk.find_some hf
    obtain ⟨x, hx⟩ := hS.at' hn
    rw [hf] at hlk hR
    simp only [Bk.adr_at hx, Bk.ptr] at hlk
    simp only at hR
    rw [Bk.liveAt_at hn] at hR
    obtain ⟨a0, a1, a2, a3⟩ := hS.four hx hn
    rw [hR] at a1
    clear hf hR hx hn
    go_enter Tryz.func15, Tryz.ntmps15
    go_wp2_with fail
    go_ret
    exact ⟨by simp, rfl⟩
set_option maxRecDepth 100000 in
set_option maxHeartbeats 2000000 in
theorem Bk.add_any (h : Bk.At W t T F) (hG : Bk.Good T.w T.l) (hw : Bt.wide T.w = true) (c : ByteArray) (hc : c.size ≤ 9223372036854775807) (hl : T.l.length ≤ 4398046511104) (hT : ∀ w, Bk.Only F W w → TabO w) :
    Calls Tryz.prog 13 #[.pointer (some ⟨t, 0, none⟩), .string c] W fun e W' => e = .returned (.tuple #[.bool (Bk.add T c.data.toList).2.1, .int .i64 (Bk.add T c.data.toList).2.2]) ∧ Bk.Moved W W' t F (Bk.add T c.data.toList).1 := by
  obtain ⟨bm, L, hS, rfl⟩ := h
  obtain ⟨c0, c1, c2, c3, c4, c5⟩ := hS.six
  have hlk := hS.look c hc
  have hck := check_any T.w c W hw hc
  have hcs : c.data.toList.length = c.size := Array.length_toList
  have ht := hS.tree.lt
  obtain ⟨w1, w2, w3⟩ := Bt.wide_in hw
  clear hw
  by_cases h1 : c.size = T.w / 8
  · rw [if_pos h1] at hck
    have hA : Bk.add T c.data.toList = match Bk.find T.l c.data.toList with
      | none => ({ T with l := Bk.hang T.l c.data.toList }, true, 0)
      | some i => ({ T with l := Bk.setLive T.l i true }, !(Bk.liveAt T.l i), 0) := by
      unfold Bk.add; rw [if_pos (by omega)]
      cases Bk.find T.l c.data.toList <;> rfl
    rw [hA]
    clear hA
    cases hf : Bk.find T.l c.data.toList with
    | none =>
      rw [hf] at hlk
      simp only [Bk.adr, Option.bind_none, Bk.ptr] at hlk
      have hh := Bk.hang_any hS hG c h1 (by omega) hf hl hT
      clear hf hcs h1 w3
      simp only
      go_enter Tryz.func13, Tryz.ntmps13
      go_wp2_with (first
        | (go_at_call 31; refine hck.mono ?_; clear hck; rintro e w' ⟨rfl, rfl⟩)
        | (go_at_call 32; refine hh.mono ?_; clear hh; rintro e w' ⟨rfl, x, S', O', x1, x2⟩))
      go_ret2
      exact ⟨rfl, _, ⟨bm, _, S', rfl⟩, O', fun k hk => Bk.foot_snoc x1 x2 hk⟩
    | some i =>
      obtain ⟨n, hn, _⟩ := Bk.find_some hf
      obtain ⟨x, hx⟩ := hS.at' hn
      rw [hf] at hlk
      simp only [Bk.adr_at hx, Bk.ptr] at hlk
      simp only
      rw [Bk.liveAt_at hn]
      obtain ⟨a0, a1, a2, a3⟩ := hS.four hx hn
      have hls := Bk.live_setLive (b := true) hn
      have hll := Bk.live_le T.l
      have hsl := fun z hz => hS.setLive hx hn true z hz
      have q1 := (hS.node i x n hx hn).1.frozen 1
      have q3 := hS.tree.frozen 3
      have hne : x.blk ≠ t := (hS.apart.tx x (List.mem_of_getElem? hx)).1
      have hne' : t ≠ x.blk := fun e => hne e.symm
      cases hv : n.live with
      | true =>
        rw [hv] at a1 hls
        have hnn : Bk.setLive T.l i true = T.l := by
          unfold Bk.setLive
          apply List.ext_getElem?
          intro j
          rw [List.getElem?_modify]
          by_cases hij : i = j
          · subst hij
            rw [hn]
            simp [← hv]
          · simp [hij]
        rw [hnn]
        clear hf hcs h1 w3 hx hn hv hnn hls hsl
        go_enter Tryz.func13, Tryz.ntmps13
        go_wp2_with (go_at_call 31; refine hck.mono ?_; clear hck; rintro e w' ⟨rfl, rfl⟩)
        go_ret2
        exact ⟨rfl, _, ⟨bm, _, hS, rfl⟩, Bk.Only.refl _ _, fun k hk => .inl hk⟩
      | false =>
        rw [hv] at a1 hls
        have hz := hsl ((Bk.live T.l : Nat) + 1) (by simp at hls; omega)
        clear hf hcs h1 w3 hx hn hv hls hsl
        go_enter Tryz.func13, Tryz.ntmps13
        go_wp2_with (go_at_call 31; refine hck.mono ?_; clear hck; rintro e w' ⟨rfl, rfl⟩)
        go_ret2
        exact ⟨rfl, _, ⟨bm, _, hz.1, rfl⟩, hz.2, fun k hk => .inl hk⟩
  · rw [if_neg h1] at hck
    have hA : Bk.add T c.data.toList = (T, false, 11) := by unfold Bk.add; rw [if_neg (by omega)]
    rw [hA]
    clear hA hcs h1 hlk w3
    go_enter Tryz.func13, Tryz.ntmps13
    go_wp2_with (go_at_call 31; refine hck.mono ?_; clear hck; rintro e w' ⟨rfl, rfl⟩)
    go_ret2
    exact ⟨rfl, _, ⟨bm, _, hS, rfl⟩, Bk.Only.refl _ _, fun k hk => .inl hk⟩
end
end Go.Proofs.YtikhahkmebkccaaGreatDoor
