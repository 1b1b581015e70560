/- Disks in memory (the document's): accepted, step. Conditions: each theorem's own hypotheses. -/
import Derived.Test.YtgbeeghdoilmkaaDrF
namespace Go.Proofs.Ytgbeeghdoilmkaa
open Go.RowKit Go.Maps Go.Sort
set_option linter.unusedVariables false

theorem Dr.ins_first {f : Dk.F} {r : List Dk.F} (hr : ∀ y ∈ r, bytesBefore f.name y.name = true) : Dk.ins Dk.F.name f r = f :: r := by
  cases r with
  | nil => rfl
  | cons y r =>
    show (if bytesBefore f.name y.name = true then _ else _) = _
    rw [if_pos (hr y (List.mem_cons_self ..))]
/-- A file put in the place of one of its name. -/
theorem Dr.put_upd {nm : List UInt8} {f : Dk.F} (hn : f.name = nm) : ∀ {l : List Dk.F}, Dk.Up Dk.F.name l → ∀ {g : Dk.F}, Dk.get Dk.F.name nm l = some g → Dk.put Dk.F.name f l = Dk.upd nm f l
  | [], _, g, h => by cases h
  | z :: r, hu, g, h => by
    obtain ⟨h1, h2⟩ := List.pairwise_cons.1 hu
    unfold Dk.get at h
    rw [List.find?_cons] at h
    unfold Dk.put
    rw [hn]
    by_cases e : z.name = nm
    · have hne : ∀ y ∈ r, y.name ≠ nm := fun y hy e3 => by
        have hb := h1 y hy
        rw [e, e3, WideAt.bytes_irrefl] at hb
        cases hb
      have hd : Dk.del Dk.F.name nm (z :: r) = r := by
        unfold Dk.del
        rw [List.filter_cons]
        simp only [e, beq_self_eq_true, Bool.not_true, Bool.false_eq_true, if_false]
        exact List.filter_eq_self.2 fun y hy => by simp [hne y hy]
      rw [hd, Dr.ins_first fun y hy => by rw [hn, ← e]; exact h1 y hy]
      unfold Dk.upd
      rw [List.map_cons, if_pos e]
      refine congrArg _ ?_
      have : ∀ y ∈ r, (if y.name = nm then f else y) = y := fun y hy => if_neg (hne y hy)
      rw [List.map_congr_left this, List.map_id']
    · have e2 : (z.name == nm) = false := by simpa using e
      rw [e2] at h
      have hd : Dk.del Dk.F.name nm (z :: r) = z :: Dk.del Dk.F.name nm r := by
        unfold Dk.del
        rw [List.filter_cons, e2]; rfl
      have hm := Dk.get_mem (key := Dk.F.name) (nm := nm) (l := r) h
      have hb : bytesBefore z.name nm = true := by rw [← hm.2]; exact h1 _ hm.1
      have hnb : bytesBefore nm z.name = false := by
        cases h3 : bytesBefore nm z.name with
        | false => rfl
        | true =>
          have := WideShapes.bytes_trans _ _ _ hb h3
          rw [WideAt.bytes_irrefl] at this
          cases this
      rw [hd]
      show (if bytesBefore f.name z.name = true then _ else _) = _
      rw [hn, hnb, if_neg (by decide)]
      have hi := Dr.put_upd hn h2 h
      unfold Dk.put at hi
      rw [hn] at hi
      rw [hi]
      unfold Dk.upd
      rw [List.map_cons, if_neg e]
theorem Dr.upd_self {nm : List UInt8} : ∀ {l : List Dk.F}, Dk.Up Dk.F.name l → ∀ {f : Dk.F}, Dk.get Dk.F.name nm l = some f → Dk.upd nm f l = l := by
  intro l hu f h
  unfold Dk.upd
  have : ∀ y ∈ l, (if y.name = nm then f else y) = y := fun y hy => by
    split
    · rename_i e
      obtain ⟨h1, h2⟩ := Dk.get_mem h
      exact Dk.key_inj hu h1 hy (h2.trans e.symm)
    · rfl
  rw [List.map_congr_left this, List.map_id']
theorem Dr.del_comm (a b : List UInt8) (l : List Dk.F) : Dk.del Dk.F.name a (Dk.del Dk.F.name b l) = Dk.del Dk.F.name b (Dk.del Dk.F.name a l) := by
  unfold Dk.del
  rw [List.filter_filter, List.filter_filter]
  exact congrArg (fun p => List.filter p l) (funext fun y => Bool.and_comm _ _)
/-- What with makes of the files without one: what Rename makes. -/
theorem Dr.with_ren {old tn : List UInt8} {l : List Dk.F} (hu : Dk.Up Dk.F.name l) {f : Dk.F} (h : Dk.get Dk.F.name old l = some f) : Dr.with_ (Dk.named2 f tn) false (Dk.del Dk.F.name old l) = Dk.ren old tn f l := by
  have hn := (Dk.get_mem h).2
  rw [Dr.with_put _ (Dk.up_del Dk.F.name hu old)]
  unfold Dk.ren Dk.put
  show Dk.ins Dk.F.name (Dk.named2 f tn) (Dk.del Dk.F.name tn (Dk.del Dk.F.name old l)) = _
  by_cases e : old = tn
  · rw [if_pos e]
    subst e
    have h2 : Dk.del Dk.F.name old (Dk.del Dk.F.name old l) = Dk.del Dk.F.name old l := Dk.del_none fun y hy => ((Dk.mem_del Dk.F.name).1 hy).2
    have h3 : Dk.named2 f old = f := by unfold Dk.named2; rw [← hn]
    rw [h2, h3]
    have h4 := Dr.put_upd hn hu h
    unfold Dk.put at h4
    rw [hn] at h4
    rw [h4, Dr.upd_self hu h]
  · rw [if_neg e, Dr.del_comm]
/-- A write is counted. -/
def Dr.acc0 (m : Dk.M) : Dk.M := { m with writes := IntKind.i64.wrap (m.writes + 1), left := m.left - 1, off := if m.left = 0 then m.off else decide (m.left = 1) }
set_option maxRecDepth 100000 in
set_option maxHeartbeats 1000000 in
theorem Dr.accepted_any {W : World} {r : Nat} {v : Value} {m : Dk.M} (h : Dr.Stand W r v m) (hl : m.left ≤ 9223372036854775807) :
    Calls Try.prog 83 #[.pointer (some ⟨r, 0, none⟩)] W fun e W' => e = .returned (.bool (decide (m.left = 1))) ∧ Dr.Stand W' r v (Dr.acc0 m) ∧ Dk.Only (fun k => k = r) W W' := by
  obtain ⟨fs, cap, ag, wr, off, left, done⟩ := m
  obtain ⟨c0, c1, c2, c3, c4, c5, c6⟩ := h.seven
  simp only at c0 c1 c2 c3 c4 c5 c6 hl
  have f2 := h.blk.frozen 2
  have f3 := h.blk.frozen 3
  have f6 := h.blk.frozen 6
  unfold Dr.acc0
  simp only
  obtain ⟨wr2, hwr⟩ : ∃ z, IntKind.i64.wrap (wr + 1) = z := ⟨_, rfl⟩
  rw [hwr]
  have s6 := h.set 6 (.int .i64 wr2) ⟨fs, cap, ag, wr2, off, left, done⟩ rfl rfl
  have o6 : Dk.Only (fun k => k = r) W (W.setCell ⟨r, 6, none⟩ (.int .i64 wr2)) := Dk.Only.setCell (F := fun k => k = r) (Dk.Only.refl _ _) (.inl rfl) _
  match left with
  | 0 =>
    go_enter Try.func83, Try.ntmps83
    go_wp2_with fail
    go_ret
    exact ⟨rfl, s6, o6⟩
  | 1 =>
    go_enter Try.func83, Try.ntmps83
    go_wp2_with fail
    go_ret
    exact ⟨rfl, (s6.set 3 (.int .i64 0) ⟨fs, cap, ag, wr2, off, 0, done⟩ rfl rfl).set 2 (.bool true) ⟨fs, cap, ag, wr2, true, 0, done⟩ rfl rfl, (o6.setCell (.inl rfl) _).setCell (.inl rfl) _⟩
  | n + 2 =>
    have w1 : IntKind.i64.wrap (((n + 2 : Nat) : Int) - 1) = ((n + 1 : Nat) : Int) := (IntWalk.i64_in _ (by omega)).trans (by omega)
    have s3 := s6.set 3 (.int .i64 ((n + 1 : Nat) : Int)) ⟨fs, cap, ag, wr2, off, n + 1, done⟩ rfl rfl
    obtain ⟨a, ha⟩ : ∃ a : Nat, a = n + 2 := ⟨_, rfl⟩
    obtain ⟨b, hb⟩ : ∃ b : Nat, b = n + 1 := ⟨_, rfl⟩
    rw [← ha] at c3 w1
    rw [← hb] at w1 s3
    have t0 : ((a : Int) == 0) = false := beq_eq_false_iff_ne.2 (by omega)
    have t1 : ((b : Int) == 0) = false := beq_eq_false_iff_ne.2 (by omega)
    have s2 := s3.set 2 (.bool false) ⟨fs, cap, ag, wr2, false, b, done⟩ rfl rfl
    rw [show decide (n + 2 = 1) = false from decide_eq_false (by omega), if_neg (by omega), show n + 2 - 1 = b from by omega]
    clear h ha hb hl
    go_enter Try.func83, Try.ntmps83
    go_wp2_with fail
    go_ret
    exact ⟨rfl, s2, (o6.setCell (.inl rfl) _).setCell (.inl rfl) _⟩
set_option maxRecDepth 100000 in
set_option maxHeartbeats 1000000 in
theorem Dr.step_any {W : World} {r : Nat} {v v' : Value} {m : Dk.M} {fs : List Dk.F} (h : Dr.Stand W r v m) (hl : m.left ≤ 9223372036854775807) (hoff : m.off = false) (ho : Dr.Own W 0 v' fs) (hr : v'.ownBlock ≠ some r) :
    Calls Try.prog 67 #[.pointer (some ⟨r, 0, none⟩), v'] W fun e W' => e = .returned (.int .i64 (Dk.acc m m.done fs).2) ∧ ∃ v2, Dr.Stand W' r v2 (Dk.acc m m.done fs).1 ∧ Dk.Only (fun k => k = r) W W' ∧ (v2 = v' ∨ v2 = v) := by
  have ka := Dr.accepted_any h hl
  obtain ⟨f0, cap, ag, wr, off, left, done⟩ := m
  simp only at hoff hl
  subst hoff
  unfold Dr.acc0 at ka
  unfold Dk.acc
  simp only at ka ⊢
  have own2 : ∀ {w}, Dk.Only (fun k => k = r) W w → Dr.Own w 0 v' fs := fun hw => ho.keep fun k hk => hw.block k (ho.lt hk).2 fun e => hr (e ▸ hk)
  obtain ⟨a, c, rfl⟩ := ho.form
  match left with
  | 0 =>
    rw [if_pos rfl]
    go_enter Try.func67, Try.ntmps67
    go_wp2_with (go_at_call 83; refine ka.mono ?_; rintro e w1 ⟨rfl, s1, o1⟩; have f1 := s1.blk.frozen 1; obtain ⟨c0, c1, c2, c3, c4, c5, c6⟩ := s1.seven)
    go_ret
    exact ⟨rfl, _, s1.files (own2 o1), o1.setCell (.inl rfl) _, .inl rfl⟩
  | 1 =>
    rw [if_neg (by decide), if_neg (by decide)]
    cases done with
    | true =>
      go_enter Try.func67, Try.ntmps67
      go_wp2_with (go_at_call 83; refine ka.mono ?_; rintro e w1 ⟨rfl, s1, o1⟩; have f1 := s1.blk.frozen 1; obtain ⟨c0, c1, c2, c3, c4, c5, c6⟩ := s1.seven)
      go_ret
      exact ⟨rfl, _, s1.files (own2 o1), o1.setCell (.inl rfl) _, .inl rfl⟩
    | false =>
      go_enter Try.func67, Try.ntmps67
      go_wp2_with (go_at_call 83; refine ka.mono ?_; rintro e w1 ⟨rfl, s1, o1⟩; have f1 := s1.blk.frozen 1; obtain ⟨c0, c1, c2, c3, c4, c5, c6⟩ := s1.seven)
      go_ret
      exact ⟨rfl, _, s1, o1, .inr rfl⟩
  | n + 2 =>
    rw [if_neg (by omega), if_pos (by omega)]
    rw [show decide (n + 2 = 1) = false from decide_eq_false (by omega), if_neg (by omega)] at ka
    go_enter Try.func67, Try.ntmps67
    go_wp2_with (go_at_call 83; refine ka.mono ?_; rintro e w1 ⟨rfl, s1, o1⟩; have f1 := s1.blk.frozen 1; obtain ⟨c0, c1, c2, c3, c4, c5, c6⟩ := s1.seven)
    go_ret
    exact ⟨rfl, _, s1.files (own2 o1), o1.setCell (.inl rfl) _, .inl rfl⟩
#print axioms Dr.step_any
end Go.Proofs.Ytgbeeghdoilmkaa
/- Disks in memory (the document's): Create, Delete. Conditions: each theorem's own hypotheses. -/
namespace Go.Proofs.Ytgbeeghdoilmkaa
open Go.RowKit Go.Maps Go.Sort
set_option linter.unusedVariables false

theorem Dr.Moved.same {W W' : World} {r : Nat} {m : Dk.M} {F : Nat → Prop} (h : Dr.At W r m F) (hB : Below W.heap.size W W') : Dr.Moved W W' r F m :=
  ⟨F, h.later hB (Nat.le_refl _), .of hB, fun k hk => .inl hk⟩
theorem Dr.Moved.step {W w W' : World} {r : Nat} {v v' v2 : Value} {m' : Dk.M} {fs : List Dk.F} (hB : Below W.heap.size W w) (ho : Dr.Own w W.heap.size v' fs)
    (hs : Dr.Stand W' r v2 m') (h : Dk.Only (fun k => k = r) w W') (hv : v2 = v' ∨ v2 = v) : Dr.Moved W W' r (Dr.foot r v) m' := by
  refine ⟨_, ⟨v2, hs, rfl⟩, (Dk.Only.of hB).trans (h.wide fun k _ e => .inl e), fun k hk => ?_⟩
  rcases hk with rfl | hk
  · exact .inl (.inl rfl)
  rcases hv with rfl | rfl
  · exact .inr (ho.lt hk).1
  · exact .inl (.inr hk)
/-- A step with a new row. -/
theorem Dr.Stand.step {W w : World} {r : Nat} {v v' : Value} {m : Dk.M} {fs : List Dk.F} (h : Dr.Stand W r v m) (hG : Dk.Good m) (hoff : m.off = false) (hB : Below W.heap.size W w) (ho : Dr.Own w W.heap.size v' fs) :
    Calls Try.prog 67 #[.pointer (some ⟨r, 0, none⟩), v'] w fun e W' => e = .returned (.int .i64 (Dk.acc m m.done fs).2) ∧ Dr.Moved W W' r (Dr.foot r v) (Dk.acc m m.done fs).1 := by
  have hrl := h.blk.lt
  refine (Dr.step_any (h.later hB (Nat.le_refl _)) hG.left hoff (ho.base fun _ _ => Nat.zero_le _) (fun e => by have := (ho.lt e).1; omega)).mono ?_
  rintro e W' ⟨rfl, v2, s2, o2, hv⟩
  exact ⟨rfl, Dr.Moved.step hB ho s2 o2 hv⟩
section
variable {W : World} {r : Nat} {m : Dk.M} {F : Nat → Prop}
set_option maxRecDepth 100000 in
set_option maxHeartbeats 1000000 in
theorem Dr.create_any (h : Dr.At W r m F) (hG : Dk.Good m) (s : ByteArray) (hs : s.size ≤ 9223372036854775807) :
    Calls Try.prog 34 #[.pointer (some ⟨r, 0, none⟩), .string s] W fun e W' => e = .returned (.int .i64 (Dk.create m s.data.toList).2) ∧ Dr.Moved W W' r F (Dk.create m s.data.toList).1 := by
  have h0 := h
  obtain ⟨v, hS, rfl⟩ := h
  obtain ⟨k, hk, hcall⟩ := Dr.look_any hS hG.many s hs
  clear hk
  unfold Dk.create
  by_cases h1 : Dk.code m s.data.toList = 0
  · rw [if_pos h1]
    rw [h1] at hcall
    clear h1
    go_enter Try.func34, Try.ntmps34
    go_wp2_with (go_at_call 66; refine hcall.mono ?_; rintro e w' ⟨rfl, rfl⟩)
    go_ret
    exact ⟨rfl, .same h0 (Below.refl _ _)⟩
  rw [if_neg h1]
  by_cases h2 : Dk.code m s.data.toList ≠ 42
  · rw [if_pos h2]
    obtain ⟨c, hc⟩ : ∃ c, Dk.code m s.data.toList = c := ⟨_, rfl⟩
    rw [hc] at hcall h1 h2 ⊢
    have t1 : (c == 0) = false := beq_eq_false_iff_ne.2 h1
    have t2 : (c != 42) = true := bne_iff_ne.2 h2
    clear hc h1 h2
    go_enter Try.func34, Try.ntmps34
    go_wp2_with (go_at_call 66; refine hcall.mono ?_; rintro e w' ⟨rfl, rfl⟩)
    go_ret
    exact ⟨rfl, .same h0 (Below.refl _ _)⟩
  rw [if_neg h2]
  have hc : Dk.code m s.data.toList = 42 := Decidable.not_not.1 h2
  obtain ⟨q1, q2, q3⟩ := Dk.code_none hc
  rw [hc] at hcall
  clear hc h1 h2
  obtain ⟨c0, c1, c2, c3, c4, c5, c6⟩ := hS.seven
  obtain ⟨a, cp, hv⟩ := hS.row.form
  have hmany := hG.many
  by_cases hm : 4096 ≤ m.files.length
  · rw [if_pos hm]
    rw [hv] at c1
    have t1 : ((m.files.length : Int) == 4096) = true := by rw [beq_iff_eq]; omega
    clear hv
    go_enter Try.func34, Try.ntmps34
    go_wp2_with (go_at_call 66; refine hcall.mono ?_; rintro e w' ⟨rfl, rfl⟩)
    go_ret
    exact ⟨rfl, .same h0 (Below.refl _ _)⟩
  · rw [if_neg hm]
    have t1 : ((m.files.length : Int) == 4096) = false := beq_eq_false_iff_ne.2 (by omega)
    have kw := Dr.with_any hS.row (by omega) (Dk.empty s.data.toList) (fb := s) (fd := ⟨#[]⟩) rfl rfl
    rw [Dr.with_put _ hG.up] at kw
    unfold Dk.put at kw
    rw [show (Dk.empty s.data.toList).name = s.data.toList from rfl, Dk.del_none (Dk.get_none q2), show (((Dk.empty s.data.toList).sure : Nat) : Int) = 0 from rfl] at kw
    obtain ⟨fs, hfs⟩ : ∃ fs, Dk.ins Dk.F.name (Dk.empty s.data.toList) m.files = fs := ⟨_, rfl⟩
    rw [hfs] at kw ⊢
    have ks := fun {w v'} hB ho => hS.step (w := w) (v' := v') (fs := fs) hG q3 hB ho
    obtain ⟨Z, hZ⟩ : ∃ Z, Dk.acc m m.done fs = Z := ⟨_, rfl⟩
    rw [hZ] at ks ⊢
    subst hv
    clear hfs hZ hm hmany q1 q2 q3
    go_enter Try.func34, Try.ntmps34
    go_wp2_with (first
      | (go_at_call 66; refine hcall.mono ?_; rintro e w' ⟨rfl, rfl⟩)
      | (go_at_call 68; refine kw.mono ?_; rintro e w1 ⟨v1, rfl, o1, b1⟩)
      | (go_at_call 67; refine (ks b1 o1).mono ?_; rintro e w2 ⟨rfl, hm2⟩))
    go_ret
    exact ⟨rfl, hm2⟩
set_option maxRecDepth 100000 in
set_option maxHeartbeats 1000000 in
theorem Dr.delete_any (h : Dr.At W r m F) (hG : Dk.Good m) (s : ByteArray) (hs : s.size ≤ 9223372036854775807) :
    Calls Try.prog 69 #[.pointer (some ⟨r, 0, none⟩), .string s] W fun e W' => e = .returned (.int .i64 (Dk.delete m s.data.toList).2) ∧ Dr.Moved W W' r F (Dk.delete m s.data.toList).1 := by
  have h0 := h
  obtain ⟨v, hS, rfl⟩ := h
  obtain ⟨k, hk, hcall⟩ := Dr.look_any hS hG.many s hs
  clear hk
  unfold Dk.delete
  by_cases h1 : Dk.code m s.data.toList ≠ 0
  · rw [if_pos h1]
    obtain ⟨c, hc⟩ : ∃ c, Dk.code m s.data.toList = c := ⟨_, rfl⟩
    rw [hc] at hcall h1 ⊢
    have t1 : (c != 0) = true := bne_iff_ne.2 h1
    clear hc h1
    go_enter Try.func69, Try.ntmps69
    go_wp2_with (go_at_call 66; refine hcall.mono ?_; rintro e w' ⟨rfl, rfl⟩)
    go_ret
    exact ⟨rfl, .same h0 (Below.refl _ _)⟩
  rw [if_neg h1]
  have hc : Dk.code m s.data.toList = 0 := Decidable.not_not.1 h1
  obtain ⟨q1, q2, q3, q4, q5⟩ := Dk.code_zero hc
  rw [hc] at hcall
  obtain ⟨c0, c1, c2, c3, c4, c5, c6⟩ := hS.seven
  have hmany := hG.many
  have kw := Dr.without_any hS.row (by omega) s
  obtain ⟨fs, hfs⟩ : ∃ fs, Dk.del Dk.F.name s.data.toList m.files = fs := ⟨_, rfl⟩
  rw [hfs] at kw ⊢
  have ks := fun {w v'} hB ho => hS.step (w := w) (v' := v') (fs := fs) hG q1 hB ho
  obtain ⟨Z, hZ⟩ : ∃ Z, Dk.acc m m.done fs = Z := ⟨_, rfl⟩
  rw [hZ] at ks ⊢
  clear hfs hZ hmany q1 q2 q3 q4 q5 hc h1
  go_enter Try.func69, Try.ntmps69
  go_wp2_with (first
    | (go_at_call 66; refine hcall.mono ?_; rintro e w' ⟨rfl, rfl⟩)
    | (go_at_call 84; refine kw.mono ?_; rintro e w1 ⟨v1, rfl, o1, b1⟩)
    | (go_at_call 67; refine (ks b1 o1).mono ?_; rintro e w2 ⟨rfl, hm2⟩))
  go_ret
  exact ⟨rfl, hm2⟩
end
#print axioms Dr.create_any
#print axioms Dr.delete_any
end Go.Proofs.Ytgbeeghdoilmkaa
