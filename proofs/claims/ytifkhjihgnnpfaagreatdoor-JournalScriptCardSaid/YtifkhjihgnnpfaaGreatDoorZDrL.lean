/- Disks in memory (the document's): accepted, step. Conditions: each theorem's own hypotheses. -/
import Derived.Test.YtifkhjihgnnpfaaGreatDoorZDrF
import Derived.Deep.RegionHeldLaw
import Derived.Deep.QuietTactic
namespace Go.Proofs.YtifkhjihgnnpfaaGreatDoor
open Go.RowKit Go.Maps Go.Sort
set_option linter.unusedVariables false

theorem Dr.ins_first {f : Dk.F} {r : List Dk.F} (hr : ∀ y ∈ r, bytesBefore f.name y.name = true) : Dk.ins Dk.F.name f r = f :: r := by
  cases r with
  | nil => rfl
  | cons y r =>
    show (if bytesBefore f.name y.name = true then _ else _) = _
    rw [if_pos (hr y (List.mem_cons_self ..))]
/-- A file put in the place of one of its name. -/
theorem Dr.put_upd {nm : List UInt8} {f : Dk.F} (hn : f.name = nm) : ∀ {l : List Dk.F}, Dk.Up Dk.F.name l → ∀ {g : Dk.F}, Dk.get Dk.F.name nm l = some g → Dk.put Dk.F.name f l = Dk.upd nm f l
  | [], _, g, h => by cases h
  | z :: r, hu, g, h => by
    obtain ⟨h1, h2⟩ := List.pairwise_cons.1 hu
    unfold Dk.get at h
    rw [List.find?_cons] at h
    unfold Dk.put
    rw [hn]
    by_cases e : z.name = nm
    · have hne : ∀ y ∈ r, y.name ≠ nm := fun y hy e3 => by
        have hb := h1 y hy
        rw [e, e3, WideAt.bytes_irrefl] at hb
        cases hb
      have hd : Dk.del Dk.F.name nm (z :: r) = r := by
        unfold Dk.del
        rw [List.filter_cons]
        simp only [e, beq_self_eq_true, Bool.not_true, Bool.false_eq_true, if_false]
        exact List.filter_eq_self.2 fun y hy => by simp [hne y hy]
      rw [hd, Dr.ins_first fun y hy => by rw [hn, ← e]; exact h1 y hy]
      unfold Dk.upd
      rw [List.map_cons, if_pos e]
      refine congrArg _ ?_
      have : ∀ y ∈ r, (if y.name = nm then f else y) = y := fun y hy => if_neg (hne y hy)
      rw [List.map_congr_left this, List.map_id']
    · have e2 : (z.name == nm) = false := by simpa using e
      rw [e2] at h
      have hd : Dk.del Dk.F.name nm (z :: r) = z :: Dk.del Dk.F.name nm r := by
        unfold Dk.del
        rw [List.filter_cons, e2]; rfl
      have hm := Dk.get_mem (key := Dk.F.name) (nm := nm) (l := r) h
      have hb : bytesBefore z.name nm = true := by rw [← hm.2]; exact h1 _ hm.1
      have hnb : bytesBefore nm z.name = false := by
        cases h3 : bytesBefore nm z.name with
        | false => rfl
        | true =>
          have := WideShapes.bytes_trans _ _ _ hb h3
          rw [WideAt.bytes_irrefl] at this
          cases this
      rw [hd]
      show (if bytesBefore f.name z.name = true then _ else _) = _
      rw [hn, hnb, if_neg (by decide)]
      have hi := Dr.put_upd hn h2 h
      unfold Dk.put at hi
      rw [hn] at hi
      rw [hi]
      unfold Dk.upd
      rw [List.map_cons, if_neg e]
theorem Dr.upd_self {nm : List UInt8} : ∀ {l : List Dk.F}, Dk.Up Dk.F.name l → ∀ {f : Dk.F}, Dk.get Dk.F.name nm l = some f → Dk.upd nm f l = l := by
  intro l hu f h
  unfold Dk.upd
  have : ∀ y ∈ l, (if y.name = nm then f else y) = y := fun y hy => by
    split
    · rename_i e
      obtain ⟨h1, h2⟩ := Dk.get_mem h
      exact Dk.key_inj hu h1 hy (h2.trans e.symm)
    · rfl
  rw [List.map_congr_left this, List.map_id']
theorem Dr.del_comm (a b : List UInt8) (l : List Dk.F) : Dk.del Dk.F.name a (Dk.del Dk.F.name b l) = Dk.del Dk.F.name b (Dk.del Dk.F.name a l) := by
  unfold Dk.del
  rw [List.filter_filter, List.filter_filter]
  exact congrArg (fun p => List.filter p l) (funext fun y => Bool.and_comm _ _)
/-- What with makes of the files without one: what Rename makes. -/
theorem Dr.with_ren {old tn : List UInt8} {l : List Dk.F} (hu : Dk.Up Dk.F.name l) {f : Dk.F} (h : Dk.get Dk.F.name old l = some f) : Dr.with_ (Dk.named2 f tn) false (Dk.del Dk.F.name old l) = Dk.ren old tn f l := by
  have hn := (Dk.get_mem h).2
  rw [Dr.with_put _ (Dk.up_del Dk.F.name hu old)]
  unfold Dk.ren Dk.put
  show Dk.ins Dk.F.name (Dk.named2 f tn) (Dk.del Dk.F.name tn (Dk.del Dk.F.name old l)) = _
  by_cases e : old = tn
  · rw [if_pos e]
    subst e
    have h2 : Dk.del Dk.F.name old (Dk.del Dk.F.name old l) = Dk.del Dk.F.name old l := Dk.del_none fun y hy => ((Dk.mem_del Dk.F.name).1 hy).2
    have h3 : Dk.named2 f old = f := by unfold Dk.named2; rw [← hn]
    rw [h2, h3]
    have h4 := Dr.put_upd hn hu h
    unfold Dk.put at h4
    rw [hn] at h4
    rw [h4, Dr.upd_self hu h]
  · rw [if_neg e, Dr.del_comm]
/-- A write is counted. -/
def Dr.acc0 (m : Dk.M) : Dk.M := { m with writes := IntKind.i64.wrap (m.writes + 1), left := m.left - 1, off := if m.left = 0 then m.off else decide (m.left = 1) }
set_option maxRecDepth 100000 in
set_option maxHeartbeats 1000000 in
theorem Dr.accepted_any {W : World} {r : Nat} {v : Value} {m : Dk.M} (h : Dr.Stand W r v m) (hl : m.left ≤ 9223372036854775807) :
    Calls Tryz.prog 69 #[.pointer (some ⟨r, 0, none⟩)] W fun e W' => e = .returned (.bool (decide (m.left = 1))) ∧ Dr.Stand W' r v (Dr.acc0 m) ∧ Dk.Only (fun k => k = r) W W' := by
  obtain ⟨fs, cap, ag, wr, off, left, done⟩ := m
  obtain ⟨c0, c1, c2, c3, c4, c5, c6⟩ := h.seven
  simp only at c0 c1 c2 c3 c4 c5 c6 hl
  have f2 := h.blk.frozen 2
  have f3 := h.blk.frozen 3
  have f6 := h.blk.frozen 6
  unfold Dr.acc0
  simp only
  obtain ⟨wr2, hwr⟩ : ∃ z, IntKind.i64.wrap (wr + 1) = z := ⟨_, rfl⟩
  rw [hwr]
  have s6 := h.set 6 (.int .i64 wr2) ⟨fs, cap, ag, wr2, off, left, done⟩ rfl rfl
  have o6 : Dk.Only (fun k => k = r) W (W.setCell ⟨r, 6, none⟩ (.int .i64 wr2)) := Dk.Only.setCell (F := fun k => k = r) (Dk.Only.refl _ _) (.inl rfl) _
  match left with
  | 0 =>
    go_enter Tryz.func69, Tryz.ntmps69
    go_wp2_with fail
    go_ret
    exact ⟨rfl, s6, o6⟩
  | 1 =>
    go_enter Tryz.func69, Tryz.ntmps69
    go_wp2_with fail
    go_ret
    exact ⟨rfl, (s6.set 3 (.int .i64 0) ⟨fs, cap, ag, wr2, off, 0, done⟩ rfl rfl).set 2 (.bool true) ⟨fs, cap, ag, wr2, true, 0, done⟩ rfl rfl, (o6.setCell (.inl rfl) _).setCell (.inl rfl) _⟩
  | n + 2 =>
    have w1 : IntKind.i64.wrap (((n + 2 : Nat) : Int) - 1) = ((n + 1 : Nat) : Int) := (IntWalk.i64_in _ (by omega)).trans (by omega)
    have s3 := s6.set 3 (.int .i64 ((n + 1 : Nat) : Int)) ⟨fs, cap, ag, wr2, off, n + 1, done⟩ rfl rfl
    obtain ⟨a, ha⟩ : ∃ a : Nat, a = n + 2 := ⟨_, rfl⟩
    obtain ⟨b, hb⟩ : ∃ b : Nat, b = n + 1 := ⟨_, rfl⟩
    rw [← ha] at c3 w1
    rw [← hb] at w1 s3
    have t0 : ((a : Int) == 0) = false := beq_eq_false_iff_ne.2 (by omega)
    have t1 : ((b : Int) == 0) = false := beq_eq_false_iff_ne.2 (by omega)
    have s2 := s3.set 2 (.bool false) ⟨fs, cap, ag, wr2, false, b, done⟩ rfl rfl
    rw [show decide (n + 2 = 1) = false from decide_eq_false (by omega), if_neg (by omega), show n + 2 - 1 = b from by omega]
    clear h ha hb hl
    go_enter Tryz.func69, Tryz.ntmps69
    go_wp2_with fail
    go_ret
    exact ⟨rfl, s2, (o6.setCell (.inl rfl) _).setCell (.inl rfl) _⟩
set_option maxRecDepth 100000 in
set_option maxHeartbeats 1000000 in
theorem Dr.step_any {W : World} {r : Nat} {v v' : Value} {m : Dk.M} {fs : List Dk.F} (h : Dr.Stand W r v m) (hl : m.left ≤ 9223372036854775807) (hoff : m.off = false) (ho : Dr.Own W 0 v' fs) (hr : v'.ownBlock ≠ some r) :
    Calls Tryz.prog 65 #[.pointer (some ⟨r, 0, none⟩), v'] W fun e W' => e = .returned (.int .i64 (Dk.acc m m.done fs).2) ∧ ∃ v2, Dr.Stand W' r v2 (Dk.acc m m.done fs).1 ∧ Dk.Only (fun k => k = r) W W' ∧ (v2 = v' ∨ v2 = v) := by
  have ka := Dr.accepted_any h hl
  obtain ⟨f0, cap, ag, wr, off, left, done⟩ := m
  simp only at hoff hl
  subst hoff
  unfold Dr.acc0 at ka
  unfold Dk.acc
  simp only at ka ⊢
  have own2 : ∀ {w}, Dk.Only (fun k => k = r) W w → Dr.Own w 0 v' fs := fun hw => ho.keep fun k hk => hw.block k (ho.lt hk).2 fun e => hr (e ▸ hk)
  obtain ⟨a, c, rfl⟩ := ho.form
  match left with
  | 0 =>
    rw [if_pos rfl]
    go_enter Tryz.func65, Tryz.ntmps65
    go_wp2_with (go_at_call 69; refine ka.mono ?_; rintro e w1 ⟨rfl, s1, o1⟩; have f1 := s1.blk.frozen 1; obtain ⟨c0, c1, c2, c3, c4, c5, c6⟩ := s1.seven)
    go_ret
    exact ⟨rfl, _, s1.files (own2 o1), o1.setCell (.inl rfl) _, .inl rfl⟩
  | 1 =>
    rw [if_neg (by decide), if_neg (by decide)]
    cases done with
    | true =>
      go_enter Tryz.func65, Tryz.ntmps65
      go_wp2_with (go_at_call 69; refine ka.mono ?_; rintro e w1 ⟨rfl, s1, o1⟩; have f1 := s1.blk.frozen 1; obtain ⟨c0, c1, c2, c3, c4, c5, c6⟩ := s1.seven)
      go_ret
      exact ⟨rfl, _, s1.files (own2 o1), o1.setCell (.inl rfl) _, .inl rfl⟩
    | false =>
      go_enter Tryz.func65, Tryz.ntmps65
      go_wp2_with (go_at_call 69; refine ka.mono ?_; rintro e w1 ⟨rfl, s1, o1⟩; have f1 := s1.blk.frozen 1; obtain ⟨c0, c1, c2, c3, c4, c5, c6⟩ := s1.seven)
      go_ret
      exact ⟨rfl, _, s1, o1, .inr rfl⟩
  | n + 2 =>
    rw [if_neg (by omega), if_pos (by omega)]
    rw [show decide (n + 2 = 1) = false from decide_eq_false (by omega), if_neg (by omega)] at ka
    go_enter Tryz.func65, Tryz.ntmps65
    go_wp2_with (go_at_call 69; refine ka.mono ?_; rintro e w1 ⟨rfl, s1, o1⟩; have f1 := s1.blk.frozen 1; obtain ⟨c0, c1, c2, c3, c4, c5, c6⟩ := s1.seven)
    go_ret
    exact ⟨rfl, _, s1.files (own2 o1), o1.setCell (.inl rfl) _, .inl rfl⟩
#print axioms Dr.step_any
end Go.Proofs.YtifkhjihgnnpfaaGreatDoor
/- Disks in memory (the document's): Create, Delete. Conditions: each theorem's own hypotheses. -/
namespace Go.Proofs.YtifkhjihgnnpfaaGreatDoor
open Go.RowKit Go.Maps Go.Sort
set_option linter.unusedVariables false

theorem Dr.Moved.same {W W' : World} {r : Nat} {m : Dk.M} {F : Nat → Prop} (h : Dr.At W r m F) (hB : Below W.heap.size W W') : Dr.Moved W W' r F m :=
  ⟨F, h.later hB (Nat.le_refl _), .of hB, fun k hk => .inl hk⟩
theorem Dr.Moved.step {W w W' : World} {r : Nat} {v v' v2 : Value} {m' : Dk.M} {fs : List Dk.F} (hB : Below W.heap.size W w) (ho : Dr.Own w W.heap.size v' fs)
    (hs : Dr.Stand W' r v2 m') (h : Dk.Only (fun k => k = r) w W') (hv : v2 = v' ∨ v2 = v) : Dr.Moved W W' r (Dr.foot r v) m' := by
  refine ⟨_, ⟨v2, hs, rfl⟩, (Dk.Only.of hB).trans (h.wide fun k _ e => .inl e), fun k hk => ?_⟩
  rcases hk with rfl | hk
  · exact .inl (.inl rfl)
  rcases hv with rfl | rfl
  · exact .inr (ho.lt hk).1
  · exact .inl (.inr hk)
/-- A step with a new row. -/
theorem Dr.Stand.step {W w : World} {r : Nat} {v v' : Value} {m : Dk.M} {fs : List Dk.F} (h : Dr.Stand W r v m) (hG : Dk.Good m) (hoff : m.off = false) (hB : Below W.heap.size W w) (ho : Dr.Own w W.heap.size v' fs) :
    Calls Tryz.prog 65 #[.pointer (some ⟨r, 0, none⟩), v'] w fun e W' => e = .returned (.int .i64 (Dk.acc m m.done fs).2) ∧ Dr.Moved W W' r (Dr.foot r v) (Dk.acc m m.done fs).1 := by
  have hrl := h.blk.lt
  refine (Dr.step_any (h.later hB (Nat.le_refl _)) hG.left hoff (ho.base fun _ _ => Nat.zero_le _) (fun e => by have := (ho.lt e).1; omega)).mono ?_
  rintro e W' ⟨rfl, v2, s2, o2, hv⟩
  exact ⟨rfl, Dr.Moved.step hB ho s2 o2 hv⟩
section
variable {W : World} {r : Nat} {m : Dk.M} {F : Nat → Prop}
set_option maxRecDepth 100000 in
set_option maxHeartbeats 1000000 in
theorem Dr.create_any (h : Dr.At W r m F) (hG : Dk.Good m) (s : ByteArray) (hs : s.size ≤ 9223372036854775807) :
    Calls Tryz.prog 38 #[.pointer (some ⟨r, 0, none⟩), .string s] W fun e W' => e = .returned (.int .i64 (Dk.create m s.data.toList).2) ∧ Dr.Moved W W' r F (Dk.create m s.data.toList).1 := by
  have h0 := h
  obtain ⟨v, hS, rfl⟩ := h
  obtain ⟨k, hk, hcall⟩ := Dr.look_any hS hG.many s hs
  clear hk
  unfold Dk.create
  by_cases h1 : Dk.code m s.data.toList = 0
  · rw [if_pos h1]
    rw [h1] at hcall
    clear h1
    go_enter Tryz.func38, Tryz.ntmps38
    go_wp2_with (go_at_call 64; refine hcall.mono ?_; rintro e w' ⟨rfl, rfl⟩)
    go_ret
    exact ⟨rfl, .same h0 (Below.refl _ _)⟩
  rw [if_neg h1]
  by_cases h2 : Dk.code m s.data.toList ≠ 42
  · rw [if_pos h2]
    obtain ⟨c, hc⟩ : ∃ c, Dk.code m s.data.toList = c := ⟨_, rfl⟩
    rw [hc] at hcall h1 h2 ⊢
    have t1 : (c == 0) = false := beq_eq_false_iff_ne.2 h1
    have t2 : (c != 42) = true := bne_iff_ne.2 h2
    clear hc h1 h2
    go_enter Tryz.func38, Tryz.ntmps38
    go_wp2_with (go_at_call 64; refine hcall.mono ?_; rintro e w' ⟨rfl, rfl⟩)
    go_ret
    exact ⟨rfl, .same h0 (Below.refl _ _)⟩
  rw [if_neg h2]
  have hc : Dk.code m s.data.toList = 42 := Decidable.not_not.1 h2
  obtain ⟨q1, q2, q3⟩ := Dk.code_none hc
  rw [hc] at hcall
  clear hc h1 h2
  obtain ⟨c0, c1, c2, c3, c4, c5, c6⟩ := hS.seven
  obtain ⟨a, cp, hv⟩ := hS.row.form
  have hmany := hG.many
  by_cases hm : 4096 ≤ m.files.length
  · rw [if_pos hm]
    rw [hv] at c1
    have t1 : ((m.files.length : Int) == 4096) = true := by rw [beq_iff_eq]; omega
    clear hv
    go_enter Tryz.func38, Tryz.ntmps38
    go_wp2_with (go_at_call 64; refine hcall.mono ?_; rintro e w' ⟨rfl, rfl⟩)
    go_ret
    exact ⟨rfl, .same h0 (Below.refl _ _)⟩
  · rw [if_neg hm]
    have t1 : ((m.files.length : Int) == 4096) = false := beq_eq_false_iff_ne.2 (by omega)
    have kw := Dr.with_any hS.row (by omega) (Dk.empty s.data.toList) (fb := s) (fd := ⟨#[]⟩) rfl rfl
    rw [Dr.with_put _ hG.up] at kw
    unfold Dk.put at kw
    rw [show (Dk.empty s.data.toList).name = s.data.toList from rfl, Dk.del_none (Dk.get_none q2), show (((Dk.empty s.data.toList).sure : Nat) : Int) = 0 from rfl] at kw
    obtain ⟨fs, hfs⟩ : ∃ fs, Dk.ins Dk.F.name (Dk.empty s.data.toList) m.files = fs := ⟨_, rfl⟩
    rw [hfs] at kw ⊢
    have ks := fun {w v'} hB ho => hS.step (w := w) (v' := v') (fs := fs) hG q3 hB ho
    obtain ⟨Z, hZ⟩ : ∃ Z, Dk.acc m m.done fs = Z := ⟨_, rfl⟩
    rw [hZ] at ks ⊢
    subst hv
    clear hfs hZ hm hmany q1 q2 q3
    go_enter Tryz.func38, Tryz.ntmps38
    go_wp2_with (first
      | (go_at_call 64; refine hcall.mono ?_; rintro e w' ⟨rfl, rfl⟩)
      | (go_at_call 66; refine kw.mono ?_; rintro e w1 ⟨v1, rfl, o1, b1⟩)
      | (go_at_call 65; refine (ks b1 o1).mono ?_; rintro e w2 ⟨rfl, hm2⟩))
    go_ret
    exact ⟨rfl, hm2⟩
end
#print axioms Dr.create_any
end Go.Proofs.YtifkhjihgnnpfaaGreatDoor
/- Disks in memory (the document's): Rename. Conditions: each theorem's own hypotheses. -/
namespace Go.Proofs.YtifkhjihgnnpfaaGreatDoor
open Go.RowKit Go.Maps Go.Sort
set_option linter.unusedVariables false

/-- The load of the list of files, under a name (Rename). -/
def Dr.o44 : Op := Op.load 45 (Operand.tmp 43)
attribute [go_sem] Dr.o44
/-- A file's cells in a block. -/
def Dr.P3 (p : Nat) (nb db : ByteArray) (n : Nat) (W : World) : Prop := W.cell? ⟨p, 0, none⟩ = some (.string nb) ∧ W.cell? ⟨p, 1, none⟩ = some (.string db) ∧ W.cell? ⟨p, 2, none⟩ = some (.int .i64 n)
theorem Dr.P3.keep {p : Nat} {nb db : ByteArray} {n : Nat} {W W' : World} (h : Dr.P3 p nb db n W) (hk : W'.heap[p]? = W.heap[p]?) : Dr.P3 p nb db n W' :=
  ⟨(World.cell?_of_block hk).trans h.1, (World.cell?_of_block hk).trans h.2.1, (World.cell?_of_block hk).trans h.2.2⟩
theorem Dr.P3.blk {p : Nat} {nb db : ByteArray} {n : Nat} {W : World} {t : TypeId} (h : Blk W p t #[.string nb, .string db, .int .i64 n]) : Dr.P3 p nb db n W := ⟨h.cell 0, h.cell 1, h.cell 2⟩
section
variable {W : World} {r : Nat} {m : Dk.M} {F : Nat → Prop}
end
end Go.Proofs.YtifkhjihgnnpfaaGreatDoor
/- Disks in memory (the document's): Cut. Conditions: each theorem's own hypotheses. -/
namespace Go.Proofs.YtifkhjihgnnpfaaGreatDoor
open Go.RowKit Go.Maps Go.Sort
set_option linter.unusedVariables false

/-- The load of the list of files, under a name (Cut). -/
def Dr.o50 : Op := Op.load 45 (Operand.tmp 49)
attribute [go_sem] Dr.o50
section
variable {W : World} {r : Nat} {m : Dk.M} {F : Nat → Prop}
set_option maxRecDepth 100000 in
set_option maxHeartbeats 2000000 in
theorem Dr.cut_any (h : Dr.At W r m F) (hG : Dk.Good m) (s : ByteArray) (hs : s.size ≤ 9223372036854775807) (n : Int) (hn : -9223372036854775808 ≤ n ∧ n < 9223372036854775808) :
    Calls Tryz.prog 36 #[.pointer (some ⟨r, 0, none⟩), .string s, .int .i64 n] W fun e W' => e = .returned (.int .i64 (Dk.cut m s.data.toList n).2) ∧ Dr.Moved W W' r F (Dk.cut m s.data.toList n).1 := by
  have h0 := h
  obtain ⟨v, hS, rfl⟩ := h
  obtain ⟨k, hk, hcall⟩ := Dr.look_any hS hG.many s hs
  unfold Dk.cut
  by_cases h1 : Dk.code m s.data.toList ≠ 0
  · rw [if_pos h1]
    obtain ⟨c, hc⟩ : ∃ c, Dk.code m s.data.toList = c := ⟨_, rfl⟩
    rw [hc] at hcall h1 ⊢
    have t1 : (c != 0) = true := bne_iff_ne.2 h1
    clear hc h1 hk
    go_enter Tryz.func36, Tryz.ntmps36
    go_wp2_with (go_at_call 64; refine hcall.mono ?_; rintro e w' ⟨rfl, rfl⟩)
    go_ret
    exact ⟨rfl, .same h0 (Below.refl _ _)⟩
  rw [if_neg h1]
  have hc : Dk.code m s.data.toList = 0 := Decidable.not_not.1 h1
  obtain ⟨q1, q2, q3, q4, q5⟩ := Dk.code_zero hc
  have hfile := hk hc
  rw [hc] at hcall
  obtain ⟨f, hf⟩ : ∃ f, Dk.file m s.data.toList = f := ⟨_, rfl⟩
  rw [hf] at q3 q4 q5 hfile ⊢
  obtain ⟨g, c, nb, db, rfl, hlt, hnb, hdb, hds, c0, c1, c2⟩ := hS.file hfile
  obtain ⟨d0, d1, d2, d3, d4, d5, d6⟩ := hS.seven
  obtain ⟨_, hfl, hfs2⟩ := hG.file f q5
  have hmany := hG.many
  clear h1 hk hfile hf hc
  by_cases g1 : n < 0
  · rw [if_pos (.inl g1)]
    have u1 : decide (n < 0) = true := decide_eq_true g1
    go_enter Tryz.func36, Tryz.ntmps36
    go_wp2_with (go_at_call 64; refine hcall.mono ?_; rintro e w' ⟨rfl, rfl⟩)
    go_ret
    exact ⟨rfl, .same h0 ((Below.refl _ _).alloc (Nat.le_refl _) _)⟩
  have u1 : decide (n < 0) = false := decide_eq_false g1
  obtain ⟨n, rfl⟩ := Int.eq_ofNat_of_zero_le (Int.not_lt.1 g1)
  by_cases g2 : f.data.length < n
  · rw [if_pos (.inr (by omega))]
    have u2 : decide (db.size < n) = true := decide_eq_true (by omega)
    clear hds
    go_enter Tryz.func36, Tryz.ntmps36
    go_wp2_with (go_at_call 64; refine hcall.mono ?_; rintro e w' ⟨rfl, rfl⟩)
    go_ret
    exact ⟨rfl, .same h0 ((Below.refl _ _).alloc (Nat.le_refl _) _)⟩
  rw [if_neg (by omega), Int.toNat_natCast]
  have u2 : decide (db.size < n) = false := decide_eq_false (by omega)
  have u3 : (n : Int) ≤ (db.size : Int) := by omega
  obtain ⟨xb, hxb⟩ : ∃ xb, db.extract 0 n = xb := ⟨_, rfl⟩
  have hxd : xb.data.toList = f.data.take n := by rw [← hxb, Tx.extract, hdb, List.drop_zero, Nat.sub_zero]
  obtain ⟨q, hq⟩ : ∃ q, min f.sure n = q := ⟨_, rfl⟩
  obtain ⟨fs, hfs⟩ : ∃ fs, Dk.upd s.data.toList (Dk.cutF f n) m.files = fs := ⟨_, rfl⟩
  have hwr : Dr.with_ (Dk.cutF f n) false m.files = fs := by rw [Dr.with_put _ hG.up, Dr.put_upd (f := Dk.cutF f n) q4 hG.up q3, hfs]
  rw [hfs]
  obtain ⟨Z, hZ⟩ : ∃ Z, Dk.acc m m.done fs = Z := ⟨_, rfl⟩
  rw [hZ]
  have kv0 : ∀ {w2 B2 v2}, Dr.Own w2 B2 v2 m.files → Calls Tryz.prog 66 #[v2, .agg #[.string nb, .string xb, .int .i64 q]] w2 fun e W' => ∃ v', e = .returned v' ∧ Dr.Own W' w2.heap.size v' fs ∧ Below w2.heap.size w2 W' := fun ho => by
    have := Dr.with_any ho (by omega) (Dk.cutF f n) (fb := nb) (fd := xb) hnb hxd
    rw [hwr, show (Dk.cutF f n).sure = q from hq] at this
    exact this
  have ks0 : ∀ {w1 w3 v3}, Below W.heap.size W w1 → Dr.Own w3 w1.heap.size v3 fs → Below w1.heap.size w1 w3 → Calls Tryz.prog 65 #[.pointer (some ⟨r, 0, none⟩), v3] w3 fun e W' => e = .returned (.int .i64 Z.2) ∧ Dk.Only (fun k => k = r) w3 W' ∧ Dr.Moved W W' r (Dr.foot r (.slice (some ⟨g, 0, none⟩) m.files.length c)) Z.1 := fun {w1 w3 v3} h1 ho h3 => by
    have hz1 := h1.size
    have hz3 := h3.size
    have hrl := hS.blk.lt
    have hB3 : Below W.heap.size W w3 := h1.trans (h3.mono hz1)
    have ho3 : Dr.Own w3 W.heap.size v3 fs := ho.base fun k hk => by have := (ho.lt hk).1; omega
    refine (Dr.step_any (hS.later hB3 (Nat.le_refl _)) hG.left q1 (ho.base fun _ _ => Nat.zero_le _) (fun e => by have := (ho.lt e).1; omega)).mono ?_
    rintro e W' ⟨rfl, v2, s2, o2, hv⟩
    rw [hZ] at s2 ⊢
    exact ⟨rfl, o2, Dr.Moved.step hB3 ho3 s2 o2 hv⟩
  clear hwr hfs hZ q1 q2 q3 q4 q5 hnb hdb hxd hds hfl hfs2 h0
  by_cases g3 : n < f.sure
  · obtain rfl : q = n := by omega
    have u4 : decide (q < f.sure) = true := decide_eq_true g3
    clear hq
    go_enter Tryz.func36, Tryz.ntmps36
    go_upto_region 10 with (go_at_call 64; refine hcall.mono ?_; rintro e w' ⟨rfl, rfl⟩)
    have hB1 : Below W.heap.size W (W.alloc (.cells #[.string nb, .string xb, .int .i64 q] 83)).drew := ((Below.refl _ _).alloc (Nat.le_refl _) _).drew
    have hb1 : Blk (W.alloc (.cells #[.string nb, .string xb, .int .i64 q] 83)) W.heap.size 83 #[.string nb, .string xb, .int .i64 q] := Blk.new _ _ _
    obtain ⟨W1, hW1⟩ : ∃ W1, W.alloc (.cells #[.string nb, .string xb, .int .i64 q] 83) = W1 := ⟨_, rfl⟩
    rw [hW1] at hB1 hb1 ⊢
    have hS1 := hS.later hB1 (Nat.le_refl _)
    have e1 : W1.cell? ⟨r, 1, none⟩ = some (.slice (some ⟨g, 0, none⟩) m.files.length c) := hS1.seven.2.1
    obtain ⟨p, hp⟩ : ∃ p, W.heap.size = p := ⟨_, rfl⟩
    have hrl := hS.blk.lt
    rw [hp] at hb1 ⊢
    have hrp : p ≠ r := by omega
    have hpl := hb1.lt
    have S0 := Dr.P3.blk hb1
    have kw := kv0 (hS1.row.keep (W' := W1.drew) fun _ _ => rfl)
    have ks := fun {w3 v3} => ks0 (w1 := W1.drew) (w3 := w3) (v3 := v3) hB1
    have e1d : W1.drew.cell? ⟨r, 1, none⟩ = some (.slice (some ⟨g, 0, none⟩) m.files.length c) := e1
    have S0d : Dr.P3 p nb xb q W1.drew := S0
    clear hW1 hp d0 d1 d2 d3 d4 d5 d6 c0 c1 c2 hb1 hB1 hcall hxb kv0 ks0 hrl
    rw [show Op.load 45 (Operand.tmp 49) = Dr.o50 from rfl]
    go_region_held_law (fun W' => W'.cell? ⟨p, 0, none⟩ = some (.string nb) ∧ W'.cell? ⟨p, 1, none⟩ = some (.string xb) ∧ W'.cell? ⟨p, 2, none⟩ = some (.int .i64 (q : Nat)))
      (first
        | with_reducible assumption
        | exact S0
        | exact S0d
        | exact S6
        | exact S7)
      (first
        | (go_at_call 66; refine kw.mono ?_; clear kw; rintro e w3 ⟨v3, rfl, o3, b3⟩; have ks2 := ks o3 b3; obtain ⟨A3, C3, rfl⟩ := o3.form; have S6 : Dr.P3 p nb xb q w3 := S0.keep (b3.block p hpl); have hp3 : p < w3.heap.size := Nat.lt_of_lt_of_le hpl b3.size)
        | (go_at_call 65; refine ks2.mono ?_; clear ks2; rintro e w4 ⟨rfl, o4, hm⟩; have S7 : Dr.P3 p nb xb q w4 := S6.keep (o4.block p hp3 hrp)))
    all_goals (try go_wp2_with fail)
    all_goals go_ret
    all_goals exact ⟨rfl, hm⟩
  · obtain rfl : q = f.sure := by omega
    have u4 : decide (n < f.sure) = false := decide_eq_false g3
    clear hq
    go_enter Tryz.func36, Tryz.ntmps36
    go_upto_region 10 with (go_at_call 64; refine hcall.mono ?_; rintro e w' ⟨rfl, rfl⟩)
    have hB1 : Below W.heap.size W (W.alloc (.cells #[.string nb, .string xb, .int .i64 f.sure] 83)).drew := ((Below.refl _ _).alloc (Nat.le_refl _) _).drew
    have hb1 : Blk (W.alloc (.cells #[.string nb, .string xb, .int .i64 f.sure] 83)) W.heap.size 83 #[.string nb, .string xb, .int .i64 f.sure] := Blk.new _ _ _
    obtain ⟨W1, hW1⟩ : ∃ W1, W.alloc (.cells #[.string nb, .string xb, .int .i64 f.sure] 83) = W1 := ⟨_, rfl⟩
    rw [hW1] at hB1 hb1 ⊢
    have hS1 := hS.later hB1 (Nat.le_refl _)
    have e1 : W1.cell? ⟨r, 1, none⟩ = some (.slice (some ⟨g, 0, none⟩) m.files.length c) := hS1.seven.2.1
    obtain ⟨p, hp⟩ : ∃ p, W.heap.size = p := ⟨_, rfl⟩
    have hrl := hS.blk.lt
    rw [hp] at hb1 ⊢
    have hrp : p ≠ r := by omega
    have hpl := hb1.lt
    have S0 := Dr.P3.blk hb1
    have kw := kv0 (hS1.row.keep (W' := W1.drew) fun _ _ => rfl)
    have ks := fun {w3 v3} => ks0 (w1 := W1.drew) (w3 := w3) (v3 := v3) hB1
    have e1d : W1.drew.cell? ⟨r, 1, none⟩ = some (.slice (some ⟨g, 0, none⟩) m.files.length c) := e1
    have S0d : Dr.P3 p nb xb f.sure W1.drew := S0
    clear hW1 hp d0 d1 d2 d3 d4 d5 d6 c0 c1 c2 hb1 hB1 hcall hxb kv0 ks0 hrl
    rw [show Op.load 45 (Operand.tmp 49) = Dr.o50 from rfl]
    go_region_held_law (fun W' => W'.cell? ⟨p, 0, none⟩ = some (.string nb) ∧ W'.cell? ⟨p, 1, none⟩ = some (.string xb) ∧ W'.cell? ⟨p, 2, none⟩ = some (.int .i64 (f.sure : Nat)))
      (first
        | with_reducible assumption
        | exact S0
        | exact S0d
        | exact S6
        | exact S7)
      (first
        | (go_at_call 66; refine kw.mono ?_; clear kw; rintro e w3 ⟨v3, rfl, o3, b3⟩; have ks2 := ks o3 b3; obtain ⟨A3, C3, rfl⟩ := o3.form; have S6 : Dr.P3 p nb xb f.sure w3 := S0.keep (b3.block p hpl); have hp3 : p < w3.heap.size := Nat.lt_of_lt_of_le hpl b3.size)
        | (go_at_call 65; refine ks2.mono ?_; clear ks2; rintro e w4 ⟨rfl, o4, hm⟩; have S7 : Dr.P3 p nb xb f.sure w4 := S6.keep (o4.block p hp3 hrp)))
    all_goals (try go_wp2_with fail)
    all_goals go_ret
    all_goals exact ⟨rfl, hm⟩
end
#print axioms Dr.cut_any
end Go.Proofs.YtifkhjihgnnpfaaGreatDoor
/- Disks in memory (the document's): Append, Sync. Conditions: each theorem's own hypotheses. -/
namespace Go.Proofs.YtifkhjihgnnpfaaGreatDoor
open Go.RowKit Go.Maps Go.Sort
set_option linter.unusedVariables false

/-- The loads of the list of files, under names (Append, Sync). -/
def Dr.o58 : Op := Op.load 45 (Operand.tmp 57)
def Dr.o36 : Op := Op.load 45 (Operand.tmp 35)
attribute [go_sem] Dr.o58 Dr.o36
theorem Dr.acc_true {m : Dk.M} (h : m.off = false) (fs : List Dk.F) : Dk.acc m true fs = (Dr.acc0 { m with files := fs }, if m.left = 1 then 45 else 0) := by
  obtain ⟨f0, cap, ag, wr, off, left, done⟩ := m
  simp only at h
  subst h
  unfold Dk.acc Dr.acc0
  simp only
  match left with
  | 0 => rfl
  | 1 => rfl
  | n + 2 =>
    rw [if_neg (by omega), if_pos (by omega), if_neg (by omega), if_neg (by omega), decide_eq_false (by omega)]
theorem Dr.acc_false {m : Dk.M} (h : m.off = false) (fs : List Dk.F) : Dk.acc m false fs = if m.left = 1 then (Dr.acc0 m, 45) else ({ Dr.acc0 m with files := fs }, 0) := by
  obtain ⟨f0, cap, ag, wr, off, left, done⟩ := m
  simp only at h
  subst h
  unfold Dk.acc Dr.acc0
  simp only
  match left with
  | 0 => rfl
  | 1 => rfl
  | n + 2 =>
    rw [if_neg (by omega), if_pos (by omega), if_neg (by omega), if_neg (by omega), decide_eq_false (by omega)]
/-- A new list is stored, behind a call that made it. -/
theorem Dr.Moved.files {W w : World} {r : Nat} {v v' : Value} {m : Dk.M} {fs : List Dk.F} (hS : Dr.Stand W r v m) (hB : Below W.heap.size W w) (ho : Dr.Own w W.heap.size v' fs) :
    Dr.Stand (w.setCell ⟨r, 1, none⟩ v') r v' { m with files := fs } ∧ (∀ W' m', Dr.Stand W' r v' m' → Dk.Only (fun k => k = r) (w.setCell ⟨r, 1, none⟩ v') W' → Dr.Moved W W' r (Dr.foot r v) m') := by
  refine ⟨(hS.later hB (Nat.le_refl _)).files (ho.base fun _ _ => Nat.zero_le _), fun W' m' hs h => ?_⟩
  have h2 : Dk.Only (fun k => k = r) w W' := (Dk.Only.setCell (F := fun k => k = r) (Dk.Only.refl _ _) (.inl rfl) _).trans h
  exact Dr.Moved.step hB ho hs h2 (.inl rfl)
theorem Dr.Moved.after {W w W' : World} {r : Nat} {v : Value} {m' : Dk.M} (h1 : Dk.Only (fun k => k = r) W w) (h : Dr.Moved w W' r (Dr.foot r v) m') : Dr.Moved W W' r (Dr.foot r v) m' := by
  obtain ⟨F', hA, ho, hf⟩ := h
  exact ⟨F', hA, (h1.wide fun k _ hk => .inl hk).trans ho, fun k hk => (hf k hk).imp id fun h => Nat.le_trans h1.size h⟩
section
variable {W : World} {r : Nat} {m : Dk.M} {F : Nat → Prop}
set_option maxRecDepth 100000 in
set_option maxHeartbeats 2000000 in
theorem Dr.append_any (h : Dr.At W r m F) (hG : Dk.Good m) (s t : ByteArray) (hs : s.size ≤ 9223372036854775807) (ht : t.size ≤ 140737488355328) :
    Calls Tryz.prog 40 #[.pointer (some ⟨r, 0, none⟩), .string s, .string t] W fun e W' => e = .returned (.int .i64 (Dk.append m s.data.toList t.data.toList).2) ∧ Dr.Moved W W' r F (Dk.append m s.data.toList t.data.toList).1 := by
  have h0 := h
  obtain ⟨v, hS, rfl⟩ := h
  obtain ⟨k, hk, hcall⟩ := Dr.look_any hS hG.many s hs
  unfold Dk.append
  by_cases h1 : Dk.code m s.data.toList ≠ 0
  · rw [if_pos h1]
    obtain ⟨c, hc⟩ : ∃ c, Dk.code m s.data.toList = c := ⟨_, rfl⟩
    rw [hc] at hcall h1 ⊢
    have t1 : (c != 0) = true := bne_iff_ne.2 h1
    clear hc h1 hk
    go_enter Tryz.func40, Tryz.ntmps40
    go_wp2_with (go_at_call 64; refine hcall.mono ?_; rintro e w' ⟨rfl, rfl⟩)
    go_ret
    exact ⟨rfl, .same h0 (Below.refl _ _)⟩
  rw [if_neg h1]
  have hc : Dk.code m s.data.toList = 0 := Decidable.not_not.1 h1
  obtain ⟨q1, q2, q3, q4, q5⟩ := Dk.code_zero hc
  have hfile := hk hc
  rw [hc] at hcall
  obtain ⟨f, hf⟩ : ∃ f, Dk.file m s.data.toList = f := ⟨_, rfl⟩
  rw [hf] at q3 q4 q5 hfile ⊢
  obtain ⟨g, c, nb, db, rfl, hlt, hnb, hdb, hds, c0, c1, c2⟩ := hS.file hfile
  obtain ⟨d0, d1, d2, d3, d4, d5, d6⟩ := hS.seven
  obtain ⟨_, hfl, hfs2⟩ := hG.file f q5
  have hmany := hG.many
  have hcap := hG.cap
  have hused := hG.used
  have htl : t.data.toList.length = t.size := (Tx.size t).symm
  rw [htl]
  clear h1 hk hfile hf hc
  obtain ⟨z, hz⟩ : ∃ z, z = db.size + t.size := ⟨_, rfl⟩
  have w1 : IntKind.i64.wrap ((db.size : Int) + (t.size : Int)) = (z : Int) := (IntWalk.i64_in _ (by omega)).trans (by omega)
  by_cases g1 : 268435456 - f.data.length < t.size
  · rw [if_pos g1]
    have u1 : decide ((268435456 : Int) < (z : Int)) = true := decide_eq_true (by omega)
    clear hz
    go_enter Tryz.func40, Tryz.ntmps40
    go_wp2_with (go_at_call 64; refine hcall.mono ?_; rintro e w' ⟨rfl, rfl⟩)
    go_ret
    exact ⟨rfl, .same h0 ((Below.refl _ _).alloc (Nat.le_refl _) _)⟩
  rw [if_neg g1]
  have u1 : decide ((268435456 : Int) < (z : Int)) = false := decide_eq_false (by omega)
  obtain ⟨u, hu⟩ : ∃ u, Dk.used m.files = u := ⟨_, rfl⟩
  obtain ⟨y, hy⟩ : ∃ y, y = u + t.size := ⟨_, rfl⟩
  rw [hu] at hused ⊢
  have w2 : IntKind.i64.wrap ((u : Int) + (t.size : Int)) = (y : Int) := (IntWalk.i64_in _ (by omega)).trans (by omega)
  have hsne : (t.data.toList ≠ [] ∧ m.cap - u < t.size) ↔ (0 < t.size ∧ m.cap < y) := by
    rw [← List.length_pos_iff, htl]
    constructor <;> rintro ⟨a, b⟩ <;> exact ⟨a, by omega⟩
  obtain ⟨W1, hW1⟩ : ∃ W1, W.alloc (.cells #[.string nb, .string db, .int .i64 f.sure] 83) = W1 := ⟨_, rfl⟩
  have hB1 : Below W.heap.size W W1 := by rw [← hW1]; exact (Below.refl _ _).alloc (Nat.le_refl _) _
  have HW1 := Lib.hid hW1
  clear hW1
  have hu1 : ∀ w, Below W.heap.size W w → Calls Tryz.prog 14 #[.pointer (some ⟨r, 0, none⟩)] w fun e w' => e = .returned (.int .i64 u) ∧ w' = w := fun w hB => by
    have := Dr.used_any (h0.later hB (Nat.le_refl _)) (by omega) hmany
    rw [hu] at this
    exact this.mono fun _ _ ⟨a, b⟩ => ⟨a, b.symm⟩
  have hu2 : ∀ n, _ := fun n => hu1 _ (below_dn hB1 n)
  clear hu1
  by_cases g2 : 0 < t.size ∧ m.cap < y
  · rw [if_pos (hsne.2 g2)]
    obtain ⟨g3, g4⟩ := g2
    have u2 : decide (0 < t.size) = true := decide_eq_true g3
    have u3 : decide (m.cap < y) = true := decide_eq_true g4
    clear hsne hz hy hu hds
    go_enter Tryz.func40, Tryz.ntmps40
    go_upto_region 7 with (go_at_call 64; refine hcall.mono ?_; rintro e w' ⟨rfl, rfl⟩)
    have e0 : W1.cell? ⟨r, 0, none⟩ = some (.int .i64 m.cap) := (hS.later hB1 (Nat.le_refl _)).seven.1
    rw [HW1.out]
    clear c0 c1 c2 d0 d1 d2 d3 d4 d5 d6
    go_quiet ((go_at_call 14; exact Calls.quiet_of_same (hu2 _)))
    go_wp2_with fail
    go_ret
    exact ⟨rfl, .same h0 (below_dn hB1 _)⟩
  rw [if_neg (fun h => g2 (hsne.1 h))]
  have hgr : (Dk.grow f t.data.toList).name = s.data.toList := q4
  obtain ⟨fs, hfs⟩ : ∃ fs, Dk.upd s.data.toList (Dk.grow f t.data.toList) m.files = fs := ⟨_, rfl⟩
  have hwr : Dr.with_ (Dk.grow f t.data.toList) false m.files = fs := by rw [Dr.with_put _ hG.up, Dr.put_upd hgr hG.up q3, hfs]
  rw [hfs, Dr.acc_true q1]
  obtain ⟨E, hE⟩ : ∃ E : Int, (if m.left = 1 then 45 else 0) = E := ⟨_, rfl⟩
  obtain ⟨M', hM⟩ : ∃ M', Dr.acc0 { m with files := fs } = M' := ⟨_, rfl⟩
  rw [hE, hM]
  have HE := Lib.hid hE
  have HM := Lib.hid hM
  clear hE hM
  obtain ⟨xb, hxb⟩ : ∃ xb, db ++ t = xb := ⟨_, rfl⟩
  have hxd : xb.data.toList = f.data ++ t.data.toList := by rw [← hxb, Tx.append, hdb]
  have kv0 : ∀ {w2 B2 v2}, Dr.Own w2 B2 v2 m.files → Calls Tryz.prog 66 #[v2, .agg #[.string nb, .string xb, .int .i64 f.sure]] w2 fun e W' => ∃ v', e = .returned v' ∧ Dr.Own W' w2.heap.size v' fs ∧ Below w2.heap.size w2 W' := fun ho => by
    have := Dr.with_any ho (by omega) (Dk.grow f t.data.toList) (fb := nb) (fd := xb) hnb hxd
    rw [hwr] at this
    exact this
  have hleft := hG.left
  clear hwr hfs hgr
  by_cases g3 : 0 < t.size
  · skip
    have u2 : decide (0 < t.size) = true := decide_eq_true g3
    have u3 : decide (m.cap < y) = false := decide_eq_false (fun h => g2 ⟨g3, h⟩)
    have hcat : ¬ 9223372036854775807 < db.size + t.size := by omega
    clear hsne hz hy hu g2 g3 q2 q3 q4 q5 hfl hfs2 hcap hused htl hG hds
    go_enter Tryz.func40, Tryz.ntmps40
    go_upto_region 7 with (go_at_call 64; refine hcall.mono ?_; rintro e w' ⟨rfl, rfl⟩)
    have e0 : W1.cell? ⟨r, 0, none⟩ = some (.int .i64 m.cap) := (hS.later hB1 (Nat.le_refl _)).seven.1
    have hb1 : Blk W1 W.heap.size 83 #[.string nb, .string db, .int .i64 f.sure] := by rw [← HW1.out]; exact Blk.new _ _ _
    obtain ⟨p, hp⟩ : ∃ p, W.heap.size = p := ⟨_, rfl⟩
    have hrl := hS.blk.lt
    rw [HW1.out]
    rw [hp] at hb1 ⊢
    have p0 := hb1.cell 0
    have p1 := hb1.cell 1
    have p2 := hb1.cell 2
    have pf := hb1.frozen 1
    simp only [List.getElem?_toArray, List.getElem?_cons_zero, List.getElem?_cons_succ] at p0 p1 p2
    clear c0 c1 c2 d0 d1 d2 d3 d4 d5 d6
    go_quiet ((go_at_call 14; exact Calls.quiet_of_same (hu2 _)))
    go_upto_region 10 with fail
    have hb2 : Blk ((W1.drewN nq).setCell ⟨p, 1, none⟩ (.string xb)) p 83 #[.string nb, .string xb, .int .i64 f.sure] := Blk.set_ (w := W1.drewN nq) (cs := #[.string nb, .string db, .int .i64 f.sure]) hb1 1 (.string xb)
    have hB2 : Below W.heap.size W ((W1.drewN nq).setCell ⟨p, 1, none⟩ (.string xb)).drew := ((below_dn hB1 nq).setCell (Nat.le_of_eq hp) _).drew
    obtain ⟨W2, hW2⟩ : ∃ W2, (W1.drewN nq).setCell ⟨p, 1, none⟩ (.string xb) = W2 := ⟨_, rfl⟩
    rw [hW2] at hb2 hB2 ⊢
    have hS2 := hS.later hB2 (Nat.le_refl _)
    have e1 : W2.cell? ⟨r, 1, none⟩ = some (.slice (some ⟨g, 0, none⟩) m.files.length c) := hS2.seven.2.1
    have e1d : W2.drew.cell? ⟨r, 1, none⟩ = some (.slice (some ⟨g, 0, none⟩) m.files.length c) := e1
    have hrp : p ≠ r := by omega
    have hpl := hb2.lt
    have hrl2 : r < W2.heap.size := hS2.blk.lt
    have S0 : Dr.Four r p nb xb f.sure W2 := ⟨hS2.blk.frozen 1, hb2.cell 0, hb2.cell 1, hb2.cell 2⟩
    have S0d : Dr.Four r p nb xb f.sure W2.drew := S0
    have kw := kv0 (hS2.row.keep (W' := W2.drew) fun _ _ => rfl)
    obtain ⟨lb, hlb⟩ : ∃ lb, decide (m.left = 1) = lb := ⟨_, rfl⟩
    have HE2 : Hid (E = if lb = true then 45 else 0) := by
      show _ = _
      rw [← HE.out, ← hlb]
      simp only [decide_eq_true_eq]
    have kf : ∀ {w3 v3}, Dr.Own w3 W2.drew.heap.size v3 fs → Below W2.drew.heap.size W2.drew w3 → Calls Tryz.prog 69 #[.pointer (some ⟨r, 0, none⟩)] (w3.setCell ⟨r, 1, none⟩ v3) fun e W' => e = .returned (.bool lb) ∧ Dr.Moved W W' r (Dr.foot r (.slice (some ⟨g, 0, none⟩) m.files.length c)) M' := fun {w3 v3} ho h3 => by
      have hz1 := hB2.size
      have ho3 : Dr.Own w3 W.heap.size v3 fs := ho.base fun k hk => by have := (ho.lt hk).1; omega
      obtain ⟨s3, close⟩ := Dr.Moved.files hS (hB2.trans (h3.mono hz1)) ho3
      have hl3 : ({ m with files := fs } : Dk.M).left ≤ 9223372036854775807 := hleft
      refine (Dr.accepted_any s3 hl3).mono ?_
      rintro e W' ⟨rfl, s4, o4⟩
      refine ⟨by rw [← hlb], ?_⟩
      rw [← HM.out]
      exact close W' _ s4 o4
    clear hW2 hp hb1 hb2 hB1 hB2 hcall hxb kv0 hrl hnb hdb hxd h0 hu2 hlb pf p0 p1 p2 e0 hS2
    rw [show Op.load 45 (Operand.tmp 57) = Dr.o58 from rfl]
    go_region_held_law (fun W' => W'.frozen? ⟨r, 1, none⟩ = false ∧ W'.cell? ⟨p, 0, none⟩ = some (.string nb) ∧ W'.cell? ⟨p, 1, none⟩ = some (.string xb) ∧ W'.cell? ⟨p, 2, none⟩ = some (.int .i64 (f.sure : Nat)))
      (first
        | with_reducible assumption
        | exact S0
        | exact S0d
        | exact S6
        | exact Dr.Four.set (by assumption) hrp _)
      (first
        | (go_at_call 66; refine kw.mono ?_; clear kw; rintro e w3 ⟨v3, rfl, o3, b3⟩; have kf2 := kf o3 b3; obtain ⟨A3, C3, rfl⟩ := o3.form; have S6 : Dr.Four r p nb xb f.sure w3 := S0.keep (b3.block r hrl2) (b3.block p hpl); have z6 : w3.cell? ⟨r, 1, none⟩ = some (.slice (some ⟨g, 0, none⟩) m.files.length c) := (World.cell?_of_block (b3.block r hrl2)).trans e1; have x6 := S6.1))
    all_goals
      have hE := HE2.out
      clear HE2 HE HM kf
      cases lb with
      | true =>
        rw [if_pos rfl] at hE
        subst hE
        go_wp2_with (go_at_call 69; refine kf2.mono ?_; rintro e w4 ⟨rfl, hm⟩)
        go_ret
        exact ⟨rfl, hm⟩
      | false =>
        rw [if_neg (by decide)] at hE
        subst hE
        go_wp2_with (go_at_call 69; refine kf2.mono ?_; rintro e w4 ⟨rfl, hm⟩)
        go_ret
        exact ⟨rfl, hm⟩
  · skip
    have u2 : decide (0 < t.size) = false := decide_eq_false g3
    have hcat : ¬ 9223372036854775807 < db.size + t.size := by omega
    clear hsne hz hy hu g2 g3 q2 q3 q4 q5 hfl hfs2 hcap hused htl hG hds
    go_enter Tryz.func40, Tryz.ntmps40
    go_upto_region 7 with (go_at_call 64; refine hcall.mono ?_; rintro e w' ⟨rfl, rfl⟩)
    have e0 : W1.cell? ⟨r, 0, none⟩ = some (.int .i64 m.cap) := (hS.later hB1 (Nat.le_refl _)).seven.1
    have hb1 : Blk W1 W.heap.size 83 #[.string nb, .string db, .int .i64 f.sure] := by rw [← HW1.out]; exact Blk.new _ _ _
    obtain ⟨p, hp⟩ : ∃ p, W.heap.size = p := ⟨_, rfl⟩
    have hrl := hS.blk.lt
    rw [HW1.out]
    rw [hp] at hb1 ⊢
    have p0 := hb1.cell 0
    have p1 := hb1.cell 1
    have p2 := hb1.cell 2
    have pf := hb1.frozen 1
    simp only [List.getElem?_toArray, List.getElem?_cons_zero, List.getElem?_cons_succ] at p0 p1 p2
    clear c0 c1 c2 d0 d1 d2 d3 d4 d5 d6
    go_quiet (fail)
    go_upto_region 10 with fail
    have hb2 : Blk ((W1.drewN nq).setCell ⟨p, 1, none⟩ (.string xb)) p 83 #[.string nb, .string xb, .int .i64 f.sure] := Blk.set_ (w := W1.drewN nq) (cs := #[.string nb, .string db, .int .i64 f.sure]) hb1 1 (.string xb)
    have hB2 : Below W.heap.size W ((W1.drewN nq).setCell ⟨p, 1, none⟩ (.string xb)).drew := ((below_dn hB1 nq).setCell (Nat.le_of_eq hp) _).drew
    obtain ⟨W2, hW2⟩ : ∃ W2, (W1.drewN nq).setCell ⟨p, 1, none⟩ (.string xb) = W2 := ⟨_, rfl⟩
    rw [hW2] at hb2 hB2 ⊢
    have hS2 := hS.later hB2 (Nat.le_refl _)
    have e1 : W2.cell? ⟨r, 1, none⟩ = some (.slice (some ⟨g, 0, none⟩) m.files.length c) := hS2.seven.2.1
    have e1d : W2.drew.cell? ⟨r, 1, none⟩ = some (.slice (some ⟨g, 0, none⟩) m.files.length c) := e1
    have hrp : p ≠ r := by omega
    have hpl := hb2.lt
    have hrl2 : r < W2.heap.size := hS2.blk.lt
    have S0 : Dr.Four r p nb xb f.sure W2 := ⟨hS2.blk.frozen 1, hb2.cell 0, hb2.cell 1, hb2.cell 2⟩
    have S0d : Dr.Four r p nb xb f.sure W2.drew := S0
    have kw := kv0 (hS2.row.keep (W' := W2.drew) fun _ _ => rfl)
    obtain ⟨lb, hlb⟩ : ∃ lb, decide (m.left = 1) = lb := ⟨_, rfl⟩
    have HE2 : Hid (E = if lb = true then 45 else 0) := by
      show _ = _
      rw [← HE.out, ← hlb]
      simp only [decide_eq_true_eq]
    have kf : ∀ {w3 v3}, Dr.Own w3 W2.drew.heap.size v3 fs → Below W2.drew.heap.size W2.drew w3 → Calls Tryz.prog 69 #[.pointer (some ⟨r, 0, none⟩)] (w3.setCell ⟨r, 1, none⟩ v3) fun e W' => e = .returned (.bool lb) ∧ Dr.Moved W W' r (Dr.foot r (.slice (some ⟨g, 0, none⟩) m.files.length c)) M' := fun {w3 v3} ho h3 => by
      have hz1 := hB2.size
      have ho3 : Dr.Own w3 W.heap.size v3 fs := ho.base fun k hk => by have := (ho.lt hk).1; omega
      obtain ⟨s3, close⟩ := Dr.Moved.files hS (hB2.trans (h3.mono hz1)) ho3
      have hl3 : ({ m with files := fs } : Dk.M).left ≤ 9223372036854775807 := hleft
      refine (Dr.accepted_any s3 hl3).mono ?_
      rintro e W' ⟨rfl, s4, o4⟩
      refine ⟨by rw [← hlb], ?_⟩
      rw [← HM.out]
      exact close W' _ s4 o4
    clear hW2 hp hb1 hb2 hB1 hB2 hcall hxb kv0 hrl hnb hdb hxd h0 hu2 hlb pf p0 p1 p2 e0 hS2
    rw [show Op.load 45 (Operand.tmp 57) = Dr.o58 from rfl]
    go_region_held_law (fun W' => W'.frozen? ⟨r, 1, none⟩ = false ∧ W'.cell? ⟨p, 0, none⟩ = some (.string nb) ∧ W'.cell? ⟨p, 1, none⟩ = some (.string xb) ∧ W'.cell? ⟨p, 2, none⟩ = some (.int .i64 (f.sure : Nat)))
      (first
        | with_reducible assumption
        | exact S0
        | exact S0d
        | exact S6
        | exact Dr.Four.set (by assumption) hrp _)
      (first
        | (go_at_call 66; refine kw.mono ?_; clear kw; rintro e w3 ⟨v3, rfl, o3, b3⟩; have kf2 := kf o3 b3; obtain ⟨A3, C3, rfl⟩ := o3.form; have S6 : Dr.Four r p nb xb f.sure w3 := S0.keep (b3.block r hrl2) (b3.block p hpl); have z6 : w3.cell? ⟨r, 1, none⟩ = some (.slice (some ⟨g, 0, none⟩) m.files.length c) := (World.cell?_of_block (b3.block r hrl2)).trans e1; have x6 := S6.1))
    all_goals
      have hE := HE2.out
      clear HE2 HE HM kf
      cases lb with
      | true =>
        rw [if_pos rfl] at hE
        subst hE
        go_wp2_with (go_at_call 69; refine kf2.mono ?_; rintro e w4 ⟨rfl, hm⟩)
        go_ret
        exact ⟨rfl, hm⟩
      | false =>
        rw [if_neg (by decide)] at hE
        subst hE
        go_wp2_with (go_at_call 69; refine kf2.mono ?_; rintro e w4 ⟨rfl, hm⟩)
        go_ret
        exact ⟨rfl, hm⟩
set_option maxRecDepth 100000 in
set_option maxHeartbeats 2000000 in
theorem Dr.sync_any (h : Dr.At W r m F) (hG : Dk.Good m) (s : ByteArray) (hs : s.size ≤ 9223372036854775807) :
    Calls Tryz.prog 78 #[.pointer (some ⟨r, 0, none⟩), .string s] W fun e W' => e = .returned (.int .i64 (Dk.sync m s.data.toList).2) ∧ Dr.Moved W W' r F (Dk.sync m s.data.toList).1 := by
  have h0 := h
  obtain ⟨v, hS, rfl⟩ := h
  obtain ⟨k, hk, hcall⟩ := Dr.look_any hS hG.many s hs
  unfold Dk.sync
  by_cases h1 : Dk.code m s.data.toList ≠ 0
  · rw [if_pos h1]
    obtain ⟨c, hc⟩ : ∃ c, Dk.code m s.data.toList = c := ⟨_, rfl⟩
    rw [hc] at hcall h1 ⊢
    have t1 : (c != 0) = true := bne_iff_ne.2 h1
    clear hc h1 hk
    go_enter Tryz.func78, Tryz.ntmps78
    go_wp2_with (go_at_call 64; refine hcall.mono ?_; rintro e w' ⟨rfl, rfl⟩)
    go_ret
    exact ⟨rfl, .same h0 (Below.refl _ _)⟩
  rw [if_neg h1]
  have hc : Dk.code m s.data.toList = 0 := Decidable.not_not.1 h1
  obtain ⟨q1, q2, q3, q4, q5⟩ := Dk.code_zero hc
  have hfile := hk hc
  rw [hc] at hcall
  obtain ⟨f, hf⟩ : ∃ f, Dk.file m s.data.toList = f := ⟨_, rfl⟩
  rw [hf] at q3 q4 q5 hfile ⊢
  have hmany := hG.many
  have ka := Dr.accepted_any hS hG.left
  rw [Dr.acc_false q1]
  by_cases hl : m.left = 1
  · rw [if_pos hl]
    rw [decide_eq_true hl] at ka
    obtain ⟨M', hM⟩ : ∃ M', Dr.acc0 m = M' := ⟨_, rfl⟩
    rw [hM] at ka ⊢
    clear h1 hk hfile hf hc q1 q2 q3 q4 q5 hl hM
    go_enter Tryz.func78, Tryz.ntmps78
    go_wp2_with (first
      | (go_at_call 64; refine hcall.mono ?_; rintro e w' ⟨rfl, rfl⟩)
      | (go_at_call 69; refine ka.mono ?_; rintro e w1 ⟨rfl, s1, o1⟩))
    go_ret
    exact ⟨rfl, _, ⟨v, s1, rfl⟩, o1.wide fun k _ e => .inl e, fun k hk => .inl hk⟩
  rw [if_neg hl]
  rw [decide_eq_false hl] at ka
  obtain ⟨g, c, nb, db, hv, hlt, hnb, hdb, hds, _⟩ := hS.file hfile
  obtain ⟨fs, hfs⟩ : ∃ fs, Dk.upd s.data.toList (Dk.synced f) m.files = fs := ⟨_, rfl⟩
  have hwr : Dr.with_ (Dk.synced f) false m.files = fs := by rw [Dr.with_put _ hG.up, Dr.put_upd (f := Dk.synced f) q4 hG.up q3, hfs]
  rw [hfs]
  obtain ⟨M0, hM0⟩ : ∃ M0, Dr.acc0 m = M0 := ⟨_, rfl⟩
  have hM0f : M0.files = m.files := by rw [← hM0]; rfl
  rw [hM0] at ka ⊢
  obtain ⟨M', hM⟩ : ∃ M', ({ M0 with files := fs } : Dk.M) = M' := ⟨_, rfl⟩
  rw [hM]
  have HM := Lib.hid hM
  have HMF := Lib.hid hM0f
  have kv0 : ∀ {w2 B2 v2}, Dr.Own w2 B2 v2 m.files → Calls Tryz.prog 66 #[v2, .agg #[.string nb, .string db, .int .i64 db.size]] w2 fun e W' => ∃ v', e = .returned v' ∧ Dr.Own W' w2.heap.size v' fs ∧ Below w2.heap.size w2 W' := fun ho => by
    have := Dr.with_any ho (by omega) (Dk.synced f) (fb := nb) (fd := db) hnb hdb
    rw [hwr, show (Dk.synced f).sure = db.size from hds.symm] at this
    exact this
  have hrow : ∀ {w1}, Dr.Stand w1 r v M0 → w1.cell? ⟨g, k * 3, none⟩ = some (.string nb) ∧ w1.cell? ⟨g, k * 3 + 1, none⟩ = some (.string db) ∧ w1.cell? ⟨g, k * 3 + 2, none⟩ = some (.int .i64 f.sure) := fun h => by
    obtain ⟨g2, c2', e, q0, q1, q2⟩ := h.row.at_ (by rw [HMF.out]; exact hfile)
    rw [hv, hM0f] at e
    injection e with e
    injection e with e
    injection e with e
    subst e
    rw [Tx.v_eq hnb] at q0
    rw [Tx.v_eq hdb] at q1
    exact ⟨q0, q1, q2⟩
  subst hv
  clear h1 hk hfile hf hc q1 q2 q3 q4 q5 hl hM hM0 hM0f hnb hdb hds hwr hfs h0
  go_enter Tryz.func78, Tryz.ntmps78
  go_upto_region 9 with (first
    | (go_at_call 64; refine hcall.mono ?_; rintro e w' ⟨rfl, rfl⟩)
    | (go_at_call 69; refine ka.mono ?_; rintro e w1 ⟨rfl, s1, o1⟩; obtain ⟨c0, c1, c2⟩ := hrow s1; have d1 := s1.seven.2.1))
  have hb2 : Blk (w1.alloc (.cells #[.string nb, .string db, .int .i64 db.size] 83)) w1.heap.size 83 #[.string nb, .string db, .int .i64 db.size] := Blk.new _ _ _
  have hB2 : Below w1.heap.size w1 (w1.alloc (.cells #[.string nb, .string db, .int .i64 db.size] 83)).drew := ((Below.refl _ _).alloc (Nat.le_refl _) _).drew
  obtain ⟨W2, hW2⟩ : ∃ W2, w1.alloc (.cells #[.string nb, .string db, .int .i64 db.size] 83) = W2 := ⟨_, rfl⟩
  rw [hW2] at hb2 hB2 ⊢
  have hS2 := s1.later hB2 (Nat.le_refl _)
  have e1 : W2.cell? ⟨r, 1, none⟩ = some (.slice (some ⟨g, 0, none⟩) m.files.length c) := hS2.seven.2.1
  have e1d : W2.drew.cell? ⟨r, 1, none⟩ = some (.slice (some ⟨g, 0, none⟩) m.files.length c) := e1
  have hrl := s1.blk.lt
  obtain ⟨p, hp⟩ : ∃ p, w1.heap.size = p := ⟨_, rfl⟩
  rw [hp] at hb2 ⊢
  have hrp : p ≠ r := by omega
  have hpl := hb2.lt
  have hrl2 : r < W2.heap.size := hS2.blk.lt
  have S0 : Dr.Four r p nb db db.size W2 := ⟨hS2.blk.frozen 1, hb2.cell 0, hb2.cell 1, hb2.cell 2⟩
  have S0d : Dr.Four r p nb db db.size W2.drew := S0
  have hrw2 : Dr.Own W2 0 (.slice (some ⟨g, 0, none⟩) m.files.length c) m.files := by have := hS2.row; rw [HMF.out] at this; exact this.keep fun _ _ => rfl
  have kw := kv0 (hrw2.keep (W' := W2.drew) fun _ _ => rfl)
  have kf : ∀ {w3 v3}, Dr.Own w3 W2.drew.heap.size v3 fs → Below W2.drew.heap.size W2.drew w3 → Dr.Moved W (w3.setCell ⟨r, 1, none⟩ v3) r (Dr.foot r (.slice (some ⟨g, 0, none⟩) m.files.length c)) M' := fun {w3 v3} ho h3 => by
    have hz1 := hB2.size
    have ho3 : Dr.Own w3 w1.heap.size v3 fs := ho.base fun k hk => by have := (ho.lt hk).1; omega
    obtain ⟨s3, close⟩ := Dr.Moved.files s1 (hB2.trans (h3.mono hz1)) ho3
    rw [HM.out] at s3
    exact Dr.Moved.after o1 (close _ _ s3 (Dk.Only.refl _ _))
  clear hW2 hp hb2 hB2 hcall kv0 hrl hrow c0 c1 c2 d1 ka s1 o1 hrw2
  rw [show Op.load 45 (Operand.tmp 35) = Dr.o36 from rfl]
  go_region_held_law (fun W' => W'.frozen? ⟨r, 1, none⟩ = false ∧ W'.cell? ⟨p, 0, none⟩ = some (.string nb) ∧ W'.cell? ⟨p, 1, none⟩ = some (.string db) ∧ W'.cell? ⟨p, 2, none⟩ = some (.int .i64 (db.size : Nat)))
    (first
      | with_reducible assumption
      | exact S0
      | exact S0d
      | exact S6
      | exact Dr.Four.set (by assumption) hrp _)
    (first
      | (go_at_call 66; refine kw.mono ?_; clear kw; rintro e w3 ⟨v3, rfl, o3, b3⟩; have hm := kf o3 b3; obtain ⟨A3, C3, rfl⟩ := o3.form; have S6 : Dr.Four r p nb db db.size w3 := S0.keep (b3.block r hrl2) (b3.block p hpl); have z6 : w3.cell? ⟨r, 1, none⟩ = some (.slice (some ⟨g, 0, none⟩) m.files.length c) := (World.cell?_of_block (b3.block r hrl2)).trans e1; have x6 := S6.1))
  all_goals (try go_wp2_with fail)
  all_goals go_ret
  all_goals exact ⟨rfl, hm⟩
end
#print axioms Dr.sync_any
#print axioms Dr.append_any
end Go.Proofs.YtifkhjihgnnpfaaGreatDoor
