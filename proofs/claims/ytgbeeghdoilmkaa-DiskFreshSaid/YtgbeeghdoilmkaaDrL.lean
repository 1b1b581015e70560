/- Disks in memory (the document's): Append, Sync. Conditions: each theorem's own hypotheses. -/
import Derived.Test.YtgbeeghdoilmkaaDrJ
import Derived.Deep.QuietTactic
namespace Go.Proofs.Ytgbeeghdoilmkaa
open Go.RowKit Go.Maps Go.Sort
set_option linter.unusedVariables false

/-- The loads of the list of files, under names (Append, Sync). -/
def Dr.o58 : Op := Op.load 32 (Operand.tmp 57)
def Dr.o36 : Op := Op.load 32 (Operand.tmp 35)
attribute [go_sem] Dr.o58 Dr.o36
theorem Dr.acc_true {m : Dk.M} (h : m.off = false) (fs : List Dk.F) : Dk.acc m true fs = (Dr.acc0 { m with files := fs }, if m.left = 1 then 45 else 0) := by
  obtain ⟨f0, cap, ag, wr, off, left, done⟩ := m
  simp only at h
  subst h
  unfold Dk.acc Dr.acc0
  simp only
  match left with
  | 0 => rfl
  | 1 => rfl
  | n + 2 =>
    rw [if_neg (by omega), if_pos (by omega), if_neg (by omega), if_neg (by omega), decide_eq_false (by omega)]
theorem Dr.acc_false {m : Dk.M} (h : m.off = false) (fs : List Dk.F) : Dk.acc m false fs = if m.left = 1 then (Dr.acc0 m, 45) else ({ Dr.acc0 m with files := fs }, 0) := by
  obtain ⟨f0, cap, ag, wr, off, left, done⟩ := m
  simp only at h
  subst h
  unfold Dk.acc Dr.acc0
  simp only
  match left with
  | 0 => rfl
  | 1 => rfl
  | n + 2 =>
    rw [if_neg (by omega), if_pos (by omega), if_neg (by omega), if_neg (by omega), decide_eq_false (by omega)]
/-- A new list is stored, behind a call that made it. -/
theorem Dr.Moved.files {W w : World} {r : Nat} {v v' : Value} {m : Dk.M} {fs : List Dk.F} (hS : Dr.Stand W r v m) (hB : Below W.heap.size W w) (ho : Dr.Own w W.heap.size v' fs) :
    Dr.Stand (w.setCell ⟨r, 1, none⟩ v') r v' { m with files := fs } ∧ (∀ W' m', Dr.Stand W' r v' m' → Dk.Only (fun k => k = r) (w.setCell ⟨r, 1, none⟩ v') W' → Dr.Moved W W' r (Dr.foot r v) m') := by
  refine ⟨(hS.later hB (Nat.le_refl _)).files (ho.base fun _ _ => Nat.zero_le _), fun W' m' hs h => ?_⟩
  have h2 : Dk.Only (fun k => k = r) w W' := (Dk.Only.setCell (F := fun k => k = r) (Dk.Only.refl _ _) (.inl rfl) _).trans h
  exact Dr.Moved.step hB ho hs h2 (.inl rfl)
theorem Dr.Moved.after {W w W' : World} {r : Nat} {v : Value} {m' : Dk.M} (h1 : Dk.Only (fun k => k = r) W w) (h : Dr.Moved w W' r (Dr.foot r v) m') : Dr.Moved W W' r (Dr.foot r v) m' := by
  obtain ⟨F', hA, ho, hf⟩ := h
  exact ⟨F', hA, (h1.wide fun k _ hk => .inl hk).trans ho, fun k hk => (hf k hk).imp id fun h => Nat.le_trans h1.size h⟩
section
variable {W : World} {r : Nat} {m : Dk.M} {F : Nat → Prop}
set_option maxRecDepth 100000 in
set_option maxHeartbeats 2000000 in
theorem Dr.append_any (h : Dr.At W r m F) (hG : Dk.Good m) (s t : ByteArray) (hs : s.size ≤ 9223372036854775807) (ht : t.size ≤ 140737488355328) :
    Calls Try.prog 78 #[.pointer (some ⟨r, 0, none⟩), .string s, .string t] W fun e W' => e = .returned (.int .i64 (Dk.append m s.data.toList t.data.toList).2) ∧ Dr.Moved W W' r F (Dk.append m s.data.toList t.data.toList).1 := by
  have h0 := h
  obtain ⟨v, hS, rfl⟩ := h
  obtain ⟨k, hk, hcall⟩ := Dr.look_any hS hG.many s hs
  unfold Dk.append
  by_cases h1 : Dk.code m s.data.toList ≠ 0
  · rw [if_pos h1]
    obtain ⟨c, hc⟩ : ∃ c, Dk.code m s.data.toList = c := ⟨_, rfl⟩
    rw [hc] at hcall h1 ⊢
    have t1 : (c != 0) = true := bne_iff_ne.2 h1
    clear hc h1 hk
    go_enter Try.func78, Try.ntmps78
    go_wp2_with (go_at_call 66; refine hcall.mono ?_; rintro e w' ⟨rfl, rfl⟩)
    go_ret
    exact ⟨rfl, .same h0 (Below.refl _ _)⟩
  rw [if_neg h1]
  have hc : Dk.code m s.data.toList = 0 := Decidable.not_not.1 h1
  obtain ⟨q1, q2, q3, q4, q5⟩ := Dk.code_zero hc
  have hfile := hk hc
  rw [hc] at hcall
  obtain ⟨f, hf⟩ : ∃ f, Dk.file m s.data.toList = f := ⟨_, rfl⟩
  rw [hf] at q3 q4 q5 hfile ⊢
  obtain ⟨g, c, nb, db, rfl, hlt, hnb, hdb, hds, c0, c1, c2⟩ := hS.file hfile
  obtain ⟨d0, d1, d2, d3, d4, d5, d6⟩ := hS.seven
  obtain ⟨_, hfl, hfs2⟩ := hG.file f q5
  have hmany := hG.many
  have hcap := hG.cap
  have hused := hG.used
  have htl : t.data.toList.length = t.size := (Tx.size t).symm
  rw [htl]
  clear h1 hk hfile hf hc
  obtain ⟨z, hz⟩ : ∃ z, z = db.size + t.size := ⟨_, rfl⟩
  have w1 : IntKind.i64.wrap ((db.size : Int) + (t.size : Int)) = (z : Int) := (IntWalk.i64_in _ (by omega)).trans (by omega)
  by_cases g1 : 268435456 - f.data.length < t.size
  · rw [if_pos g1]
    have u1 : decide ((268435456 : Int) < (z : Int)) = true := decide_eq_true (by omega)
    clear hz
    go_enter Try.func78, Try.ntmps78
    go_wp2_with (go_at_call 66; refine hcall.mono ?_; rintro e w' ⟨rfl, rfl⟩)
    go_ret
    exact ⟨rfl, .same h0 ((Below.refl _ _).alloc (Nat.le_refl _) _)⟩
  rw [if_neg g1]
  have u1 : decide ((268435456 : Int) < (z : Int)) = false := decide_eq_false (by omega)
  obtain ⟨u, hu⟩ : ∃ u, Dk.used m.files = u := ⟨_, rfl⟩
  obtain ⟨y, hy⟩ : ∃ y, y = u + t.size := ⟨_, rfl⟩
  rw [hu] at hused ⊢
  have w2 : IntKind.i64.wrap ((u : Int) + (t.size : Int)) = (y : Int) := (IntWalk.i64_in _ (by omega)).trans (by omega)
  have hsne : (t.data.toList ≠ [] ∧ m.cap - u < t.size) ↔ (0 < t.size ∧ m.cap < y) := by
    rw [← List.length_pos_iff, htl]
    constructor <;> rintro ⟨a, b⟩ <;> exact ⟨a, by omega⟩
  obtain ⟨W1, hW1⟩ : ∃ W1, W.alloc (.cells #[.string nb, .string db, .int .i64 f.sure] 38) = W1 := ⟨_, rfl⟩
  have hB1 : Below W.heap.size W W1 := by rw [← hW1]; exact (Below.refl _ _).alloc (Nat.le_refl _) _
  have HW1 := Lib.hid hW1
  clear hW1
  have hu1 : ∀ w, Below W.heap.size W w → Calls Try.prog 40 #[.pointer (some ⟨r, 0, none⟩)] w fun e w' => e = .returned (.int .i64 u) ∧ w' = w := fun w hB => by
    have := Dr.used_any (h0.later hB (Nat.le_refl _)) (by omega) hmany
    rw [hu] at this
    exact this.mono fun _ _ ⟨a, b⟩ => ⟨a, b.symm⟩
  have hu2 : ∀ n, _ := fun n => hu1 _ (below_dn hB1 n)
  clear hu1
  by_cases g2 : 0 < t.size ∧ m.cap < y
  · rw [if_pos (hsne.2 g2)]
    obtain ⟨g3, g4⟩ := g2
    have u2 : decide (0 < t.size) = true := decide_eq_true g3
    have u3 : decide (m.cap < y) = true := decide_eq_true g4
    clear hsne hz hy hu hds
    go_enter Try.func78, Try.ntmps78
    go_upto_region 7 with (go_at_call 66; refine hcall.mono ?_; rintro e w' ⟨rfl, rfl⟩)
    have e0 : W1.cell? ⟨r, 0, none⟩ = some (.int .i64 m.cap) := (hS.later hB1 (Nat.le_refl _)).seven.1
    rw [HW1.out]
    clear c0 c1 c2 d0 d1 d2 d3 d4 d5 d6
    go_quiet ((go_at_call 40; exact Calls.quiet_of_same (hu2 _)))
    go_wp2_with fail
    go_ret
    exact ⟨rfl, .same h0 (below_dn hB1 _)⟩
  rw [if_neg (fun h => g2 (hsne.1 h))]
  have hgr : (Dk.grow f t.data.toList).name = s.data.toList := q4
  obtain ⟨fs, hfs⟩ : ∃ fs, Dk.upd s.data.toList (Dk.grow f t.data.toList) m.files = fs := ⟨_, rfl⟩
  have hwr : Dr.with_ (Dk.grow f t.data.toList) false m.files = fs := by rw [Dr.with_put _ hG.up, Dr.put_upd hgr hG.up q3, hfs]
  rw [hfs, Dr.acc_true q1]
  obtain ⟨E, hE⟩ : ∃ E : Int, (if m.left = 1 then 45 else 0) = E := ⟨_, rfl⟩
  obtain ⟨M', hM⟩ : ∃ M', Dr.acc0 { m with files := fs } = M' := ⟨_, rfl⟩
  rw [hE, hM]
  have HE := Lib.hid hE
  have HM := Lib.hid hM
  clear hE hM
  obtain ⟨xb, hxb⟩ : ∃ xb, db ++ t = xb := ⟨_, rfl⟩
  have hxd : xb.data.toList = f.data ++ t.data.toList := by rw [← hxb, Tx.append, hdb]
  have kv0 : ∀ {w2 B2 v2}, Dr.Own w2 B2 v2 m.files → Calls Try.prog 68 #[v2, .agg #[.string nb, .string xb, .int .i64 f.sure]] w2 fun e W' => ∃ v', e = .returned v' ∧ Dr.Own W' w2.heap.size v' fs ∧ Below w2.heap.size w2 W' := fun ho => by
    have := Dr.with_any ho (by omega) (Dk.grow f t.data.toList) (fb := nb) (fd := xb) hnb hxd
    rw [hwr] at this
    exact this
  have hleft := hG.left
  clear hwr hfs hgr
  by_cases g3 : 0 < t.size
  · skip
    have u2 : decide (0 < t.size) = true := decide_eq_true g3
    have u3 : decide (m.cap < y) = false := decide_eq_false (fun h => g2 ⟨g3, h⟩)
    have hcat : ¬ 9223372036854775807 < db.size + t.size := by omega
    clear hsne hz hy hu g2 g3 q2 q3 q4 q5 hfl hfs2 hcap hused htl hG hds
    go_enter Try.func78, Try.ntmps78
    go_upto_region 7 with (go_at_call 66; refine hcall.mono ?_; rintro e w' ⟨rfl, rfl⟩)
    have e0 : W1.cell? ⟨r, 0, none⟩ = some (.int .i64 m.cap) := (hS.later hB1 (Nat.le_refl _)).seven.1
    have hb1 : Blk W1 W.heap.size 38 #[.string nb, .string db, .int .i64 f.sure] := by rw [← HW1.out]; exact Blk.new _ _ _
    obtain ⟨p, hp⟩ : ∃ p, W.heap.size = p := ⟨_, rfl⟩
    have hrl := hS.blk.lt
    rw [HW1.out]
    rw [hp] at hb1 ⊢
    have p0 := hb1.cell 0
    have p1 := hb1.cell 1
    have p2 := hb1.cell 2
    have pf := hb1.frozen 1
    simp only [List.getElem?_toArray, List.getElem?_cons_zero, List.getElem?_cons_succ] at p0 p1 p2
    clear c0 c1 c2 d0 d1 d2 d3 d4 d5 d6
    go_quiet ((go_at_call 40; exact Calls.quiet_of_same (hu2 _)))
    go_upto_region 10 with fail
    have hb2 : Blk ((W1.drewN nq).setCell ⟨p, 1, none⟩ (.string xb)) p 38 #[.string nb, .string xb, .int .i64 f.sure] := Blk.set_ (w := W1.drewN nq) (cs := #[.string nb, .string db, .int .i64 f.sure]) hb1 1 (.string xb)
    have hB2 : Below W.heap.size W ((W1.drewN nq).setCell ⟨p, 1, none⟩ (.string xb)).drew := ((below_dn hB1 nq).setCell (Nat.le_of_eq hp) _).drew
    obtain ⟨W2, hW2⟩ : ∃ W2, (W1.drewN nq).setCell ⟨p, 1, none⟩ (.string xb) = W2 := ⟨_, rfl⟩
    rw [hW2] at hb2 hB2 ⊢
    have hS2 := hS.later hB2 (Nat.le_refl _)
    have e1 : W2.cell? ⟨r, 1, none⟩ = some (.slice (some ⟨g, 0, none⟩) m.files.length c) := hS2.seven.2.1
    have e1d : W2.drew.cell? ⟨r, 1, none⟩ = some (.slice (some ⟨g, 0, none⟩) m.files.length c) := e1
    have hrp : p ≠ r := by omega
    have hpl := hb2.lt
    have hrl2 : r < W2.heap.size := hS2.blk.lt
    have S0 : Dr.Four r p nb xb f.sure W2 := ⟨hS2.blk.frozen 1, hb2.cell 0, hb2.cell 1, hb2.cell 2⟩
    have S0d : Dr.Four r p nb xb f.sure W2.drew := S0
    have kw := kv0 (hS2.row.keep (W' := W2.drew) fun _ _ => rfl)
    obtain ⟨lb, hlb⟩ : ∃ lb, decide (m.left = 1) = lb := ⟨_, rfl⟩
    have HE2 : Hid (E = if lb = true then 45 else 0) := by
      show _ = _
      rw [← HE.out, ← hlb]
      simp only [decide_eq_true_eq]
    have kf : ∀ {w3 v3}, Dr.Own w3 W2.drew.heap.size v3 fs → Below W2.drew.heap.size W2.drew w3 → Calls Try.prog 83 #[.pointer (some ⟨r, 0, none⟩)] (w3.setCell ⟨r, 1, none⟩ v3) fun e W' => e = .returned (.bool lb) ∧ Dr.Moved W W' r (Dr.foot r (.slice (some ⟨g, 0, none⟩) m.files.length c)) M' := fun {w3 v3} ho h3 => by
      have hz1 := hB2.size
      have ho3 : Dr.Own w3 W.heap.size v3 fs := ho.base fun k hk => by have := (ho.lt hk).1; omega
      obtain ⟨s3, close⟩ := Dr.Moved.files hS (hB2.trans (h3.mono hz1)) ho3
      have hl3 : ({ m with files := fs } : Dk.M).left ≤ 9223372036854775807 := hleft
      refine (Dr.accepted_any s3 hl3).mono ?_
      rintro e W' ⟨rfl, s4, o4⟩
      refine ⟨by rw [← hlb], ?_⟩
      rw [← HM.out]
      exact close W' _ s4 o4
    clear hW2 hp hb1 hb2 hB1 hB2 hcall hxb kv0 hrl hnb hdb hxd h0 hu2 hlb pf p0 p1 p2 e0 hS2
    rw [show Op.load 32 (Operand.tmp 57) = Dr.o58 from rfl]
    go_region_held_law (fun W' => W'.frozen? ⟨r, 1, none⟩ = false ∧ W'.cell? ⟨p, 0, none⟩ = some (.string nb) ∧ W'.cell? ⟨p, 1, none⟩ = some (.string xb) ∧ W'.cell? ⟨p, 2, none⟩ = some (.int .i64 (f.sure : Nat)))
      (first
        | with_reducible assumption
        | exact S0
        | exact S0d
        | exact S6
        | exact Dr.Four.set (by assumption) hrp _)
      (first
        | (go_at_call 68; refine kw.mono ?_; clear kw; rintro e w3 ⟨v3, rfl, o3, b3⟩; have kf2 := kf o3 b3; obtain ⟨A3, C3, rfl⟩ := o3.form; have S6 : Dr.Four r p nb xb f.sure w3 := S0.keep (b3.block r hrl2) (b3.block p hpl); have z6 : w3.cell? ⟨r, 1, none⟩ = some (.slice (some ⟨g, 0, none⟩) m.files.length c) := (World.cell?_of_block (b3.block r hrl2)).trans e1; have x6 := S6.1))
    all_goals
      have hE := HE2.out
      clear HE2 HE HM kf
      cases lb with
      | true =>
        rw [if_pos rfl] at hE
        subst hE
        go_wp2_with (go_at_call 83; refine kf2.mono ?_; rintro e w4 ⟨rfl, hm⟩)
        go_ret
        exact ⟨rfl, hm⟩
      | false =>
        rw [if_neg (by decide)] at hE
        subst hE
        go_wp2_with (go_at_call 83; refine kf2.mono ?_; rintro e w4 ⟨rfl, hm⟩)
        go_ret
        exact ⟨rfl, hm⟩
  · skip
    have u2 : decide (0 < t.size) = false := decide_eq_false g3
    have hcat : ¬ 9223372036854775807 < db.size + t.size := by omega
    clear hsne hz hy hu g2 g3 q2 q3 q4 q5 hfl hfs2 hcap hused htl hG hds
    go_enter Try.func78, Try.ntmps78
    go_upto_region 7 with (go_at_call 66; refine hcall.mono ?_; rintro e w' ⟨rfl, rfl⟩)
    have e0 : W1.cell? ⟨r, 0, none⟩ = some (.int .i64 m.cap) := (hS.later hB1 (Nat.le_refl _)).seven.1
    have hb1 : Blk W1 W.heap.size 38 #[.string nb, .string db, .int .i64 f.sure] := by rw [← HW1.out]; exact Blk.new _ _ _
    obtain ⟨p, hp⟩ : ∃ p, W.heap.size = p := ⟨_, rfl⟩
    have hrl := hS.blk.lt
    rw [HW1.out]
    rw [hp] at hb1 ⊢
    have p0 := hb1.cell 0
    have p1 := hb1.cell 1
    have p2 := hb1.cell 2
    have pf := hb1.frozen 1
    simp only [List.getElem?_toArray, List.getElem?_cons_zero, List.getElem?_cons_succ] at p0 p1 p2
    clear c0 c1 c2 d0 d1 d2 d3 d4 d5 d6
    go_quiet (fail)
    go_upto_region 10 with fail
    have hb2 : Blk ((W1.drewN nq).setCell ⟨p, 1, none⟩ (.string xb)) p 38 #[.string nb, .string xb, .int .i64 f.sure] := Blk.set_ (w := W1.drewN nq) (cs := #[.string nb, .string db, .int .i64 f.sure]) hb1 1 (.string xb)
    have hB2 : Below W.heap.size W ((W1.drewN nq).setCell ⟨p, 1, none⟩ (.string xb)).drew := ((below_dn hB1 nq).setCell (Nat.le_of_eq hp) _).drew
    obtain ⟨W2, hW2⟩ : ∃ W2, (W1.drewN nq).setCell ⟨p, 1, none⟩ (.string xb) = W2 := ⟨_, rfl⟩
    rw [hW2] at hb2 hB2 ⊢
    have hS2 := hS.later hB2 (Nat.le_refl _)
    have e1 : W2.cell? ⟨r, 1, none⟩ = some (.slice (some ⟨g, 0, none⟩) m.files.length c) := hS2.seven.2.1
    have e1d : W2.drew.cell? ⟨r, 1, none⟩ = some (.slice (some ⟨g, 0, none⟩) m.files.length c) := e1
    have hrp : p ≠ r := by omega
    have hpl := hb2.lt
    have hrl2 : r < W2.heap.size := hS2.blk.lt
    have S0 : Dr.Four r p nb xb f.sure W2 := ⟨hS2.blk.frozen 1, hb2.cell 0, hb2.cell 1, hb2.cell 2⟩
    have S0d : Dr.Four r p nb xb f.sure W2.drew := S0
    have kw := kv0 (hS2.row.keep (W' := W2.drew) fun _ _ => rfl)
    obtain ⟨lb, hlb⟩ : ∃ lb, decide (m.left = 1) = lb := ⟨_, rfl⟩
    have HE2 : Hid (E = if lb = true then 45 else 0) := by
      show _ = _
      rw [← HE.out, ← hlb]
      simp only [decide_eq_true_eq]
    have kf : ∀ {w3 v3}, Dr.Own w3 W2.drew.heap.size v3 fs → Below W2.drew.heap.size W2.drew w3 → Calls Try.prog 83 #[.pointer (some ⟨r, 0, none⟩)] (w3.setCell ⟨r, 1, none⟩ v3) fun e W' => e = .returned (.bool lb) ∧ Dr.Moved W W' r (Dr.foot r (.slice (some ⟨g, 0, none⟩) m.files.length c)) M' := fun {w3 v3} ho h3 => by
      have hz1 := hB2.size
      have ho3 : Dr.Own w3 W.heap.size v3 fs := ho.base fun k hk => by have := (ho.lt hk).1; omega
      obtain ⟨s3, close⟩ := Dr.Moved.files hS (hB2.trans (h3.mono hz1)) ho3
      have hl3 : ({ m with files := fs } : Dk.M).left ≤ 9223372036854775807 := hleft
      refine (Dr.accepted_any s3 hl3).mono ?_
      rintro e W' ⟨rfl, s4, o4⟩
      refine ⟨by rw [← hlb], ?_⟩
      rw [← HM.out]
      exact close W' _ s4 o4
    clear hW2 hp hb1 hb2 hB1 hB2 hcall hxb kv0 hrl hnb hdb hxd h0 hu2 hlb pf p0 p1 p2 e0 hS2
    rw [show Op.load 32 (Operand.tmp 57) = Dr.o58 from rfl]
    go_region_held_law (fun W' => W'.frozen? ⟨r, 1, none⟩ = false ∧ W'.cell? ⟨p, 0, none⟩ = some (.string nb) ∧ W'.cell? ⟨p, 1, none⟩ = some (.string xb) ∧ W'.cell? ⟨p, 2, none⟩ = some (.int .i64 (f.sure : Nat)))
      (first
        | with_reducible assumption
        | exact S0
        | exact S0d
        | exact S6
        | exact Dr.Four.set (by assumption) hrp _)
      (first
        | (go_at_call 68; refine kw.mono ?_; clear kw; rintro e w3 ⟨v3, rfl, o3, b3⟩; have kf2 := kf o3 b3; obtain ⟨A3, C3, rfl⟩ := o3.form; have S6 : Dr.Four r p nb xb f.sure w3 := S0.keep (b3.block r hrl2) (b3.block p hpl); have z6 : w3.cell? ⟨r, 1, none⟩ = some (.slice (some ⟨g, 0, none⟩) m.files.length c) := (World.cell?_of_block (b3.block r hrl2)).trans e1; have x6 := S6.1))
    all_goals
      have hE := HE2.out
      clear HE2 HE HM kf
      cases lb with
      | true =>
        rw [if_pos rfl] at hE
        subst hE
        go_wp2_with (go_at_call 83; refine kf2.mono ?_; rintro e w4 ⟨rfl, hm⟩)
        go_ret
        exact ⟨rfl, hm⟩
      | false =>
        rw [if_neg (by decide)] at hE
        subst hE
        go_wp2_with (go_at_call 83; refine kf2.mono ?_; rintro e w4 ⟨rfl, hm⟩)
        go_ret
        exact ⟨rfl, hm⟩
set_option maxRecDepth 100000 in
set_option maxHeartbeats 2000000 in
theorem Dr.sync_any (h : Dr.At W r m F) (hG : Dk.Good m) (s : ByteArray) (hs : s.size ≤ 9223372036854775807) :
    Calls Try.prog 79 #[.pointer (some ⟨r, 0, none⟩), .string s] W fun e W' => e = .returned (.int .i64 (Dk.sync m s.data.toList).2) ∧ Dr.Moved W W' r F (Dk.sync m s.data.toList).1 := by
  have h0 := h
  obtain ⟨v, hS, rfl⟩ := h
  obtain ⟨k, hk, hcall⟩ := Dr.look_any hS hG.many s hs
  unfold Dk.sync
  by_cases h1 : Dk.code m s.data.toList ≠ 0
  · rw [if_pos h1]
    obtain ⟨c, hc⟩ : ∃ c, Dk.code m s.data.toList = c := ⟨_, rfl⟩
    rw [hc] at hcall h1 ⊢
    have t1 : (c != 0) = true := bne_iff_ne.2 h1
    clear hc h1 hk
    go_enter Try.func79, Try.ntmps79
    go_wp2_with (go_at_call 66; refine hcall.mono ?_; rintro e w' ⟨rfl, rfl⟩)
    go_ret
    exact ⟨rfl, .same h0 (Below.refl _ _)⟩
  rw [if_neg h1]
  have hc : Dk.code m s.data.toList = 0 := Decidable.not_not.1 h1
  obtain ⟨q1, q2, q3, q4, q5⟩ := Dk.code_zero hc
  have hfile := hk hc
  rw [hc] at hcall
  obtain ⟨f, hf⟩ : ∃ f, Dk.file m s.data.toList = f := ⟨_, rfl⟩
  rw [hf] at q3 q4 q5 hfile ⊢
  have hmany := hG.many
  have ka := Dr.accepted_any hS hG.left
  rw [Dr.acc_false q1]
  by_cases hl : m.left = 1
  · rw [if_pos hl]
    rw [decide_eq_true hl] at ka
    obtain ⟨M', hM⟩ : ∃ M', Dr.acc0 m = M' := ⟨_, rfl⟩
    rw [hM] at ka ⊢
    clear h1 hk hfile hf hc q1 q2 q3 q4 q5 hl hM
    go_enter Try.func79, Try.ntmps79
    go_wp2_with (first
      | (go_at_call 66; refine hcall.mono ?_; rintro e w' ⟨rfl, rfl⟩)
      | (go_at_call 83; refine ka.mono ?_; rintro e w1 ⟨rfl, s1, o1⟩))
    go_ret
    exact ⟨rfl, _, ⟨v, s1, rfl⟩, o1.wide fun k _ e => .inl e, fun k hk => .inl hk⟩
  rw [if_neg hl]
  rw [decide_eq_false hl] at ka
  obtain ⟨g, c, nb, db, hv, hlt, hnb, hdb, hds, _⟩ := hS.file hfile
  obtain ⟨fs, hfs⟩ : ∃ fs, Dk.upd s.data.toList (Dk.synced f) m.files = fs := ⟨_, rfl⟩
  have hwr : Dr.with_ (Dk.synced f) false m.files = fs := by rw [Dr.with_put _ hG.up, Dr.put_upd (f := Dk.synced f) q4 hG.up q3, hfs]
  rw [hfs]
  obtain ⟨M0, hM0⟩ : ∃ M0, Dr.acc0 m = M0 := ⟨_, rfl⟩
  have hM0f : M0.files = m.files := by rw [← hM0]; rfl
  rw [hM0] at ka ⊢
  obtain ⟨M', hM⟩ : ∃ M', ({ M0 with files := fs } : Dk.M) = M' := ⟨_, rfl⟩
  rw [hM]
  have HM := Lib.hid hM
  have HMF := Lib.hid hM0f
  have kv0 : ∀ {w2 B2 v2}, Dr.Own w2 B2 v2 m.files → Calls Try.prog 68 #[v2, .agg #[.string nb, .string db, .int .i64 db.size]] w2 fun e W' => ∃ v', e = .returned v' ∧ Dr.Own W' w2.heap.size v' fs ∧ Below w2.heap.size w2 W' := fun ho => by
    have := Dr.with_any ho (by omega) (Dk.synced f) (fb := nb) (fd := db) hnb hdb
    rw [hwr, show (Dk.synced f).sure = db.size from hds.symm] at this
    exact this
  have hrow : ∀ {w1}, Dr.Stand w1 r v M0 → w1.cell? ⟨g, k * 3, none⟩ = some (.string nb) ∧ w1.cell? ⟨g, k * 3 + 1, none⟩ = some (.string db) ∧ w1.cell? ⟨g, k * 3 + 2, none⟩ = some (.int .i64 f.sure) := fun h => by
    obtain ⟨g2, c2', e, q0, q1, q2⟩ := h.row.at_ (by rw [HMF.out]; exact hfile)
    rw [hv, hM0f] at e
    injection e with e
    injection e with e
    injection e with e
    subst e
    rw [Tx.v_eq hnb] at q0
    rw [Tx.v_eq hdb] at q1
    exact ⟨q0, q1, q2⟩
  subst hv
  clear h1 hk hfile hf hc q1 q2 q3 q4 q5 hl hM hM0 hM0f hnb hdb hds hwr hfs h0
  go_enter Try.func79, Try.ntmps79
  go_upto_region 9 with (first
    | (go_at_call 66; refine hcall.mono ?_; rintro e w' ⟨rfl, rfl⟩)
    | (go_at_call 83; refine ka.mono ?_; rintro e w1 ⟨rfl, s1, o1⟩; obtain ⟨c0, c1, c2⟩ := hrow s1; have d1 := s1.seven.2.1))
  have hb2 : Blk (w1.alloc (.cells #[.string nb, .string db, .int .i64 db.size] 38)) w1.heap.size 38 #[.string nb, .string db, .int .i64 db.size] := Blk.new _ _ _
  have hB2 : Below w1.heap.size w1 (w1.alloc (.cells #[.string nb, .string db, .int .i64 db.size] 38)).drew := ((Below.refl _ _).alloc (Nat.le_refl _) _).drew
  obtain ⟨W2, hW2⟩ : ∃ W2, w1.alloc (.cells #[.string nb, .string db, .int .i64 db.size] 38) = W2 := ⟨_, rfl⟩
  rw [hW2] at hb2 hB2 ⊢
  have hS2 := s1.later hB2 (Nat.le_refl _)
  have e1 : W2.cell? ⟨r, 1, none⟩ = some (.slice (some ⟨g, 0, none⟩) m.files.length c) := hS2.seven.2.1
  have e1d : W2.drew.cell? ⟨r, 1, none⟩ = some (.slice (some ⟨g, 0, none⟩) m.files.length c) := e1
  have hrl := s1.blk.lt
  obtain ⟨p, hp⟩ : ∃ p, w1.heap.size = p := ⟨_, rfl⟩
  rw [hp] at hb2 ⊢
  have hrp : p ≠ r := by omega
  have hpl := hb2.lt
  have hrl2 : r < W2.heap.size := hS2.blk.lt
  have S0 : Dr.Four r p nb db db.size W2 := ⟨hS2.blk.frozen 1, hb2.cell 0, hb2.cell 1, hb2.cell 2⟩
  have S0d : Dr.Four r p nb db db.size W2.drew := S0
  have hrw2 : Dr.Own W2 0 (.slice (some ⟨g, 0, none⟩) m.files.length c) m.files := by have := hS2.row; rw [HMF.out] at this; exact this.keep fun _ _ => rfl
  have kw := kv0 (hrw2.keep (W' := W2.drew) fun _ _ => rfl)
  have kf : ∀ {w3 v3}, Dr.Own w3 W2.drew.heap.size v3 fs → Below W2.drew.heap.size W2.drew w3 → Dr.Moved W (w3.setCell ⟨r, 1, none⟩ v3) r (Dr.foot r (.slice (some ⟨g, 0, none⟩) m.files.length c)) M' := fun {w3 v3} ho h3 => by
    have hz1 := hB2.size
    have ho3 : Dr.Own w3 w1.heap.size v3 fs := ho.base fun k hk => by have := (ho.lt hk).1; omega
    obtain ⟨s3, close⟩ := Dr.Moved.files s1 (hB2.trans (h3.mono hz1)) ho3
    rw [HM.out] at s3
    exact Dr.Moved.after o1 (close _ _ s3 (Dk.Only.refl _ _))
  clear hW2 hp hb2 hB2 hcall kv0 hrl hrow c0 c1 c2 d1 ka s1 o1 hrw2
  rw [show Op.load 32 (Operand.tmp 35) = Dr.o36 from rfl]
  go_region_held_law (fun W' => W'.frozen? ⟨r, 1, none⟩ = false ∧ W'.cell? ⟨p, 0, none⟩ = some (.string nb) ∧ W'.cell? ⟨p, 1, none⟩ = some (.string db) ∧ W'.cell? ⟨p, 2, none⟩ = some (.int .i64 (db.size : Nat)))
    (first
      | with_reducible assumption
      | exact S0
      | exact S0d
      | exact S6
      | exact Dr.Four.set (by assumption) hrp _)
    (first
      | (go_at_call 68; refine kw.mono ?_; clear kw; rintro e w3 ⟨v3, rfl, o3, b3⟩; have hm := kf o3 b3; obtain ⟨A3, C3, rfl⟩ := o3.form; have S6 : Dr.Four r p nb db db.size w3 := S0.keep (b3.block r hrl2) (b3.block p hpl); have z6 : w3.cell? ⟨r, 1, none⟩ = some (.slice (some ⟨g, 0, none⟩) m.files.length c) := (World.cell?_of_block (b3.block r hrl2)).trans e1; have x6 := S6.1))
  all_goals (try go_wp2_with fail)
  all_goals go_ret
  all_goals exact ⟨rfl, hm⟩
end
#print axioms Dr.sync_any
#print axioms Dr.append_any
end Go.Proofs.Ytgbeeghdoilmkaa
