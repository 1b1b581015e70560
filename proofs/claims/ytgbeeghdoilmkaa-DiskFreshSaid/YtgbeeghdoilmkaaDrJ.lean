/- Disks in memory (the document's): Cut. Conditions: each theorem's own hypotheses. -/
import Derived.Test.YtgbeeghdoilmkaaDrI
namespace Go.Proofs.Ytgbeeghdoilmkaa
open Go.RowKit Go.Maps Go.Sort
set_option linter.unusedVariables false

/-- The load of the list of files, under a name (Cut). -/
def Dr.o50 : Op := Op.load 32 (Operand.tmp 49)
attribute [go_sem] Dr.o50
section
variable {W : World} {r : Nat} {m : Dk.M} {F : Nat → Prop}
set_option maxRecDepth 100000 in
set_option maxHeartbeats 2000000 in
theorem Dr.cut_any (h : Dr.At W r m F) (hG : Dk.Good m) (s : ByteArray) (hs : s.size ≤ 9223372036854775807) (n : Int) (hn : -9223372036854775808 ≤ n ∧ n < 9223372036854775808) :
    Calls Try.prog 80 #[.pointer (some ⟨r, 0, none⟩), .string s, .int .i64 n] W fun e W' => e = .returned (.int .i64 (Dk.cut m s.data.toList n).2) ∧ Dr.Moved W W' r F (Dk.cut m s.data.toList n).1 := by
  have h0 := h
  obtain ⟨v, hS, rfl⟩ := h
  obtain ⟨k, hk, hcall⟩ := Dr.look_any hS hG.many s hs
  unfold Dk.cut
  by_cases h1 : Dk.code m s.data.toList ≠ 0
  · rw [if_pos h1]
    obtain ⟨c, hc⟩ : ∃ c, Dk.code m s.data.toList = c := ⟨_, rfl⟩
    rw [hc] at hcall h1 ⊢
    have t1 : (c != 0) = true := bne_iff_ne.2 h1
    clear hc h1 hk
    go_enter Try.func80, Try.ntmps80
    go_wp2_with (go_at_call 66; refine hcall.mono ?_; rintro e w' ⟨rfl, rfl⟩)
    go_ret
    exact ⟨rfl, .same h0 (Below.refl _ _)⟩
  rw [if_neg h1]
  have hc : Dk.code m s.data.toList = 0 := Decidable.not_not.1 h1
  obtain ⟨q1, q2, q3, q4, q5⟩ := Dk.code_zero hc
  have hfile := hk hc
  rw [hc] at hcall
  obtain ⟨f, hf⟩ : ∃ f, Dk.file m s.data.toList = f := ⟨_, rfl⟩
  rw [hf] at q3 q4 q5 hfile ⊢
  obtain ⟨g, c, nb, db, rfl, hlt, hnb, hdb, hds, c0, c1, c2⟩ := hS.file hfile
  obtain ⟨d0, d1, d2, d3, d4, d5, d6⟩ := hS.seven
  obtain ⟨_, hfl, hfs2⟩ := hG.file f q5
  have hmany := hG.many
  clear h1 hk hfile hf hc
  by_cases g1 : n < 0
  · rw [if_pos (.inl g1)]
    have u1 : decide (n < 0) = true := decide_eq_true g1
    go_enter Try.func80, Try.ntmps80
    go_wp2_with (go_at_call 66; refine hcall.mono ?_; rintro e w' ⟨rfl, rfl⟩)
    go_ret
    exact ⟨rfl, .same h0 ((Below.refl _ _).alloc (Nat.le_refl _) _)⟩
  have u1 : decide (n < 0) = false := decide_eq_false g1
  obtain ⟨n, rfl⟩ := Int.eq_ofNat_of_zero_le (Int.not_lt.1 g1)
  by_cases g2 : f.data.length < n
  · rw [if_pos (.inr (by omega))]
    have u2 : decide (db.size < n) = true := decide_eq_true (by omega)
    clear hds
    go_enter Try.func80, Try.ntmps80
    go_wp2_with (go_at_call 66; refine hcall.mono ?_; rintro e w' ⟨rfl, rfl⟩)
    go_ret
    exact ⟨rfl, .same h0 ((Below.refl _ _).alloc (Nat.le_refl _) _)⟩
  rw [if_neg (by omega), Int.toNat_natCast]
  have u2 : decide (db.size < n) = false := decide_eq_false (by omega)
  have u3 : (n : Int) ≤ (db.size : Int) := by omega
  obtain ⟨xb, hxb⟩ : ∃ xb, db.extract 0 n = xb := ⟨_, rfl⟩
  have hxd : xb.data.toList = f.data.take n := by rw [← hxb, Tx.extract, hdb, List.drop_zero, Nat.sub_zero]
  obtain ⟨q, hq⟩ : ∃ q, min f.sure n = q := ⟨_, rfl⟩
  obtain ⟨fs, hfs⟩ : ∃ fs, Dk.upd s.data.toList (Dk.cutF f n) m.files = fs := ⟨_, rfl⟩
  have hwr : Dr.with_ (Dk.cutF f n) false m.files = fs := by rw [Dr.with_put _ hG.up, Dr.put_upd (f := Dk.cutF f n) q4 hG.up q3, hfs]
  rw [hfs]
  obtain ⟨Z, hZ⟩ : ∃ Z, Dk.acc m m.done fs = Z := ⟨_, rfl⟩
  rw [hZ]
  have kv0 : ∀ {w2 B2 v2}, Dr.Own w2 B2 v2 m.files → Calls Try.prog 68 #[v2, .agg #[.string nb, .string xb, .int .i64 q]] w2 fun e W' => ∃ v', e = .returned v' ∧ Dr.Own W' w2.heap.size v' fs ∧ Below w2.heap.size w2 W' := fun ho => by
    have := Dr.with_any ho (by omega) (Dk.cutF f n) (fb := nb) (fd := xb) hnb hxd
    rw [hwr, show (Dk.cutF f n).sure = q from hq] at this
    exact this
  have ks0 : ∀ {w1 w3 v3}, Below W.heap.size W w1 → Dr.Own w3 w1.heap.size v3 fs → Below w1.heap.size w1 w3 → Calls Try.prog 67 #[.pointer (some ⟨r, 0, none⟩), v3] w3 fun e W' => e = .returned (.int .i64 Z.2) ∧ Dk.Only (fun k => k = r) w3 W' ∧ Dr.Moved W W' r (Dr.foot r (.slice (some ⟨g, 0, none⟩) m.files.length c)) Z.1 := fun {w1 w3 v3} h1 ho h3 => by
    have hz1 := h1.size
    have hz3 := h3.size
    have hrl := hS.blk.lt
    have hB3 : Below W.heap.size W w3 := h1.trans (h3.mono hz1)
    have ho3 : Dr.Own w3 W.heap.size v3 fs := ho.base fun k hk => by have := (ho.lt hk).1; omega
    refine (Dr.step_any (hS.later hB3 (Nat.le_refl _)) hG.left q1 (ho.base fun _ _ => Nat.zero_le _) (fun e => by have := (ho.lt e).1; omega)).mono ?_
    rintro e W' ⟨rfl, v2, s2, o2, hv⟩
    rw [hZ] at s2 ⊢
    exact ⟨rfl, o2, Dr.Moved.step hB3 ho3 s2 o2 hv⟩
  clear hwr hfs hZ q1 q2 q3 q4 q5 hnb hdb hxd hds hfl hfs2 h0
  by_cases g3 : n < f.sure
  · obtain rfl : q = n := by omega
    have u4 : decide (q < f.sure) = true := decide_eq_true g3
    clear hq
    go_enter Try.func80, Try.ntmps80
    go_upto_region 10 with (go_at_call 66; refine hcall.mono ?_; rintro e w' ⟨rfl, rfl⟩)
    have hB1 : Below W.heap.size W (W.alloc (.cells #[.string nb, .string xb, .int .i64 q] 38)).drew := ((Below.refl _ _).alloc (Nat.le_refl _) _).drew
    have hb1 : Blk (W.alloc (.cells #[.string nb, .string xb, .int .i64 q] 38)) W.heap.size 38 #[.string nb, .string xb, .int .i64 q] := Blk.new _ _ _
    obtain ⟨W1, hW1⟩ : ∃ W1, W.alloc (.cells #[.string nb, .string xb, .int .i64 q] 38) = W1 := ⟨_, rfl⟩
    rw [hW1] at hB1 hb1 ⊢
    have hS1 := hS.later hB1 (Nat.le_refl _)
    have e1 : W1.cell? ⟨r, 1, none⟩ = some (.slice (some ⟨g, 0, none⟩) m.files.length c) := hS1.seven.2.1
    obtain ⟨p, hp⟩ : ∃ p, W.heap.size = p := ⟨_, rfl⟩
    have hrl := hS.blk.lt
    rw [hp] at hb1 ⊢
    have hrp : p ≠ r := by omega
    have hpl := hb1.lt
    have S0 := Dr.P3.blk hb1
    have kw := kv0 (hS1.row.keep (W' := W1.drew) fun _ _ => rfl)
    have ks := fun {w3 v3} => ks0 (w1 := W1.drew) (w3 := w3) (v3 := v3) hB1
    have e1d : W1.drew.cell? ⟨r, 1, none⟩ = some (.slice (some ⟨g, 0, none⟩) m.files.length c) := e1
    have S0d : Dr.P3 p nb xb q W1.drew := S0
    clear hW1 hp d0 d1 d2 d3 d4 d5 d6 c0 c1 c2 hb1 hB1 hcall hxb kv0 ks0 hrl
    rw [show Op.load 32 (Operand.tmp 49) = Dr.o50 from rfl]
    go_region_held_law (fun W' => W'.cell? ⟨p, 0, none⟩ = some (.string nb) ∧ W'.cell? ⟨p, 1, none⟩ = some (.string xb) ∧ W'.cell? ⟨p, 2, none⟩ = some (.int .i64 (q : Nat)))
      (first
        | with_reducible assumption
        | exact S0
        | exact S0d
        | exact S6
        | exact S7)
      (first
        | (go_at_call 68; refine kw.mono ?_; clear kw; rintro e w3 ⟨v3, rfl, o3, b3⟩; have ks2 := ks o3 b3; obtain ⟨A3, C3, rfl⟩ := o3.form; have S6 : Dr.P3 p nb xb q w3 := S0.keep (b3.block p hpl); have hp3 : p < w3.heap.size := Nat.lt_of_lt_of_le hpl b3.size)
        | (go_at_call 67; refine ks2.mono ?_; clear ks2; rintro e w4 ⟨rfl, o4, hm⟩; have S7 : Dr.P3 p nb xb q w4 := S6.keep (o4.block p hp3 hrp)))
    all_goals (try go_wp2_with fail)
    all_goals go_ret
    all_goals exact ⟨rfl, hm⟩
  · obtain rfl : q = f.sure := by omega
    have u4 : decide (n < f.sure) = false := decide_eq_false g3
    clear hq
    go_enter Try.func80, Try.ntmps80
    go_upto_region 10 with (go_at_call 66; refine hcall.mono ?_; rintro e w' ⟨rfl, rfl⟩)
    have hB1 : Below W.heap.size W (W.alloc (.cells #[.string nb, .string xb, .int .i64 f.sure] 38)).drew := ((Below.refl _ _).alloc (Nat.le_refl _) _).drew
    have hb1 : Blk (W.alloc (.cells #[.string nb, .string xb, .int .i64 f.sure] 38)) W.heap.size 38 #[.string nb, .string xb, .int .i64 f.sure] := Blk.new _ _ _
    obtain ⟨W1, hW1⟩ : ∃ W1, W.alloc (.cells #[.string nb, .string xb, .int .i64 f.sure] 38) = W1 := ⟨_, rfl⟩
    rw [hW1] at hB1 hb1 ⊢
    have hS1 := hS.later hB1 (Nat.le_refl _)
    have e1 : W1.cell? ⟨r, 1, none⟩ = some (.slice (some ⟨g, 0, none⟩) m.files.length c) := hS1.seven.2.1
    obtain ⟨p, hp⟩ : ∃ p, W.heap.size = p := ⟨_, rfl⟩
    have hrl := hS.blk.lt
    rw [hp] at hb1 ⊢
    have hrp : p ≠ r := by omega
    have hpl := hb1.lt
    have S0 := Dr.P3.blk hb1
    have kw := kv0 (hS1.row.keep (W' := W1.drew) fun _ _ => rfl)
    have ks := fun {w3 v3} => ks0 (w1 := W1.drew) (w3 := w3) (v3 := v3) hB1
    have e1d : W1.drew.cell? ⟨r, 1, none⟩ = some (.slice (some ⟨g, 0, none⟩) m.files.length c) := e1
    have S0d : Dr.P3 p nb xb f.sure W1.drew := S0
    clear hW1 hp d0 d1 d2 d3 d4 d5 d6 c0 c1 c2 hb1 hB1 hcall hxb kv0 ks0 hrl
    rw [show Op.load 32 (Operand.tmp 49) = Dr.o50 from rfl]
    go_region_held_law (fun W' => W'.cell? ⟨p, 0, none⟩ = some (.string nb) ∧ W'.cell? ⟨p, 1, none⟩ = some (.string xb) ∧ W'.cell? ⟨p, 2, none⟩ = some (.int .i64 (f.sure : Nat)))
      (first
        | with_reducible assumption
        | exact S0
        | exact S0d
        | exact S6
        | exact S7)
      (first
        | (go_at_call 68; refine kw.mono ?_; clear kw; rintro e w3 ⟨v3, rfl, o3, b3⟩; have ks2 := ks o3 b3; obtain ⟨A3, C3, rfl⟩ := o3.form; have S6 : Dr.P3 p nb xb f.sure w3 := S0.keep (b3.block p hpl); have hp3 : p < w3.heap.size := Nat.lt_of_lt_of_le hpl b3.size)
        | (go_at_call 67; refine ks2.mono ?_; clear ks2; rintro e w4 ⟨rfl, o4, hm⟩; have S7 : Dr.P3 p nb xb f.sure w4 := S6.keep (o4.block p hp3 hrp)))
    all_goals (try go_wp2_with fail)
    all_goals go_ret
    all_goals exact ⟨rfl, hm⟩
end
#print axioms Dr.cut_any
end Go.Proofs.Ytgbeeghdoilmkaa
