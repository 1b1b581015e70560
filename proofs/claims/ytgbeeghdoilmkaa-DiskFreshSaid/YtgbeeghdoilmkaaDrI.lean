/- Disks in memory (the document's): Rename. Conditions: each theorem's own hypotheses. -/
import Derived.Test.YtgbeeghdoilmkaaDrG
import Derived.Deep.RegionHeldLaw
namespace Go.Proofs.Ytgbeeghdoilmkaa
open Go.RowKit Go.Maps Go.Sort
set_option linter.unusedVariables false

/-- The load of the list of files, under a name (Rename). -/
def Dr.o44 : Op := Op.load 32 (Operand.tmp 43)
attribute [go_sem] Dr.o44
/-- A file's cells in a block. -/
def Dr.P3 (p : Nat) (nb db : ByteArray) (n : Nat) (W : World) : Prop := W.cell? ⟨p, 0, none⟩ = some (.string nb) ∧ W.cell? ⟨p, 1, none⟩ = some (.string db) ∧ W.cell? ⟨p, 2, none⟩ = some (.int .i64 n)
theorem Dr.P3.keep {p : Nat} {nb db : ByteArray} {n : Nat} {W W' : World} (h : Dr.P3 p nb db n W) (hk : W'.heap[p]? = W.heap[p]?) : Dr.P3 p nb db n W' :=
  ⟨(World.cell?_of_block hk).trans h.1, (World.cell?_of_block hk).trans h.2.1, (World.cell?_of_block hk).trans h.2.2⟩
theorem Dr.P3.blk {p : Nat} {nb db : ByteArray} {n : Nat} {W : World} {t : TypeId} (h : Blk W p t #[.string nb, .string db, .int .i64 n]) : Dr.P3 p nb db n W := ⟨h.cell 0, h.cell 1, h.cell 2⟩
section
variable {W : World} {r : Nat} {m : Dk.M} {F : Nat → Prop}
set_option maxRecDepth 100000 in
set_option maxHeartbeats 2000000 in
theorem Dr.rename_any (h : Dr.At W r m F) (hG : Dk.Good m) (s t : ByteArray) (hs : s.size ≤ 9223372036854775807) (ht : t.size ≤ 9223372036854775807) :
    Calls Try.prog 81 #[.pointer (some ⟨r, 0, none⟩), .string s, .string t] W fun e W' => e = .returned (.int .i64 (Dk.rename m s.data.toList t.data.toList).2) ∧ Dr.Moved W W' r F (Dk.rename m s.data.toList t.data.toList).1 := by
  have h0 := h
  obtain ⟨v, hS, rfl⟩ := h
  obtain ⟨k, hk, hcall⟩ := Dr.look_any hS hG.many s hs
  have hname : ∀ w : World, Calls Try.prog 71 #[.string t] w fun e w' => e = .returned (.bool (Dk.named t.data.toList)) ∧ w = w' := fun w => Dk.refNamed_any t ht _ rfl w
  unfold Dk.rename
  by_cases h1 : Dk.code m s.data.toList = 45
  · rw [if_pos h1]
    rw [h1] at hcall
    clear h1 hk hname
    go_enter Try.func81, Try.ntmps81
    go_wp2_with (go_at_call 66; refine hcall.mono ?_; rintro e w' ⟨rfl, rfl⟩)
    go_ret
    exact ⟨rfl, .same h0 (Below.refl _ _)⟩
  rw [if_neg h1]
  by_cases h2 : Dk.code m s.data.toList = 40
  · rw [if_pos (.inl h2)]
    rw [h2] at hcall
    clear h1 h2 hk hname
    go_enter Try.func81, Try.ntmps81
    go_wp2_with (go_at_call 66; refine hcall.mono ?_; rintro e w' ⟨rfl, rfl⟩)
    go_ret
    exact ⟨rfl, .same h0 (Below.refl _ _)⟩
  cases hn : Dk.named t.data.toList with
  | false =>
    rw [if_pos (.inr rfl)]
    rw [hn] at hname
    rcases (Dk.code_range m s.data.toList) with e | e | e | e
    · exact absurd e h1
    · exact absurd e h2
    all_goals
      rw [e] at hcall
      clear h1 h2 hk hn e
      go_enter Try.func81, Try.ntmps81
      go_wp2_with (first
        | (go_at_call 66; refine hcall.mono ?_; rintro e w' ⟨rfl, rfl⟩)
        | (go_at_call 71; refine (hname _).mono ?_; rintro e w' ⟨rfl, rfl⟩))
      go_ret
      exact ⟨rfl, .same h0 (Below.refl _ _)⟩
  | true =>
    rw [if_neg (fun h => by rcases h with h | h; exact h2 h; cases h)]
    rw [hn] at hname
    rcases (Dk.code_range m s.data.toList) with e | e | e | e
    · exact absurd e h1
    · exact absurd e h2
    · rw [if_pos (by rw [e]; decide), e]
      rw [e] at hcall
      clear h1 h2 hk hn e
      go_enter Try.func81, Try.ntmps81
      go_wp2_with (first
        | (go_at_call 66; refine hcall.mono ?_; rintro e w' ⟨rfl, rfl⟩)
        | (go_at_call 71; refine (hname _).mono ?_; rintro e w' ⟨rfl, rfl⟩))
      go_ret
      exact ⟨rfl, .same h0 (Below.refl _ _)⟩
    · rw [if_neg (by rw [e]; decide)]
      rw [e] at hcall
      obtain ⟨q1, q2, q3, q4, q5⟩ := Dk.code_zero e
      have hfile := hk e
      obtain ⟨f, hf⟩ : ∃ f, Dk.file m s.data.toList = f := ⟨_, rfl⟩
      rw [hf] at q3 q4 q5 hfile ⊢
      obtain ⟨g, c, nb, db, rfl, hlt, hnb, hdb, hds, c0, c1, c2⟩ := hS.file hfile
      obtain ⟨d0, d1, d2, d3, d4, d5, d6⟩ := hS.seven
      have hmany := hG.many
      obtain ⟨fs, hfs⟩ : ∃ fs, Dk.ren s.data.toList t.data.toList f m.files = fs := ⟨_, rfl⟩
      rw [hfs]
      obtain ⟨Z, hZ⟩ : ∃ Z, Dk.acc m m.done fs = Z := ⟨_, rfl⟩
      rw [hZ]
      have HFS := Lib.hid hfs
      have HZ := Lib.hid hZ
      clear h1 h2 hk hn e hfile hf hfs hZ
      go_enter Try.func81, Try.ntmps81
      go_upto_region 11 with (first
        | (go_at_call 66; refine hcall.mono ?_; rintro e w' ⟨rfl, rfl⟩)
        | (go_at_call 71; refine (hname _).mono ?_; rintro e w' ⟨rfl, rfl⟩))
      have hB1 : Below W.heap.size W (W.alloc (.cells #[.string t, .string db, .int .i64 f.sure] 38)).drew := ((Below.refl _ _).alloc (Nat.le_refl _) _).drew
      have hb1 : Blk (W.alloc (.cells #[.string t, .string db, .int .i64 f.sure] 38)) W.heap.size 38 #[.string t, .string db, .int .i64 f.sure] := Blk.new _ _ _
      obtain ⟨W1, hW1⟩ : ∃ W1, W.alloc (.cells #[.string t, .string db, .int .i64 f.sure] 38) = W1 := ⟨_, rfl⟩
      rw [hW1] at hB1 hb1 ⊢
      have hS1 := hS.later hB1 (Nat.le_refl _)
      have e1 : W1.cell? ⟨r, 1, none⟩ = some (.slice (some ⟨g, 0, none⟩) m.files.length c) := hS1.seven.2.1
      obtain ⟨p, hp⟩ : ∃ p, W.heap.size = p := ⟨_, rfl⟩
      have hrl := hS.blk.lt
      rw [hp] at hb1 ⊢
      have hpl := hb1.lt
      have S0 := Dr.P3.blk hb1
      have kw := Dr.without_any (hS1.row.keep (W' := W1.drew) fun _ _ => rfl) (by omega) s
      have hwr := Dr.with_ren (tn := t.data.toList) hG.up q3
      rw [HFS.out] at hwr
      obtain ⟨ds, hds2⟩ : ∃ ds, Dk.del Dk.F.name s.data.toList m.files = ds := ⟨_, rfl⟩
      rw [hds2] at kw hwr
      have hdl : ds.length ≤ 4096 := by rw [← hds2]; exact Nat.le_trans (List.length_filter_le _ _) hmany
      have kv : ∀ {w2 B2 v2}, Dr.Own w2 B2 v2 ds → Calls Try.prog 68 #[v2, .agg #[.string t, .string db, .int .i64 f.sure]] w2 fun e W' => ∃ v', e = .returned v' ∧ Dr.Own W' w2.heap.size v' fs ∧ Below w2.heap.size w2 W' := fun ho => by
        have := Dr.with_any ho (by omega) (Dk.named2 f t.data.toList) (fb := t) (fd := db) rfl hdb
        rw [hwr] at this
        exact this
      have ks : ∀ {w3 w2 v3}, Below W1.heap.size W1.drew w2 → Dr.Own w3 w2.heap.size v3 fs → Below w2.heap.size w2 w3 → Calls Try.prog 67 #[.pointer (some ⟨r, 0, none⟩), v3] w3 fun e W' => e = .returned (.int .i64 Z.2) ∧ Dr.P3 p t db f.sure W' ∧ Dr.Moved W W' r (Dr.foot r (.slice (some ⟨g, 0, none⟩) m.files.length c)) Z.1 := fun {w3 w2 v3} h2 ho h3 => by
        have hz1 := hB1.size
        have hz2 : W1.heap.size ≤ w2.heap.size := h2.size
        have hz3 := h3.size
        have hB3 : Below W.heap.size W w3 := (hB1.trans (h2.mono hz1)).trans (h3.mono (Nat.le_trans hz1 hz2))
        have ho3 : Dr.Own w3 W.heap.size v3 fs := ho.base fun k hk => by have := (ho.lt hk).1; omega
        refine (Dr.step_any (hS.later hB3 (Nat.le_refl _)) hG.left q1 (ho.base fun _ _ => Nat.zero_le _) (fun e => by have := (ho.lt e).1; omega)).mono ?_
        rintro e W' ⟨rfl, v2, s2, o2, hv⟩
        rw [HZ.out] at s2 ⊢
        refine ⟨rfl, (S0.keep (h2.block p hpl)).keep ((o2.block p (by omega) (by omega)).trans (h3.block p (by omega))), Dr.Moved.step hB3 ho3 s2 o2 hv⟩
      have e1d : W1.drew.cell? ⟨r, 1, none⟩ = some (.slice (some ⟨g, 0, none⟩) m.files.length c) := e1
      have S0d : Dr.P3 p t db f.sure W1.drew := S0
      clear hwr hds2 hnb hdb hds hW1 hp d0 d1 d2 d3 d4 d5 d6 c0 c1 c2 hb1 hB1 q1 q2 q3 q4 q5 hname hcall
      rw [show Op.load 32 (Operand.tmp 43) = Dr.o44 from rfl]
      go_region_held_law (fun W' => W'.cell? ⟨p, 0, none⟩ = some (.string t) ∧ W'.cell? ⟨p, 1, none⟩ = some (.string db) ∧ W'.cell? ⟨p, 2, none⟩ = some (.int .i64 (f.sure : Nat)))
        (first
          | with_reducible assumption
          | exact S0
          | exact S0d
          | exact S5
          | exact S6
          | exact S7)
        (first
          | (go_at_call 84; refine kw.mono ?_; clear kw; rintro e w2 ⟨v2, rfl, o2, b2⟩; obtain ⟨A2, C2, rfl⟩ := o2.form; have S5 : Dr.P3 p t db f.sure w2 := S0.keep (b2.block p hpl); have kv2 := kv o2)
          | (go_at_call 68; refine kv2.mono ?_; clear kv2; rintro e w3 ⟨v3, rfl, o3, b3⟩; have ks2 := ks b2 o3 b3; obtain ⟨A3, C3, rfl⟩ := o3.form; have S6 : Dr.P3 p t db f.sure w3 := S5.keep (b3.block p (by have : W1.heap.size ≤ w2.heap.size := b2.size; omega)))
          | (go_at_call 67; refine ks2.mono ?_; clear ks2; rintro e w4 ⟨rfl, S7, hm⟩))
      all_goals (try go_wp2_with fail)
      all_goals go_ret
      all_goals exact ⟨rfl, hm⟩
end
#print axioms Dr.rename_any
end Go.Proofs.Ytgbeeghdoilmkaa
