/- Disks in memory (the document's): Crash. Conditions: each theorem's own hypotheses. -/
import Derived.Test.YtgbeeghdoilmkaaDrM
namespace Go.Proofs.Ytgbeeghdoilmkaa
open Go.RowKit Go.Maps Go.Sort
set_option linter.unusedVariables false

/-- The document's crash: what is armed with stays. -/
def Dr.crash (m : Dk.M) (cs : List Dk.Cut) : Dk.M := { Dk.crash m cs with done := m.done }
theorem Dr.cutOf_cons (x : Dk.Cut) (l : List Dk.Cut) (nm : List UInt8) : Dk.cutOf (x :: l) nm = if x.name = nm then x else Dk.cutOf l nm := by
  unfold Dk.cutOf
  rw [List.find?_cons]
  by_cases e : x.name = nm
  · rw [if_pos e, e, beq_self_eq_true]; rfl
  · have : (x.name == nm) = false := by simpa using e
    rw [if_neg e, this]
theorem Dr.left_eq {cs : List Dk.Cut} {f : Dk.F} {x : Dk.Cut} (hx : Dk.cutOf cs f.name = x) (hs : f.sure ≤ f.data.length) {xb : ByteArray} (h : xb.data.toList = (Dk.leave x f).data) : (⟨f.name, xb.data.toList, xb.size⟩ : Dk.F) = Dk.left cs f := by
  have h2 : xb.size = f.sure + Dk.kept x f := by rw [Tx.size, h, Dk.leave_len x f hs]
  unfold Dk.left
  rw [hx, h, h2]
  unfold Dk.leave
  rfl
/-- A cut's cells. -/
theorem Dr.cut_at {W : World} {a : Option Addr} {n c : Nat} {cs : List Dk.Cut} (h : Dk.Cts W (.slice a n c) cs) {j : Nat} {x : Dk.Cut} (hx : cs[j]? = some x) : ∃ g off, a = some ⟨g, off, none⟩ ∧ W.cell? ⟨g, off + j * 3, none⟩ = some (Tx.v x.name) ∧ W.cell? ⟨g, off + j * 3 + 1, none⟩ = some (.int .i64 x.keep) ∧ W.cell? ⟨g, off + j * 3 + 2, none⟩ = some (.int .u8 x.spoil.toNat) := by
  rcases h with ⟨_, h⟩ | ⟨g, off, c2, h1, _, h3⟩
  · rw [h] at hx; simp at hx
  · injection h1 with h1 _ _
    obtain ⟨q0, q1, q2⟩ := h3 j x hx
    exact ⟨g, off, h1, q0, q1, q2⟩
set_option maxRecDepth 100000 in
set_option maxHeartbeats 4000000 in
theorem Dr.crash_any {W : World} {r : Nat} {m : Dk.M} {F : Nat → Prop} (h : Dr.At W r m F) (hG : Dk.Good m) {cv : Value} {cs : List Dk.Cut} (hc : Dk.Cts W cv cs) (hcl : cs.length ≤ 140737488355328) :
    Calls Try.prog 64 #[.pointer (some ⟨r, 0, none⟩), cv] W fun e W' => e = .returned (.tuple #[]) ∧ Dr.Moved W W' r F (Dr.crash m cs) := by
  obtain ⟨v, hS, rfl⟩ := h
  obtain ⟨a, c, rfl⟩ := hS.row.form
  obtain ⟨ca, cc, rfl⟩ := hc.form
  obtain ⟨i0, hi, hz0, hz1, hz2⟩ := info_parts Dr.info
  have hmany := hG.many
  go_enter Try.func64, Try.ntmps64
  go_wp2_with fail
  go_loopw [4, 5] (fun o i wr => ∃ k : Nat, k ≤ m.files.length ∧ i = .int .i64 k ∧ Dr.Own wr W.heap.size o ((m.files.take k).map (Dk.left cs)) ∧ Below W.heap.size W wr) (fun _ i _ => m.files.length - (intOf i).toNat)
  case atStart => exact ⟨0, Nat.zero_le _, rfl, Dr.Own.nil _ _, Below.refl _ _⟩
  case round =>
    obtain ⟨k, hk, rfl, HO, hB⟩ := hrel
    have hSr := hS.later hB (Nat.le_refl _)
    have hcr := hc.keep hB.size fun g hg => hB.block g hg
    obtain ⟨d0, d1, d2, d3, d4, d5, d6⟩ := hSr.seven
    by_cases hlt : k < m.files.length
    · obtain ⟨f, hf⟩ : ∃ f, m.files[k]? = some f := ⟨_, List.getElem?_eq_getElem hlt⟩
      obtain ⟨g, c', nb, db, hv2, _, hnb, hdb, hds, c0, c1, c2⟩ := hSr.file hf
      injection hv2 with hv2 _ hcc
      subst hv2 hcc
      obtain ⟨_, hfl, hfs⟩ := hG.file f (List.mem_of_getElem? hf)
      have w0 : IntKind.i64.wrap ((cs.length : Int) - 1) = (cs.length : Int) - 1 := IntWalk.i64_in _ (by omega)
      have HNB := Lib.hid hnb
      have HDB := Lib.hid hdb
      have hmore := Lib.hid (show (m.files.take (k + 1)).map (Dk.left cs) = (m.files.take k).map (Dk.left cs) ++ [Dk.left cs f] by rw [Dk.take_more hf, List.map_append]; rfl)
      clear hnb hdb hds hf d0 d2 d3 d4 d5 d6
      obtain ⟨l0, hl0⟩ : ∃ l0, (m.files.take k).map (Dk.left cs) = l0 := ⟨_, rfl⟩
      have hll : l0.length ≤ 4096 := by rw [← hl0, List.length_map, List.length_take]; omega
      rw [hl0] at HO hmore
      clear hl0
      obtain ⟨oa, oc, rfl⟩ := HO.form
      go_wp2_with fail
      go_loopw [6, 7, 8] (fun kp sp q wi => ∃ (j n : Nat) (x : Dk.Cut) (z : Int), j ≤ cs.length ∧ q = .int .i64 z ∧ z = (j : Int) - 1 ∧ Hid (Dk.cutOf (cs.drop j) f.name = x) ∧ kp = .int .i64 x.keep ∧ sp = .int .u8 x.spoil.toNat ∧ wi = wr.drewN n) (fun _ _ q _ => (intOf q + 1).toNat)
      case atStart => exact ⟨cs.length, 0, Dk.cutZ, _, Nat.le_refl _, rfl, rfl, Lib.hid (by rw [List.drop_length]; rfl), rfl, rfl, rfl⟩
      case round =>
        obtain ⟨j, n, x, z, hj, rfl, hz, HX, rfl, rfl, rfl⟩ := hrel
        cases j with
        | succ j =>
          obtain rfl : z = (j : Int) := by omega
          clear hz
          obtain ⟨y, hy⟩ : ∃ y, cs[j]? = some y := ⟨_, List.getElem?_eq_getElem (by omega)⟩
          obtain ⟨g2, off, rfl, y0, y1, y2⟩ := Dr.cut_at hcr hy
          obtain ⟨yb, hyb, _⟩ := Tx.of y.name
          rw [Tx.v_eq hyb] at y0
          have hdr : cs.drop j = y :: cs.drop (j + 1) := by
            rw [List.drop_eq_getElem_cons (show j < cs.length by omega)]
            rw [List.getElem?_eq_getElem (show j < cs.length by omega)] at hy
            rw [Option.some.inj hy]
          have hlt2 : j < cs.length := by omega
          have w8 : IntKind.i64.wrap ((j : Int) - 1) = (j : Int) - 1 := IntWalk.i64_in _ (by omega)
          by_cases he : y.name = f.name
          · have t1 : (yb.toList == nb.toList) = true := by rw [Tx.beq, hyb, HNB.out]; exact decide_eq_true he
            have HX2 : Hid (Dk.cutOf (cs.drop j) f.name = y) := Lib.hid (by rw [hdr, Dr.cutOf_cons, if_pos he])
            clear hy hyb hdr he HX
            go_wp2_with fail
            go_quiet (fail)
            go_wp2_with fail
            go_roundw
            case rel => exact ⟨j, _, y, _, by omega, rfl, rfl, HX2, rfl, rfl, by first | rfl | rw [World.drewN_drewN]⟩
            case measure => first | (simp [intOf]; done) | (simp [intOf]; omega)
          · have t1 : (yb.toList == nb.toList) = false := by rw [Tx.beq, hyb, HNB.out]; exact decide_eq_false he
            have HX2 : Hid (Dk.cutOf (cs.drop j) f.name = x) := Lib.hid (by rw [hdr, Dr.cutOf_cons, if_neg he]; exact HX.out)
            clear hy hyb hdr he HX
            go_wp2_with fail
            go_quiet (fail)
            go_wp2_with fail
            go_roundw
            case rel => exact ⟨j, _, x, _, by omega, rfl, rfl, HX2, rfl, rfl, by first | rfl | rw [World.drewN_drewN]⟩
            case measure => first | (simp [intOf]; done) | (simp [intOf]; omega)
        | zero =>
          obtain rfl : z = -1 := by omega
          clear hz
          have hleft := Dr.left_any (wr.drewN n) f x (nb := nb) HDB.out hfs hfl
          have hone : ∀ (w : World) (xb : ByteArray), ∀ j u, (Dr.cellsOf [⟨f.name, xb.data.toList, xb.size⟩])[j]? = some u → ((w.alloc (.cells #[.string nb, .string xb, .int .i64 xb.size] 38)).alloc (.cells #[.string nb, .string xb, .int .i64 xb.size] 38)).cell? ((⟨w.heap.size + 1, 0, none⟩ : Addr).add j) = some u := fun w xb => by
            have h := Dr.one_cells (w.alloc (.cells #[.string nb, .string xb, .int .i64 xb.size] 38)) (nb := nb) (db := xb) (f := ⟨f.name, xb.data.toList, xb.size⟩) HNB.out rfl
            rw [show (w.alloc (.cells #[.string nb, .string xb, .int .i64 xb.size] 38)).heap.size = w.heap.size + 1 from by simp] at h
            exact h
          have HO1 : ∀ w2, Below (wr.drewN n).heap.size (wr.drewN n) w2 → Dr.Own w2 W.heap.size (.slice oa l0.length oc) l0 := fun w2 h2 => (HO.keep (W' := wr.drewN n) fun _ _ => rfl).below h2
          have hB1 : ∀ w2, Below (wr.drewN n).heap.size (wr.drewN n) w2 → Below W.heap.size W w2 := fun w2 h2 => (below_dn hB n).trans (h2.mono hB.size)
          have heq := fun {xb : ByteArray} => Dr.left_eq (xb := xb) (show Dk.cutOf cs f.name = x from HX.out) hfs
          go_wp2_with (first
            | (go_at_call 77; refine hleft.mono ?_; clear hleft; rintro e w2 ⟨xb, rfl, hxd, b2⟩; have HE := Lib.hid (heq hxd); have HO2 := HO1 w2 b2; have hB2 := hB1 w2 b2; have hs2 := hB2.size; clear hxd heq)
            | (at_builtin; refine wpList_append_own _ rfl (.tmp 60) (.tmp 62) 32 rfl W.heap.size 38 i0 (.agg #[.string ⟨#[]⟩, .string ⟨#[]⟩, .int .i64 0]) 3 40 Try.underlying32 hi hz0 hz1 hz2 rfl (by decide) _ _ _ rfl (World.ownsRow.alloc (World.ownsRow.alloc HO2 _) _) ⟨_, 0, none⟩ 1 1 (Dr.cellsOf [⟨f.name, xb.data.toList, xb.size⟩]) rfl rfl (hone _ xb) (Dr.cellsOf_one _) (by unfold maxLen; omega) (by omega) (by (try simp); omega) ?_; intro v3 w3 hown3 hgrow3 _))
          go_roundw
          case rel =>
            refine ⟨k + 1, hlt, by go_num, ?_, ((hB2.alloc hs2 _).alloc (by simp; omega) _).grown hgrow3 (by simp; omega) (fun q hq => (HO2.lt hq).1)⟩
            rw [hmore.out, ← HE.out]
            unfold Dr.Own
            rw [List.length_append, Dr.cellsOf_append]
            exact hown3
          case measure => simp [intOf]; omega
    · obtain rfl : k = m.files.length := by omega
      rw [List.take_length] at HO
      have f1 := hSr.blk.frozen 1
      have f2 := hSr.blk.frozen 2
      have f3 := hSr.blk.frozen 3
      have f5 := hSr.blk.frozen 5
      obtain ⟨ag, hag⟩ : ∃ ag, IntKind.i64.wrap (m.age + 1) = ag := ⟨_, rfl⟩
      obtain ⟨fs, hfs⟩ : ∃ fs, m.files.map (Dk.left cs) = fs := ⟨_, rfl⟩
      rw [hfs] at HO
      have s1 := hSr.files (HO.base fun _ _ => Nat.zero_le _)
      have s2 := s1.set 2 (.bool false) { m with files := fs, off := false } rfl rfl
      have s3 := s2.set 3 (.int .i64 0) { m with files := fs, off := false, left := 0 } rfl rfl
      have s5 := s3.set 5 (.int .i64 ag) { m with files := fs, off := false, left := 0, age := ag } rfl rfl
      have hfin : Dr.crash m cs = { m with files := fs, off := false, left := 0, age := ag } := by
        unfold Dr.crash Dk.crash
        rw [hfs, hag]
      have hmv : Dr.Moved W _ r _ _ := Dr.Moved.step (v := .slice a m.files.length c) hB HO s5 (((Dk.Only.setCell (F := fun k => k = r) (Dk.Only.setCell (F := fun k => k = r) (Dk.Only.setCell (F := fun k => k = r) (Dk.Only.setCell (F := fun k => k = r) (Dk.Only.refl _ _) (.inl rfl) _) (.inl rfl) _) (.inl rfl) _) (.inl rfl) _))) (.inl rfl)
      rw [← hfin] at hmv
      obtain ⟨oa, oc, rfl⟩ := HO.form
      clear s1 s2 s3 s5 hfin hcr hc hfs
      go_wp2_with fail
      go_end0
      exact ⟨rfl, hmv⟩
#print axioms Dr.crash_any
end Go.Proofs.Ytgbeeghdoilmkaa
