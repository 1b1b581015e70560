/- Disks in memory (the document's): find, look, Size, Read, Arm, accepted, step. Conditions: each theorem's own hypotheses. -/
import Derived.Test.YtgbeeghdoilmkaaDwB
import Derived.Test.YtgbeeghdoilmkaaDkAA
namespace Go.Proofs.Ytgbeeghdoilmkaa
open Go.RowKit Go.Maps Go.Sort
set_option linter.unusedVariables false

/-- None of the first k has this name. -/
def Dr.No (L : List Dk.F) (k : Nat) (nm : List UInt8) : Prop := ∀ j, j < k → ∀ f, L[j]? = some f → f.name ≠ nm
theorem Dr.No.succ {L : List Dk.F} {k : Nat} {nm : List UInt8} (h : Dr.No L k nm) {f : Dk.F} (hf : L[k]? = some f) (hn : f.name ≠ nm) : Dr.No L (k + 1) nm := fun j hj g hg => by
  by_cases e : j = k
  · subst e
    rw [hf] at hg
    obtain rfl := Option.some.inj hg
    exact hn
  · exact h j (by omega) g hg
/-- Where a name's file stands. -/
theorem Dr.place : ∀ (L : List Dk.F) (nm : List UInt8) (f : Dk.F), Dk.get Dk.F.name nm L = some f → ∃ k, L[k]? = some f ∧ Dr.No L k nm
  | [], nm, f, h => by cases h
  | g :: L, nm, f, h => by
    unfold Dk.get at h
    rw [List.find?_cons] at h
    cases hb : (g.name == nm) with
    | true =>
      rw [hb] at h
      exact ⟨0, h, fun j hj => absurd hj (Nat.not_lt_zero _)⟩
    | false =>
      rw [hb] at h
      obtain ⟨k, h1, h2⟩ := Dr.place L nm f h
      refine ⟨k + 1, h1, fun j hj x hx => ?_⟩
      cases j with
      | zero =>
        obtain rfl := Option.some.inj hx
        exact fun e => by rw [e, beq_self_eq_true] at hb; cases hb
      | succ j => exact h2 j (by omega) x hx
theorem Dr.No.only {L : List Dk.F} {k j : Nat} {nm : List UInt8} {f g : Dk.F} (h : Dr.No L k nm) (hf : L[k]? = some f) (hn : f.name = nm) (h2 : Dr.No L j nm) (hg : L[j]? = some g) (hm : g.name = nm) : j = k := by
  by_cases e1 : j < k
  · exact absurd hm (h j e1 g hg)
  by_cases e2 : k < j
  · exact absurd hn (h2 k e2 f hf)
  omega
set_option maxRecDepth 100000 in
theorem Dr.find_any {W : World} {r : Nat} {v : Value} {m : Dk.M} (h : Dr.Stand W r v m) (hl : m.files.length ≤ 4096) (nb : ByteArray) (R : Int)
    (hR : ∀ k, Dr.No m.files k nb.data.toList → (k = m.files.length → R = -1) ∧ (∀ f, m.files[k]? = some f → f.name = nb.data.toList → R = k)) :
    Calls Try.prog 82 #[.pointer (some ⟨r, 0, none⟩), .string nb] W fun e W' => e = .returned (.int .i64 R) ∧ W = W' := by
  obtain ⟨c0, c1, c2, c3, c4, c5, c6⟩ := h.seven
  obtain ⟨a, c, hv⟩ := h.row.form
  rw [hv] at c1
  have HR : Hid _ := Lib.hid hR
  clear hR c0 c2 c3 c4 c5 c6
  go_enter Try.func82, Try.ntmps82
  go_wp2_with fail
  go_loop [5] (fun i => ∃ k : Nat, k ≤ m.files.length ∧ i = .int .i64 k ∧ Dr.No m.files k nb.data.toList) (fun i => m.files.length - (intOf i).toNat)
  case atStart => exact ⟨0, Nat.zero_le _, rfl, fun j hj => by omega⟩
  case round =>
    obtain ⟨k, hk, rfl, HN⟩ := hrel
    by_cases hlt : k < m.files.length
    · obtain ⟨f, hf⟩ : ∃ f, m.files[k]? = some f := ⟨_, List.getElem?_eq_getElem hlt⟩
      obtain ⟨g, c', hv2, q0, q1, q2⟩ := h.row.at_ hf
      rw [hv] at hv2
      injection hv2 with hv2 _ hc
      subst hv2 hc
      obtain ⟨xb, hxb, _⟩ := Tx.of f.name
      rw [Tx.v_eq hxb] at q0
      by_cases he : f.name = nb.data.toList
      · have hb : (xb.toList == nb.toList) = true := by rw [Tx.beq, hxb]; exact decide_eq_true he
        have hr : R = k := (HR.out k HN).2 f hf he
        subst hr
        clear hf hxb he q1 q2 HN HR hv
        go_wp2_with fail
        go_ret
        exact ⟨rfl, rfl⟩
      · have hb : (xb.toList == nb.toList) = false := by rw [Tx.beq, hxb]; exact decide_eq_false he
        have HN2 := HN.succ hf he
        clear hf hxb he q1 q2 HN hv
        go_wp2_with fail
        go_round
        case rel => exact ⟨k + 1, hlt, by go_num, HN2⟩
        case measure => simp [intOf]; omega
    · have hr : R = -1 := (HR.out k HN).1 (by omega)
      obtain rfl : k = m.files.length := by omega
      subst hr
      clear HN HR hv
      go_wp2_with fail
      go_ret
      exact ⟨rfl, rfl⟩
set_option maxRecDepth 100000 in
theorem Dr.look_any {W : World} {r : Nat} {v : Value} {m : Dk.M} (h : Dr.Stand W r v m) (hl : m.files.length ≤ 4096) (nb : ByteArray) (hs : nb.size ≤ 9223372036854775807) :
    ∃ k : Nat, (Dk.code m nb.data.toList = 0 → m.files[k]? = some (Dk.file m nb.data.toList)) ∧
      Calls Try.prog 66 #[.pointer (some ⟨r, 0, none⟩), .string nb] W fun e W' => e = .returned (.tuple #[.int .i64 k, .int .i64 (Dk.code m nb.data.toList)]) ∧ W = W' := by
  obtain ⟨c0, c1, c2, c3, c4, c5, c6⟩ := h.seven
  have hname : ∀ w : World, Calls Try.prog 71 #[.string nb] w fun e w' => e = .returned (.bool (Dk.named nb.data.toList)) ∧ w = w' := fun w => Dk.refNamed_any nb hs _ rfl w
  unfold Dk.code
  cases ho : m.off with
  | true =>
    rw [ho] at c2
    rw [if_pos rfl]
    refine ⟨0, (fun h => by cases h), ?_⟩
    go_enter Try.func66, Try.ntmps66
    go_wp2_with fail
    go_ret2
    exact ⟨rfl, rfl⟩
  | false =>
    rw [ho] at c2
    rw [if_neg (by decide)]
    cases hn : Dk.named nb.data.toList with
    | false =>
      rw [hn] at hname
      rw [if_neg (by decide)]
      refine ⟨0, (fun h => by cases h), ?_⟩
      clear hn
      go_enter Try.func66, Try.ntmps66
      go_wp2_with (go_at_call 71; refine (hname _).mono ?_; rintro e w' ⟨rfl, rfl⟩)
      go_ret2
      exact ⟨rfl, rfl⟩
    | true =>
      rw [hn] at hname
      rw [if_pos rfl]
      cases hg : Dk.get Dk.F.name nb.data.toList m.files with
      | none =>
        have hall := Dk.get_none hg
        have hf := Dr.find_any h hl nb (-1) fun k _ => ⟨fun _ => rfl, fun f hf e => absurd e (hall f (List.mem_of_getElem? hf))⟩
        refine ⟨0, (fun h => by cases h), ?_⟩
        rw [show (none : Option Dk.F).isSome = false from rfl, if_neg (by decide)]
        clear hn hg hall
        go_enter Try.func66, Try.ntmps66
        go_wp2_with (first
          | (go_at_call 71; refine (hname _).mono ?_; rintro e w' ⟨rfl, rfl⟩)
          | (go_at_call 82; refine hf.mono ?_; rintro e w' ⟨rfl, rfl⟩))
        go_ret2
        exact ⟨rfl, rfl⟩
      | some f =>
        obtain ⟨k, hk1, hk2⟩ := Dr.place _ _ _ hg
        have hfn := (Dk.get_mem hg).2
        have hlt := (List.getElem?_eq_some_iff.1 hk1).1
        have hf := Dr.find_any h hl nb k fun j hj => ⟨fun e => absurd hfn (hj k (by omega) f hk1), fun x hx e => by rw [hk2.only hk1 hfn hj hx e]⟩
        refine ⟨k, fun _ => ?_, ?_⟩
        · rw [hk1]; unfold Dk.file; rw [hg]; rfl
        rw [show (some f).isSome = true from rfl, if_pos rfl]
        clear hn hg hk1 hk2 hfn
        go_enter Try.func66, Try.ntmps66
        go_wp2_with (first
          | (go_at_call 71; refine (hname _).mono ?_; rintro e w' ⟨rfl, rfl⟩)
          | (go_at_call 82; refine hf.mono ?_; rintro e w' ⟨rfl, rfl⟩))
        go_ret2
        exact ⟨rfl, rfl⟩
theorem Dk.data_file {m : Dk.M} {nm : List UInt8} (h : Dk.code m nm = 0) : Dk.data m nm = (Dk.file m nm).data := by
  obtain ⟨_, _, h3, _⟩ := Dk.code_zero h
  unfold Dk.data
  rw [h3]; rfl
/-- A file's cells, by its place. -/
theorem Dr.Stand.file {W : World} {r : Nat} {v : Value} {m : Dk.M} (h : Dr.Stand W r v m) {k : Nat} {f : Dk.F} (hk : m.files[k]? = some f) : ∃ g c nb db, v = .slice (some ⟨g, 0, none⟩) m.files.length c ∧ k < m.files.length ∧ nb.data.toList = f.name ∧ db.data.toList = f.data ∧ db.size = f.data.length ∧
    W.cell? ⟨g, k * 3, none⟩ = some (.string nb) ∧ W.cell? ⟨g, k * 3 + 1, none⟩ = some (.string db) ∧ W.cell? ⟨g, k * 3 + 2, none⟩ = some (.int .i64 f.sure) := by
  obtain ⟨g, c, hv, q0, q1, q2⟩ := h.row.at_ hk
  obtain ⟨nb, hnb, _⟩ := Tx.of f.name
  obtain ⟨db, hdb, hds⟩ := Tx.of f.data
  rw [Tx.v_eq hnb] at q0
  rw [Tx.v_eq hdb] at q1
  exact ⟨g, c, nb, db, hv, (List.getElem?_eq_some_iff.1 hk).1, hnb, hdb, hds, q0, q1, q2⟩
section
variable {W : World} {r : Nat} {m : Dk.M} {F : Nat → Prop}
set_option maxRecDepth 100000 in
theorem Dr.size_any (h : Dr.At W r m F) (hl : m.files.length ≤ 4096) (s : ByteArray) (hs : s.size ≤ 9223372036854775807) :
    Calls Try.prog 61 #[.pointer (some ⟨r, 0, none⟩), .string s] W fun e W' => e = .returned (Dk.sizeV m s.data.toList) ∧ W = W' := by
  obtain ⟨v, hS, rfl⟩ := h
  obtain ⟨c0, c1, c2, c3, c4, c5, c6⟩ := hS.seven
  obtain ⟨k, hk, hcall⟩ := Dr.look_any hS hl s hs
  unfold Dk.sizeV
  by_cases h1 : Dk.code m s.data.toList = 0
  · obtain ⟨g, c, nb, db, rfl, hlt, _, _, hds, q0, q1, q2⟩ := hS.file (hk h1)
    rw [if_pos h1, Dk.data_file h1, ← hds]
    rw [h1] at hcall
    clear hk h1 hds q0 q2 c0 c2 c3 c4 c5 c6
    go_enter Try.func61, Try.ntmps61
    go_wp2_with (go_at_call 66; refine hcall.mono ?_; rintro e w' ⟨rfl, rfl⟩)
    go_ret2
    exact ⟨rfl, rfl⟩
  · rw [if_neg h1]
    obtain ⟨c, hc⟩ : ∃ c, Dk.code m s.data.toList = c := ⟨_, rfl⟩
    rw [hc] at hcall h1 ⊢
    have u1 : (c != 0) = true := by rw [bne_iff_ne]; exact h1
    clear hc hk
    go_enter Try.func61, Try.ntmps61
    go_wp2_with (go_at_call 66; refine hcall.mono ?_; rintro e w' ⟨rfl, rfl⟩)
    go_ret2
    exact ⟨rfl, rfl⟩
set_option maxRecDepth 100000 in
set_option maxHeartbeats 1000000 in
theorem Dr.read_any (h : Dr.At W r m F) (hG : Dk.Good m) (s : ByteArray) (hs : s.size ≤ 9223372036854775807) (i n : Int) (hi : -9223372036854775808 ≤ i ∧ i < 9223372036854775808) (hn : -9223372036854775808 ≤ n ∧ n < 9223372036854775808) :
    Calls Try.prog 60 #[.pointer (some ⟨r, 0, none⟩), .string s, .int .i64 i, .int .i64 n] W fun e W' => e = .returned (Dk.readV m s.data.toList i n) ∧ W = W' := by
  obtain ⟨v, hS, rfl⟩ := h
  obtain ⟨c0, c1, c2, c3, c4, c5, c6⟩ := hS.seven
  obtain ⟨k, hk, hcall⟩ := Dr.look_any hS hG.many s hs
  unfold Dk.readV
  by_cases h1 : Dk.code m s.data.toList = 0
  · obtain ⟨g, c, nb, db, rfl, hlt, _, hdb, hds, q0, q1, q2⟩ := hS.file (hk h1)
    obtain ⟨_, hx2, _⟩ := hG.file _ (List.mem_of_getElem? (hk h1))
    rw [if_pos h1, Dk.data_file h1, ← hds]
    rw [h1] at hcall
    rw [← hds] at hx2
    obtain ⟨l, hl⟩ : ∃ l, (Dk.file m s.data.toList).data = l := ⟨_, rfl⟩
    rw [hl] at hdb ⊢
    clear hk h1 hds q0 q2 c0 c2 c3 c4 c5 c6 hl
    have HDB := Lib.hid hdb
    clear hdb
    by_cases g1 : i < 0
    · rw [if_pos (.inl g1)]
      have u1 : decide (i < 0) = true := decide_eq_true g1
      go_enter Try.func60, Try.ntmps60
      go_wp2_with (go_at_call 66; refine hcall.mono ?_; rintro e w' ⟨rfl, rfl⟩)
      go_ret2
      exact ⟨rfl, rfl⟩
    have u1 : decide (i < 0) = false := decide_eq_false g1
    by_cases g2 : n < 0
    · rw [if_pos (.inr (.inl g2))]
      have u2 : decide (n < 0) = true := decide_eq_true g2
      go_enter Try.func60, Try.ntmps60
      go_wp2_with (go_at_call 66; refine hcall.mono ?_; rintro e w' ⟨rfl, rfl⟩)
      go_ret2
      exact ⟨rfl, rfl⟩
    have u2 : decide (n < 0) = false := decide_eq_false g2
    obtain ⟨i, rfl⟩ := Int.eq_ofNat_of_zero_le (Int.not_lt.1 g1)
    obtain ⟨n, rfl⟩ := Int.eq_ofNat_of_zero_le (Int.not_lt.1 g2)
    by_cases g3 : db.size < i
    · rw [if_pos (by omega)]
      have u3 : decide (db.size < i) = true := decide_eq_true g3
      go_enter Try.func60, Try.ntmps60
      go_wp2_with (go_at_call 66; refine hcall.mono ?_; rintro e w' ⟨rfl, rfl⟩)
      go_ret2
      exact ⟨rfl, rfl⟩
    have u3 : decide (db.size < i) = false := decide_eq_false g3
    obtain ⟨z, hz⟩ : ∃ z, z = db.size - i := ⟨_, rfl⟩
    have w1 : IntKind.i64.wrap ((db.size : Int) - (i : Int)) = (z : Int) := (IntWalk.i64_in _ (by omega)).trans (by omega)
    by_cases g4 : z < n
    · rw [if_pos (by omega)]
      have u4 : decide (z < n) = true := decide_eq_true g4
      clear hz
      go_enter Try.func60, Try.ntmps60
      go_wp2_with (go_at_call 66; refine hcall.mono ?_; rintro e w' ⟨rfl, rfl⟩)
      go_ret2
      exact ⟨rfl, rfl⟩
    have u4 : decide (z < n) = false := decide_eq_false g4
    rw [if_neg (by omega)]
    obtain ⟨j, hj⟩ : ∃ j, j = i + n := ⟨_, rfl⟩
    have w2 : IntKind.i64.wrap ((i : Int) + (n : Int)) = (j : Int) := (IntWalk.i64_in _ (by omega)).trans (by omega)
    have s1 : (i : Int) ≤ (j : Int) := by omega
    have s2 : (j : Int) ≤ (db.size : Int) := by omega
    rw [Int.toNat_natCast, Int.toNat_natCast]
    have hx : Tx.v ((l.drop i).take n) = .string (db.extract i j) := Tx.v_eq (by rw [Tx.extract, HDB.out, hj, Nat.add_sub_cancel_left])
    rw [hx]
    clear hj hz hx g3 g4
    go_enter Try.func60, Try.ntmps60
    go_wp2_with (go_at_call 66; refine hcall.mono ?_; rintro e w' ⟨rfl, rfl⟩)
    go_ret2
    exact ⟨rfl, rfl⟩
  · rw [if_neg h1]
    obtain ⟨c, hc⟩ : ∃ c, Dk.code m s.data.toList = c := ⟨_, rfl⟩
    rw [hc] at hcall h1 ⊢
    have u1 : (c != 0) = true := by rw [bne_iff_ne]; exact h1
    clear hc hk
    go_enter Try.func60, Try.ntmps60
    go_wp2_with (go_at_call 66; refine hcall.mono ?_; rintro e w' ⟨rfl, rfl⟩)
    go_ret2
    exact ⟨rfl, rfl⟩
end
/-- A cell of the disk's own block is written. -/
theorem Dr.Stand.set {W : World} {r : Nat} {v : Value} {m : Dk.M} (h : Dr.Stand W r v m) (i : Nat) (u : Value) (m' : Dk.M) (hc : (Dr.cells v m).setIfInBounds i u = Dr.cells v m') (hm : m'.files = m.files) : Dr.Stand (W.setCell ⟨r, i, none⟩ u) r v m' := by
  refine ⟨hc ▸ h.blk.set_ i u, ?_⟩
  rw [hm]
  exact h.row.keep fun k hk => Below.heap_setCell W ⟨r, i, none⟩ u k (h.lone k hk)
/-- Another list of files. -/
theorem Dr.Stand.files {W : World} {r : Nat} {v v' : Value} {m : Dk.M} {fs : List Dk.F} (h : Dr.Stand W r v m) (ho : Dr.Own W 0 v' fs) : Dr.Stand (W.setCell ⟨r, 1, none⟩ v') r v' { m with files := fs } := by
  have hl : ∀ k, v'.ownBlock = some k → k ≠ r := by
    rintro k hk rfl
    obtain ⟨cur, hg⟩ := ho.type hk
    have hb := h.blk
    unfold Blk at hb
    rw [hb] at hg
    injection hg with hg
    injection hg with _ hg _
    cases hg
  exact ⟨h.blk.set_ 1 v', ho.keep fun k hk => Below.heap_setCell W ⟨r, 1, none⟩ v' k (hl k hk)⟩
section
variable {W : World} {r : Nat} {m : Dk.M} {F : Nat → Prop}
set_option maxRecDepth 100000 in
set_option maxHeartbeats 1000000 in
theorem Dr.arm_any (h : Dr.At W r m F) (n : Int) (hn : -9223372036854775808 ≤ n ∧ n < 9223372036854775808) (done : Bool) :
    Calls Try.prog 62 #[.pointer (some ⟨r, 0, none⟩), .int .i64 n, .bool done] W fun e W' => e = .returned (.tuple #[]) ∧ Dr.At W' r (Dk.arm m n done) F ∧ Dk.Only F W W' := by
  obtain ⟨v, hS, rfl⟩ := h
  obtain ⟨c0, c1, c2, c3, c4, c5, c6⟩ := hS.seven
  unfold Dk.arm
  cases ho : m.off with
  | true =>
    rw [ho] at c2
    rw [if_pos rfl]
    go_enter Try.func62, Try.ntmps62
    go_wp2_with fail
    refine bodyPost_ret (results_none rfl _ _ _) rfl ?_
    exact ⟨rfl, ⟨v, hS, rfl⟩, Dk.Only.refl _ _⟩
  | false =>
    rw [ho] at c2
    rw [if_neg (by decide)]
    have f3 := hS.blk.frozen 3
    have f4 := hS.blk.frozen 4
    by_cases hp : 0 < n
    · obtain ⟨q, rfl⟩ := Int.eq_ofNat_of_zero_le (show 0 ≤ n by omega)
      rw [Int.toNat_natCast]
      have u1 : decide (0 < q) = true := decide_eq_true (by omega)
      clear hp c0 c1 c5 c6
      go_enter Try.func62, Try.ntmps62
      go_wp2_with fail
      go_end0
      refine ⟨rfl, ⟨v, ?_, rfl⟩, (((Dk.Only.refl _ _).setCell (.inl (.inl rfl)) _).setCell (.inl (.inl rfl)) _).setCell (.inl (.inl rfl)) _⟩
      have h0 := hS.set 3 (.int .i64 0) { m with left := 0 } rfl rfl
      have h1 := h0.set 3 (.int .i64 q) { m with left := q } rfl rfl
      have h2 := h1.set 4 (.bool done) { m with left := q, done := done } rfl rfl
      rw [ho] at h2
      exact h2
    · have hz : n.toNat = 0 := by omega
      rw [hz]
      have u1 : decide (0 < n) = false := decide_eq_false hp
      clear hp c0 c1 c5 c6 hz
      go_enter Try.func62, Try.ntmps62
      go_wp2_with fail
      go_end0
      refine ⟨rfl, ⟨v, ?_, rfl⟩, ((Dk.Only.refl _ _).setCell (.inl (.inl rfl)) _).setCell (.inl (.inl rfl)) _⟩
      have h0 := hS.set 3 (.int .i64 0) { m with left := 0 } rfl rfl
      have h2 := h0.set 4 (.bool done) { m with left := 0, done := done } rfl rfl
      rw [ho] at h2
      exact h2
end
#print axioms Dr.read_any
#print axioms Dr.arm_any
end Go.Proofs.Ytgbeeghdoilmkaa
