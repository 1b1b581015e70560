/- Disks in memory (the document's): find, look, Size, Read, Arm, accepted, step. Conditions: each theorem's own hypotheses. -/
import Derived.Test.YtdhnkcfmjibibaaGreatDoorZDwB
import Derived.Test.YtdhnkcfmjibibaaGreatDoorZDkAA
import Derived.Deep.RegionHeld3
import Derived.Deep.DeepCutAuto
import Derived.Deep.RegionHeldLaw
import Derived.Deep.QuietTactic
namespace Go.Proofs.YtdhnkcfmjibibaaGreatDoor
open Go.RowKit Go.Maps Go.Sort
set_option linter.unusedVariables false

/-- None of the first k has this name. -/
def Dr.No (L : List Dk.F) (k : Nat) (nm : List UInt8) : Prop := ∀ j, j < k → ∀ f, L[j]? = some f → f.name ≠ nm
theorem Dr.No.succ {L : List Dk.F} {k : Nat} {nm : List UInt8} (h : Dr.No L k nm) {f : Dk.F} (hf : L[k]? = some f) (hn : f.name ≠ nm) : Dr.No L (k + 1) nm := fun j hj g hg => by
  by_cases e : j = k
  · subst e
    rw [hf] at hg
    obtain rfl := Option.some.inj hg
    exact hn
  · exact h j (by omega) g hg
/-- Where a name's file stands. -/
theorem Dr.place : ∀ (L : List Dk.F) (nm : List UInt8) (f : Dk.F), Dk.get Dk.F.name nm L = some f → ∃ k, L[k]? = some f ∧ Dr.No L k nm
  | [], nm, f, h => by cases h
  | g :: L, nm, f, h => by
    unfold Dk.get at h
    rw [List.find?_cons] at h
    cases hb : (g.name == nm) with
    | true =>
      rw [hb] at h
      exact ⟨0, h, fun j hj => absurd hj (Nat.not_lt_zero _)⟩
    | false =>
      rw [hb] at h
      obtain ⟨k, h1, h2⟩ := Dr.place L nm f h
      refine ⟨k + 1, h1, fun j hj x hx => ?_⟩
      cases j with
      | zero =>
        obtain rfl := Option.some.inj hx
        exact fun e => by rw [e, beq_self_eq_true] at hb; cases hb
      | succ j => exact h2 j (by omega) x hx
theorem Dr.No.only {L : List Dk.F} {k j : Nat} {nm : List UInt8} {f g : Dk.F} (h : Dr.No L k nm) (hf : L[k]? = some f) (hn : f.name = nm) (h2 : Dr.No L j nm) (hg : L[j]? = some g) (hm : g.name = nm) : j = k := by
  by_cases e1 : j < k
  · exact absurd hm (h j e1 g hg)
  by_cases e2 : k < j
  · exact absurd hn (h2 k e2 f hf)
  omega
set_option maxRecDepth 100000 in
theorem Dr.find_any {W : World} {r : Nat} {v : Value} {m : Dk.M} (h : Dr.Stand W r v m) (hl : m.files.length ≤ 4096) (nb : ByteArray) (R : Int)
    (hR : ∀ k, Dr.No m.files k nb.data.toList → (k = m.files.length → R = -1) ∧ (∀ f, m.files[k]? = some f → f.name = nb.data.toList → R = k)) :
    Calls Tryz.prog 95 #[.pointer (some ⟨r, 0, none⟩), .string nb] W fun e W' => e = .returned (.int .i64 R) ∧ W = W' := by
  obtain ⟨c0, c1, c2, c3, c4, c5, c6⟩ := h.seven
  obtain ⟨a, c, hv⟩ := h.row.form
  rw [hv] at c1
  have HR : Hid _ := Lib.hid hR
  clear hR c0 c2 c3 c4 c5 c6
  go_enter Tryz.func95, Tryz.ntmps95
  go_wp2_with fail
  go_loop [5] (fun i => ∃ k : Nat, k ≤ m.files.length ∧ i = .int .i64 k ∧ Dr.No m.files k nb.data.toList) (fun i => m.files.length - (intOf i).toNat)
  case atStart => exact ⟨0, Nat.zero_le _, rfl, fun j hj => by omega⟩
  case round =>
    obtain ⟨k, hk, rfl, HN⟩ := hrel
    by_cases hlt : k < m.files.length
    · obtain ⟨f, hf⟩ : ∃ f, m.files[k]? = some f := ⟨_, List.getElem?_eq_getElem hlt⟩
      obtain ⟨g, c', hv2, q0, q1, q2⟩ := h.row.at_ hf
      rw [hv] at hv2
      injection hv2 with hv2 _ hc
      subst hv2 hc
      obtain ⟨xb, hxb, _⟩ := Tx.of f.name
      rw [Tx.v_eq hxb] at q0
      by_cases he : f.name = nb.data.toList
      · have hb : (xb.toList == nb.toList) = true := by rw [Tx.beq, hxb]; exact decide_eq_true he
        have hr : R = k := (HR.out k HN).2 f hf he
        subst hr
        clear hf hxb he q1 q2 HN HR hv
        go_wp2_with fail
        go_ret
        exact ⟨rfl, rfl⟩
      · have hb : (xb.toList == nb.toList) = false := by rw [Tx.beq, hxb]; exact decide_eq_false he
        have HN2 := HN.succ hf he
        clear hf hxb he q1 q2 HN hv
        go_wp2_with fail
        go_round
        case rel => exact ⟨k + 1, hlt, by go_num, HN2⟩
        case measure => simp [intOf]; omega
    · have hr : R = -1 := (HR.out k HN).1 (by omega)
      obtain rfl : k = m.files.length := by omega
      subst hr
      clear HN HR hv
      go_wp2_with fail
      go_ret
      exact ⟨rfl, rfl⟩
set_option maxRecDepth 100000 in
theorem Dr.look_any {W : World} {r : Nat} {v : Value} {m : Dk.M} (h : Dr.Stand W r v m) (hl : m.files.length ≤ 4096) (nb : ByteArray) (hs : nb.size ≤ 9223372036854775807) :
    ∃ k : Nat, (Dk.code m nb.data.toList = 0 → m.files[k]? = some (Dk.file m nb.data.toList)) ∧
      Calls Tryz.prog 67 #[.pointer (some ⟨r, 0, none⟩), .string nb] W fun e W' => e = .returned (.tuple #[.int .i64 k, .int .i64 (Dk.code m nb.data.toList)]) ∧ W = W' := by
  obtain ⟨c0, c1, c2, c3, c4, c5, c6⟩ := h.seven
  have hname : ∀ w : World, Calls Tryz.prog 72 #[.string nb] w fun e w' => e = .returned (.bool (Dk.named nb.data.toList)) ∧ w = w' := fun w => Dk.refNamed_any nb hs _ rfl w
  unfold Dk.code
  cases ho : m.off with
  | true =>
    rw [ho] at c2
    rw [if_pos rfl]
    refine ⟨0, (fun h => by cases h), ?_⟩
    go_enter Tryz.func67, Tryz.ntmps67
    go_wp2_with fail
    go_ret2
    exact ⟨rfl, rfl⟩
  | false =>
    rw [ho] at c2
    rw [if_neg (by decide)]
    cases hn : Dk.named nb.data.toList with
    | false =>
      rw [hn] at hname
      rw [if_neg (by decide)]
      refine ⟨0, (fun h => by cases h), ?_⟩
      clear hn
      go_enter Tryz.func67, Tryz.ntmps67
      go_wp2_with (go_at_call 72; refine (hname _).mono ?_; rintro e w' ⟨rfl, rfl⟩)
      go_ret2
      exact ⟨rfl, rfl⟩
    | true =>
      rw [hn] at hname
      rw [if_pos rfl]
      cases hg : Dk.get Dk.F.name nb.data.toList m.files with
      | none =>
        have hall := Dk.get_none hg
        have hf := Dr.find_any h hl nb (-1) fun k _ => ⟨fun _ => rfl, fun f hf e => absurd e (hall f (List.mem_of_getElem? hf))⟩
        refine ⟨0, (fun h => by cases h), ?_⟩
        rw [show (none : Option Dk.F).isSome = false from rfl, if_neg (by decide)]
        clear hn hg hall
        go_enter Tryz.func67, Tryz.ntmps67
        go_wp2_with (first
          | (go_at_call 72; refine (hname _).mono ?_; rintro e w' ⟨rfl, rfl⟩)
          | (go_at_call 95; refine hf.mono ?_; rintro e w' ⟨rfl, rfl⟩))
        go_ret2
        exact ⟨rfl, rfl⟩
      | some f =>
        obtain ⟨k, hk1, hk2⟩ := Dr.place _ _ _ hg
        have hfn := (Dk.get_mem hg).2
        have hlt := (List.getElem?_eq_some_iff.1 hk1).1
        have hf := Dr.find_any h hl nb k fun j hj => ⟨fun e => absurd hfn (hj k (by omega) f hk1), fun x hx e => by rw [hk2.only hk1 hfn hj hx e]⟩
        refine ⟨k, fun _ => ?_, ?_⟩
        · rw [hk1]; unfold Dk.file; rw [hg]; rfl
        rw [show (some f).isSome = true from rfl, if_pos rfl]
        clear hn hg hk1 hk2 hfn
        go_enter Tryz.func67, Tryz.ntmps67
        go_wp2_with (first
          | (go_at_call 72; refine (hname _).mono ?_; rintro e w' ⟨rfl, rfl⟩)
          | (go_at_call 95; refine hf.mono ?_; rintro e w' ⟨rfl, rfl⟩))
        go_ret2
        exact ⟨rfl, rfl⟩
theorem Dk.data_file {m : Dk.M} {nm : List UInt8} (h : Dk.code m nm = 0) : Dk.data m nm = (Dk.file m nm).data := by
  obtain ⟨_, _, h3, _⟩ := Dk.code_zero h
  unfold Dk.data
  rw [h3]; rfl
/-- A file's cells, by its place. -/
theorem Dr.Stand.file {W : World} {r : Nat} {v : Value} {m : Dk.M} (h : Dr.Stand W r v m) {k : Nat} {f : Dk.F} (hk : m.files[k]? = some f) : ∃ g c nb db, v = .slice (some ⟨g, 0, none⟩) m.files.length c ∧ k < m.files.length ∧ nb.data.toList = f.name ∧ db.data.toList = f.data ∧ db.size = f.data.length ∧
    W.cell? ⟨g, k * 3, none⟩ = some (.string nb) ∧ W.cell? ⟨g, k * 3 + 1, none⟩ = some (.string db) ∧ W.cell? ⟨g, k * 3 + 2, none⟩ = some (.int .i64 f.sure) := by
  obtain ⟨g, c, hv, q0, q1, q2⟩ := h.row.at_ hk
  obtain ⟨nb, hnb, _⟩ := Tx.of f.name
  obtain ⟨db, hdb, hds⟩ := Tx.of f.data
  rw [Tx.v_eq hnb] at q0
  rw [Tx.v_eq hdb] at q1
  exact ⟨g, c, nb, db, hv, (List.getElem?_eq_some_iff.1 hk).1, hnb, hdb, hds, q0, q1, q2⟩
section
variable {W : World} {r : Nat} {m : Dk.M} {F : Nat → Prop}
set_option maxRecDepth 100000 in
theorem Dr.size_any (h : Dr.At W r m F) (hl : m.files.length ≤ 4096) (s : ByteArray) (hs : s.size ≤ 9223372036854775807) :
    Calls Tryz.prog 32 #[.pointer (some ⟨r, 0, none⟩), .string s] W fun e W' => e = .returned (Dk.sizeV m s.data.toList) ∧ W = W' := by
  obtain ⟨v, hS, rfl⟩ := h
  obtain ⟨c0, c1, c2, c3, c4, c5, c6⟩ := hS.seven
  obtain ⟨k, hk, hcall⟩ := Dr.look_any hS hl s hs
  unfold Dk.sizeV
  by_cases h1 : Dk.code m s.data.toList = 0
  · obtain ⟨g, c, nb, db, rfl, hlt, _, _, hds, q0, q1, q2⟩ := hS.file (hk h1)
    rw [if_pos h1, Dk.data_file h1, ← hds]
    rw [h1] at hcall
    clear hk h1 hds q0 q2 c0 c2 c3 c4 c5 c6
    go_enter Tryz.func32, Tryz.ntmps32
    go_wp2_with (go_at_call 67; refine hcall.mono ?_; rintro e w' ⟨rfl, rfl⟩)
    go_ret2
    exact ⟨rfl, rfl⟩
  · rw [if_neg h1]
    obtain ⟨c, hc⟩ : ∃ c, Dk.code m s.data.toList = c := ⟨_, rfl⟩
    rw [hc] at hcall h1 ⊢
    have u1 : (c != 0) = true := by rw [bne_iff_ne]; exact h1
    clear hc hk
    go_enter Tryz.func32, Tryz.ntmps32
    go_wp2_with (go_at_call 67; refine hcall.mono ?_; rintro e w' ⟨rfl, rfl⟩)
    go_ret2
    exact ⟨rfl, rfl⟩
set_option maxRecDepth 100000 in
set_option maxHeartbeats 1000000 in
theorem Dr.read_any (h : Dr.At W r m F) (hG : Dk.Good m) (s : ByteArray) (hs : s.size ≤ 9223372036854775807) (i n : Int) (hi : -9223372036854775808 ≤ i ∧ i < 9223372036854775808) (hn : -9223372036854775808 ≤ n ∧ n < 9223372036854775808) :
    Calls Tryz.prog 40 #[.pointer (some ⟨r, 0, none⟩), .string s, .int .i64 i, .int .i64 n] W fun e W' => e = .returned (Dk.readV m s.data.toList i n) ∧ W = W' := by
  obtain ⟨v, hS, rfl⟩ := h
  obtain ⟨c0, c1, c2, c3, c4, c5, c6⟩ := hS.seven
  obtain ⟨k, hk, hcall⟩ := Dr.look_any hS hG.many s hs
  unfold Dk.readV
  by_cases h1 : Dk.code m s.data.toList = 0
  · obtain ⟨g, c, nb, db, rfl, hlt, _, hdb, hds, q0, q1, q2⟩ := hS.file (hk h1)
    obtain ⟨_, hx2, _⟩ := hG.file _ (List.mem_of_getElem? (hk h1))
    rw [if_pos h1, Dk.data_file h1, ← hds]
    rw [h1] at hcall
    rw [← hds] at hx2
    obtain ⟨l, hl⟩ : ∃ l, (Dk.file m s.data.toList).data = l := ⟨_, rfl⟩
    rw [hl] at hdb ⊢
    clear hk h1 hds q0 q2 c0 c2 c3 c4 c5 c6 hl
    have HDB := Lib.hid hdb
    clear hdb
    by_cases g1 : i < 0
    · rw [if_pos (.inl g1)]
      have u1 : decide (i < 0) = true := decide_eq_true g1
      go_enter Tryz.func40, Tryz.ntmps40
      go_wp2_with (go_at_call 67; refine hcall.mono ?_; rintro e w' ⟨rfl, rfl⟩)
      go_ret2
      exact ⟨rfl, rfl⟩
    have u1 : decide (i < 0) = false := decide_eq_false g1
    by_cases g2 : n < 0
    · rw [if_pos (.inr (.inl g2))]
      have u2 : decide (n < 0) = true := decide_eq_true g2
      go_enter Tryz.func40, Tryz.ntmps40
      go_wp2_with (go_at_call 67; refine hcall.mono ?_; rintro e w' ⟨rfl, rfl⟩)
      go_ret2
      exact ⟨rfl, rfl⟩
    have u2 : decide (n < 0) = false := decide_eq_false g2
    obtain ⟨i, rfl⟩ := Int.eq_ofNat_of_zero_le (Int.not_lt.1 g1)
    obtain ⟨n, rfl⟩ := Int.eq_ofNat_of_zero_le (Int.not_lt.1 g2)
    by_cases g3 : db.size < i
    · rw [if_pos (by omega)]
      have u3 : decide (db.size < i) = true := decide_eq_true g3
      go_enter Tryz.func40, Tryz.ntmps40
      go_wp2_with (go_at_call 67; refine hcall.mono ?_; rintro e w' ⟨rfl, rfl⟩)
      go_ret2
      exact ⟨rfl, rfl⟩
    have u3 : decide (db.size < i) = false := decide_eq_false g3
    obtain ⟨z, hz⟩ : ∃ z, z = db.size - i := ⟨_, rfl⟩
    have w1 : IntKind.i64.wrap ((db.size : Int) - (i : Int)) = (z : Int) := (IntWalk.i64_in _ (by omega)).trans (by omega)
    by_cases g4 : z < n
    · rw [if_pos (by omega)]
      have u4 : decide (z < n) = true := decide_eq_true g4
      clear hz
      go_enter Tryz.func40, Tryz.ntmps40
      go_wp2_with (go_at_call 67; refine hcall.mono ?_; rintro e w' ⟨rfl, rfl⟩)
      go_ret2
      exact ⟨rfl, rfl⟩
    have u4 : decide (z < n) = false := decide_eq_false g4
    rw [if_neg (by omega)]
    obtain ⟨j, hj⟩ : ∃ j, j = i + n := ⟨_, rfl⟩
    have w2 : IntKind.i64.wrap ((i : Int) + (n : Int)) = (j : Int) := (IntWalk.i64_in _ (by omega)).trans (by omega)
    have s1 : (i : Int) ≤ (j : Int) := by omega
    have s2 : (j : Int) ≤ (db.size : Int) := by omega
    rw [Int.toNat_natCast, Int.toNat_natCast]
    have hx : Tx.v ((l.drop i).take n) = .string (db.extract i j) := Tx.v_eq (by rw [Tx.extract, HDB.out, hj, Nat.add_sub_cancel_left])
    rw [hx]
    clear hj hz hx g3 g4
    go_enter Tryz.func40, Tryz.ntmps40
    go_wp2_with (go_at_call 67; refine hcall.mono ?_; rintro e w' ⟨rfl, rfl⟩)
    go_ret2
    exact ⟨rfl, rfl⟩
  · rw [if_neg h1]
    obtain ⟨c, hc⟩ : ∃ c, Dk.code m s.data.toList = c := ⟨_, rfl⟩
    rw [hc] at hcall h1 ⊢
    have u1 : (c != 0) = true := by rw [bne_iff_ne]; exact h1
    clear hc hk
    go_enter Tryz.func40, Tryz.ntmps40
    go_wp2_with (go_at_call 67; refine hcall.mono ?_; rintro e w' ⟨rfl, rfl⟩)
    go_ret2
    exact ⟨rfl, rfl⟩
end
/-- A cell of the disk's own block is written. -/
theorem Dr.Stand.set {W : World} {r : Nat} {v : Value} {m : Dk.M} (h : Dr.Stand W r v m) (i : Nat) (u : Value) (m' : Dk.M) (hc : (Dr.cells v m).setIfInBounds i u = Dr.cells v m') (hm : m'.files = m.files) : Dr.Stand (W.setCell ⟨r, i, none⟩ u) r v m' := by
  refine ⟨hc ▸ h.blk.set_ i u, ?_⟩
  rw [hm]
  exact h.row.keep fun k hk => Below.heap_setCell W ⟨r, i, none⟩ u k (h.lone k hk)
/-- Another list of files. -/
theorem Dr.Stand.files {W : World} {r : Nat} {v v' : Value} {m : Dk.M} {fs : List Dk.F} (h : Dr.Stand W r v m) (ho : Dr.Own W 0 v' fs) : Dr.Stand (W.setCell ⟨r, 1, none⟩ v') r v' { m with files := fs } := by
  have hl : ∀ k, v'.ownBlock = some k → k ≠ r := by
    rintro k hk rfl
    obtain ⟨cur, hg⟩ := ho.type hk
    have hb := h.blk
    unfold Blk at hb
    rw [hb] at hg
    injection hg with hg
    injection hg with _ hg _
    cases hg
  exact ⟨h.blk.set_ 1 v', ho.keep fun k hk => Below.heap_setCell W ⟨r, 1, none⟩ v' k (hl k hk)⟩
section
variable {W : World} {r : Nat} {m : Dk.M} {F : Nat → Prop}
set_option maxRecDepth 100000 in
set_option maxHeartbeats 1000000 in
theorem Dr.arm_any (h : Dr.At W r m F) (n : Int) (hn : -9223372036854775808 ≤ n ∧ n < 9223372036854775808) (done : Bool) :
    Calls Tryz.prog 43 #[.pointer (some ⟨r, 0, none⟩), .int .i64 n, .bool done] W fun e W' => e = .returned (.tuple #[]) ∧ Dr.At W' r (Dk.arm m n done) F ∧ Dk.Only F W W' := by
  obtain ⟨v, hS, rfl⟩ := h
  obtain ⟨c0, c1, c2, c3, c4, c5, c6⟩ := hS.seven
  unfold Dk.arm
  cases ho : m.off with
  | true =>
    rw [ho] at c2
    rw [if_pos rfl]
    go_enter Tryz.func43, Tryz.ntmps43
    go_wp2_with fail
    refine bodyPost_ret (results_none rfl _ _ _) rfl ?_
    exact ⟨rfl, ⟨v, hS, rfl⟩, Dk.Only.refl _ _⟩
  | false =>
    rw [ho] at c2
    rw [if_neg (by decide)]
    have f3 := hS.blk.frozen 3
    have f4 := hS.blk.frozen 4
    by_cases hp : 0 < n
    · obtain ⟨q, rfl⟩ := Int.eq_ofNat_of_zero_le (show 0 ≤ n by omega)
      rw [Int.toNat_natCast]
      have u1 : decide (0 < q) = true := decide_eq_true (by omega)
      clear hp c0 c1 c5 c6
      go_enter Tryz.func43, Tryz.ntmps43
      go_wp2_with fail
      go_end0
      refine ⟨rfl, ⟨v, ?_, rfl⟩, (((Dk.Only.refl _ _).setCell (.inl (.inl rfl)) _).setCell (.inl (.inl rfl)) _).setCell (.inl (.inl rfl)) _⟩
      have h0 := hS.set 3 (.int .i64 0) { m with left := 0 } rfl rfl
      have h1 := h0.set 3 (.int .i64 q) { m with left := q } rfl rfl
      have h2 := h1.set 4 (.bool done) { m with left := q, done := done } rfl rfl
      rw [ho] at h2
      exact h2
    · have hz : n.toNat = 0 := by omega
      rw [hz]
      have u1 : decide (0 < n) = false := decide_eq_false hp
      clear hp c0 c1 c5 c6 hz
      go_enter Tryz.func43, Tryz.ntmps43
      go_wp2_with fail
      go_end0
      refine ⟨rfl, ⟨v, ?_, rfl⟩, ((Dk.Only.refl _ _).setCell (.inl (.inl rfl)) _).setCell (.inl (.inl rfl)) _⟩
      have h0 := hS.set 3 (.int .i64 0) { m with left := 0 } rfl rfl
      have h2 := h0.set 4 (.bool done) { m with left := 0, done := done } rfl rfl
      rw [ho] at h2
      exact h2
end
#print axioms Dr.read_any
#print axioms Dr.arm_any
end Go.Proofs.YtdhnkcfmjibibaaGreatDoor
/- Disks in memory (the document's): without, with, accepted, step. Conditions: each theorem's own hypotheses. -/
namespace Go.Proofs.YtdhnkcfmjibibaaGreatDoor
open Go.RowKit Go.Maps Go.Sort
set_option linter.unusedVariables false

theorem Dr.Own.lt {W : World} {B : Nat} {v : Value} {l : List Dk.F} (h : Dr.Own W B v l) {k : Nat} (hk : v.ownBlock = some k) : B ≤ k ∧ k < W.heap.size := World.ownsRow.lt h k hk
theorem Dr.Own.below {W W' : World} {B : Nat} {v : Value} {l : List Dk.F} (h : Dr.Own W B v l) (hB : Below W.heap.size W W') : Dr.Own W' B v l := h.keep fun k hk => hB.block k (h.lt hk).2
/-- A file's cells, by its place in a row. -/
theorem Dr.Own.three {W : World} {B : Nat} {v : Value} {l : List Dk.F} (h : Dr.Own W B v l) {k : Nat} {f : Dk.F} (hk : l[k]? = some f) : ∃ g c nb db, v = .slice (some ⟨g, 0, none⟩) l.length c ∧ k < l.length ∧ nb.data.toList = f.name ∧ db.data.toList = f.data ∧ db.size = f.data.length ∧
    W.cell? ⟨g, k * 3, none⟩ = some (.string nb) ∧ W.cell? ⟨g, k * 3 + 1, none⟩ = some (.string db) ∧ W.cell? ⟨g, k * 3 + 2, none⟩ = some (.int .i64 f.sure) := by
  obtain ⟨g, c, hv, q0, q1, q2⟩ := h.at_ hk
  obtain ⟨nb, hnb, _⟩ := Tx.of f.name
  obtain ⟨db, hdb, hds⟩ := Tx.of f.data
  rw [Tx.v_eq hnb] at q0
  rw [Tx.v_eq hdb] at q1
  exact ⟨g, c, nb, db, hv, (List.getElem?_eq_some_iff.1 hk).1, hnb, hdb, hds, q0, q1, q2⟩
theorem Dr.one_cells (w : World) {nb db : ByteArray} {f : Dk.F} (h1 : nb.data.toList = f.name) (h2 : db.data.toList = f.data) : ∀ j u, (Dr.cellsOf [f])[j]? = some u → (w.alloc (.cells #[.string nb, .string db, .int .i64 f.sure] 83)).cell? ((⟨w.heap.size, 0, none⟩ : Addr).add j) = some u :=
  Dr.news (Tx.v_eq h1) (Tx.v_eq h2) (Blk.new w _ _)
theorem Dr.del_take {L : List Dk.F} {k : Nat} {f : Dk.F} (h : L[k]? = some f) (nm : List UInt8) : Dk.del Dk.F.name nm (L.take (k + 1)) = Dk.del Dk.F.name nm (L.take k) ++ (if f.name = nm then [] else [f]) := by
  unfold Dk.del
  rw [List.take_add_one, h, List.filter_append]
  congr 1
  show List.filter _ [f] = _
  rw [List.filter_cons]
  by_cases e : f.name = nm
  · rw [if_pos e, e]; simp
  · rw [if_neg e]; simp [e]
set_option maxRecDepth 100000 in
set_option maxHeartbeats 1000000 in
theorem Dr.without_any {W : World} {B : Nat} {v : Value} {L : List Dk.F} (h : Dr.Own W B v L) (hl : L.length ≤ 1000000000) (nb : ByteArray) :
    Calls Tryz.prog 69 #[v, .string nb] W fun e W' => ∃ v', e = .returned v' ∧ Dr.Own W' W.heap.size v' (Dk.del Dk.F.name nb.data.toList L) ∧ Below W.heap.size W W' := by
  obtain ⟨i0, hi, hz0, hz1, hz2⟩ := info_parts Dr.info
  obtain ⟨a, c, rfl⟩ := h.form
  go_enter Tryz.func69, Tryz.ntmps69
  go_wp2_with fail
  go_loopw [5, 6] (fun o i wr => ∃ k : Nat, k ≤ L.length ∧ i = .int .i64 k ∧ Dr.Own wr W.heap.size o (Dk.del Dk.F.name nb.data.toList (L.take k)) ∧ Below W.heap.size W wr) (fun _ i _ => L.length - (intOf i).toNat)
  case atStart => exact ⟨0, Nat.zero_le _, rfl, Dr.Own.nil _ _, Below.refl _ _⟩
  case round =>
    obtain ⟨k, hk, rfl, HO, hB⟩ := hrel
    by_cases hlt : k < L.length
    · obtain ⟨f, hf⟩ : ∃ f, L[k]? = some f := ⟨_, List.getElem?_eq_getElem hlt⟩
      have hdt := Dr.del_take hf nb.data.toList
      obtain ⟨g, c', xb, db, hv, _, hxb, hdb, _, c0, c1, c2⟩ := (h.below hB).three hf
      injection hv with hv1 _ hv2
      subst hv1 hv2
      by_cases he : f.name = nb.data.toList
      · have hb1 : (xb.toList == nb.toList) = true := by rw [Tx.beq, hxb]; exact decide_eq_true he
        have hb : (xb.toList != nb.toList) = false := by simp [bne, hb1]
        rw [if_pos he, List.append_nil] at hdt
        rw [← hdt] at HO
        obtain ⟨oa, oc, rfl⟩ := HO.form
        have HO2 := HO
        clear hf hxb hdb he c1 c2 hdt
        go_wp2_with fail
        go_roundw
        case rel => exact ⟨k + 1, hlt, by go_num, HO2, hB⟩
        case measure => simp [intOf]; omega
      · have hb1 : (xb.toList == nb.toList) = false := by rw [Tx.beq, hxb]; exact decide_eq_false he
        have hb : (xb.toList != nb.toList) = true := by simp [bne, hb1]
        rw [if_neg he] at hdt
        have hle : (Dk.del Dk.F.name nb.data.toList (L.take k)).length ≤ L.length := by
          refine Nat.le_trans (List.length_filter_le _ _) ?_
          rw [List.length_take]; omega
        obtain ⟨l0, hl0⟩ : ∃ l0, Dk.del Dk.F.name nb.data.toList (L.take k) = l0 := ⟨_, rfl⟩
        rw [hl0] at hdt HO hle
        obtain ⟨oa, oc, rfl⟩ := HO.form
        have hone := Dr.one_cells wr hxb hdb
        have HDT := Lib.hid hdt
        clear hf hxb hdb he hdt hl0
        go_wp2_with (at_builtin; refine wpList_append_own _ rfl (.tmp 20) (.tmp 25) 55 rfl W.heap.size 83 i0 (.agg #[.string ⟨#[]⟩, .string ⟨#[]⟩, .int .i64 0]) 3 40 Tryz.underlying55 hi hz0 hz1 hz2 rfl (by decide) _ _ _ rfl (World.ownsRow.alloc HO _) ⟨wr.heap.size, 0, none⟩ 1 1 (Dr.cellsOf [f]) rfl rfl hone (Dr.cellsOf_one _) (by unfold maxLen; omega) (by omega) (by have := hB.size; simp; omega) ?_; intro v2 w2 hown2 hgrow2 _)
        go_roundw
        case rel =>
          refine ⟨k + 1, hlt, by go_num, ?_, (hB.alloc hB.size _).grown hgrow2 (by have := hB.size; simp; omega) (fun q hq => (HO.lt hq).1)⟩
          rw [HDT.out]
          unfold Dr.Own
          rw [List.length_append, Dr.cellsOf_append]
          exact hown2
        case measure => simp [intOf]; omega
    · obtain rfl : k = L.length := by omega
      rw [List.take_length] at HO
      go_wp2_with fail
      go_ret
      exact ⟨_, rfl, HO, hB⟩
/-- A list with a file set in: from some place on. -/
def Dr.with_ (f : Dk.F) : Bool → List Dk.F → List Dk.F
  | q, [] => if q = true then [] else [f]
  | q, g :: l => (if q = false ∧ bytesBefore g.name f.name = false then [f] else []) ++ (if g.name = f.name then [] else [g]) ++ Dr.with_ f (q || !bytesBefore g.name f.name) l
theorem Dr.with_true (f : Dk.F) : ∀ l, Dr.with_ f true l = Dk.del Dk.F.name f.name l
  | [] => rfl
  | g :: l => by
    show _ ++ _ ++ Dr.with_ f true l = _
    rw [Dr.with_true f l, if_neg (fun h => by cases h.1)]
    unfold Dk.del
    rw [List.filter_cons]
    by_cases e : g.name = f.name
    · rw [if_pos e]; simp [e]
    · rw [if_neg e]; simp [e]
theorem Dr.with_put (f : Dk.F) : ∀ {l : List Dk.F}, Dk.Up Dk.F.name l → Dr.with_ f false l = Dk.put Dk.F.name f l
  | [], _ => rfl
  | g :: l, h => by
    have hp := List.pairwise_cons.1 h
    unfold Dr.with_ Dk.put
    cases hb : bytesBefore g.name f.name with
    | true =>
      have hne : g.name ≠ f.name := fun e => by rw [e, WideAt.bytes_irrefl] at hb; cases hb
      have hnb : bytesBefore f.name g.name = false := by
        cases h2 : bytesBefore f.name g.name with
        | false => rfl
        | true =>
          have := WideShapes.bytes_trans _ _ _ hb h2
          rw [WideAt.bytes_irrefl] at this
          cases this
      rw [if_neg (fun h => by cases h.2), if_neg hne]
      show [] ++ [g] ++ Dr.with_ f false l = _
      rw [Dr.with_put f hp.2]
      unfold Dk.put Dk.del
      rw [List.filter_cons]
      have : (!(g.name == f.name)) = true := by simp [hne]
      rw [if_pos this]
      show _ = (if bytesBefore f.name g.name = true then _ else _)
      rw [if_neg (by rw [hnb]; decide)]
      rfl
    | false =>
      rw [if_pos ⟨rfl, rfl⟩]
      show [f] ++ _ ++ Dr.with_ f true l = _
      rw [Dr.with_true]
      have hins : ∀ r : List Dk.F, (∀ y ∈ r, bytesBefore f.name y.name = true) → Dk.ins Dk.F.name f r = f :: r := by
        intro r hr
        cases r with
        | nil => rfl
        | cons y r =>
          show (if bytesBefore f.name y.name = true then _ else _) = _
          rw [if_pos (hr y (List.mem_cons_self ..))]
      by_cases e : g.name = f.name
      · rw [if_pos e]
        have hd : Dk.del Dk.F.name f.name (g :: l) = Dk.del Dk.F.name f.name l := by unfold Dk.del; rw [List.filter_cons]; simp [e]
        rw [hd, hins _ fun y hy => by rw [← e]; exact hp.1 y ((Dk.mem_del Dk.F.name).1 hy).1]
        rfl
      · rw [if_neg e]
        have hfg : bytesBefore f.name g.name = true := (WideAt.bytes_total _ _ (fun h => e h.symm)).resolve_right (by rw [hb]; decide)
        have hd : Dk.del Dk.F.name f.name (g :: l) = g :: Dk.del Dk.F.name f.name l := by unfold Dk.del; rw [List.filter_cons]; simp [e]
        rw [hd, hins _ fun y hy => by
          rcases List.mem_cons.1 hy with rfl | hy
          · exact hfg
          · exact WideShapes.bytes_trans _ _ _ hfg (hp.1 y ((Dk.mem_del Dk.F.name).1 hy).1)]
        rfl
theorem Dr.with_len (f : Dk.F) : ∀ (q : Bool) (l : List Dk.F), (Dr.with_ f q l).length ≤ l.length + 1
  | q, [] => by unfold Dr.with_; split <;> simp
  | q, g :: l => by
    cases q with
    | true =>
      rw [Dr.with_true]
      exact Nat.le_trans (List.length_filter_le _ _) (Nat.le_succ _)
    | false =>
      unfold Dr.with_
      cases hb : bytesBefore g.name f.name with
      | true =>
        rw [if_neg (fun h => by cases h.2)]
        have := Dr.with_len f false l
        show ([] ++ _ ++ Dr.with_ f false l).length ≤ _
        rw [List.length_append, List.nil_append, List.length_cons]
        have : (if g.name = f.name then [] else [g] : List Dk.F).length ≤ 1 := by split <;> simp
        omega
      | false =>
        rw [if_pos ⟨rfl, rfl⟩]
        show ([f] ++ _ ++ Dr.with_ f true l).length ≤ _
        rw [Dr.with_true, List.length_append, List.length_append, List.length_cons]
        have h1 : (if g.name = f.name then [] else [g] : List Dk.F).length ≤ 1 := by split <;> simp
        have h2 : (Dk.del Dk.F.name f.name l).length ≤ l.length := List.length_filter_le _ _
        simp only [List.length_cons, List.length_nil]
        omega
theorem Dr.run_geq {P : Program} (a b : ByteArray) (t : TypeId) (q : Bool) (hq : Op.bytesLess a.toList b.toList = q) (W : World) : (binOp .geq t (.string a) (.string b)).run P W = .ok (.bool (!q)) W := by
  have h : binOp .geq t (.string a) (.string b) = pure (.bool (!Op.bytesLess a.toList b.toList)) := by simp [binOp, Op.stringOp]
  rw [h, hq]
  rfl
/-- The loop of with: the list, the boxed file, what is made. -/
structure Dr.WSt (W wr : World) (p B : Nat) (v : Value) (L : List Dk.F) (box : Array Value) (o : Value) (acc : List Dk.F) : Prop where
  row : Dr.Own wr B v L
  low : ∀ k, v.ownBlock = some k → k < p
  box : Blk wr p 83 box
  own : Dr.Own wr (p + 1) o acc
  below : Below p W wr
theorem Dr.WSt.dn {W wr : World} {p B : Nat} {v o : Value} {L acc : List Dk.F} {box : Array Value} (h : Dr.WSt W wr p B v L box o acc) (n : Nat) : Dr.WSt W (wr.drewN n) p B v L box o acc :=
  ⟨h.row.keep fun _ _ => rfl, h.low, h.box, h.own.keep fun _ _ => rfl, below_dn h.below n⟩
theorem Dr.WSt.more {W wr w2 : World} {p B : Nat} {v o v2 : Value} {L acc : List Dk.F} {box : Array Value} (h : Dr.WSt W wr p B v L box o acc) {ob : Obj} {x : Dk.F}
    (ho : w2.ownsRow (p + 1) 83 3 v2 (acc.length + 1) (Dr.cellsOf acc ++ Dr.cellsOf [x])) (hg : (wr.alloc ob).grownBy w2 o.ownBlock) : Dr.WSt W w2 p B v L box v2 (acc ++ [x]) := by
  have hpl := h.box.lt
  refine ⟨h.row.keep fun k hk => ?_, h.low, ?_, ?_, ?_⟩
  · have hkp := h.low k hk
    exact (hg.block k (by simp; omega) fun e => by have := (h.own.lt e.symm).1; omega).trans (Below.heap_alloc wr ob k (by omega))
  · exact (h.box.alloc ob).grown hg fun e => by have := (h.own.lt e.symm).1; omega
  · unfold Dr.Own
    rw [List.length_append, Dr.cellsOf_append]
    exact ho
  · exact (h.below.alloc (by omega) ob).grown hg (by simp; omega) fun q hq => by have := (h.own.lt hq).1; omega
set_option maxRecDepth 100000 in
set_option maxHeartbeats 4000000 in
theorem Dr.with_any {W : World} {B : Nat} {v : Value} {L : List Dk.F} (h : Dr.Own W B v L) (hl : L.length ≤ 1000000000) (f : Dk.F) {fb fd : ByteArray} (hfb : fb.data.toList = f.name) (hfd : fd.data.toList = f.data) :
    Calls Tryz.prog 70 #[v, .agg #[.string fb, .string fd, .int .i64 f.sure]] W fun e W' => ∃ v', e = .returned v' ∧ Dr.Own W' W.heap.size v' (Dr.with_ f false L) ∧ Below W.heap.size W W' := by
  obtain ⟨i0, hi, hz0, hz1, hz2⟩ := info_parts Dr.info
  obtain ⟨Z, hZ⟩ : ∃ Z, Dr.with_ f false L = Z := ⟨_, rfl⟩
  have hZl : Z.length ≤ L.length + 1 := by rw [← hZ]; exact Dr.with_len f false L
  have HZ := Lib.hid hZ
  rw [hZ]
  clear hZ
  have hst : Dr.WSt W (W.alloc (.cells #[.string fb, .string fd, .int .i64 f.sure] 83)) W.heap.size B v L #[.string fb, .string fd, .int .i64 f.sure] (.slice none 0 0) [] :=
    ⟨h.alloc _, fun k hk => (h.lt hk).2, Blk.new _ _ _, Dr.Own.nil _ _, (Below.refl _ _).alloc (Nat.le_refl _) _⟩
  obtain ⟨a, c, rfl⟩ := h.form
  have hone : ∀ w : World, _ := fun w => Dr.one_cells w hfb hfd
  have HFB := Lib.hid hfb
  clear h hfb hfd
  go_enter Tryz.func70, Tryz.ntmps70
  go_wp2_with fail
  obtain ⟨p, hp⟩ : ∃ p, W.heap.size = p := ⟨_, rfl⟩
  rw [hp] at hst ⊢
  have HPW := Lib.hid hp
  clear hp
  go_loopw [5, 6, 7] (fun o q i wr => ∃ (k : Nat) (acc : List Dk.F) (b : Bool), k ≤ L.length ∧ i = .int .i64 k ∧ q = .bool b ∧ Dr.WSt W wr p B (.slice a L.length c) L #[.string fb, .string fd, .int .i64 f.sure] o acc ∧ Hid (acc ++ Dr.with_ f b (L.drop k) = Z)) (fun _ _ i _ => L.length - (intOf i).toNat)
  case atStart => exact ⟨0, [], false, Nat.zero_le _, rfl, rfl, hst, Lib.hid (by rw [List.nil_append]; exact HZ.out)⟩
  case round =>
    clear hst
    obtain ⟨k, acc, q, hk, rfl, rfl, hS, HA⟩ := hrel
    have hal : acc.length ≤ L.length + 1 := by
      have := congrArg List.length HA.out
      rw [List.length_append] at this
      omega
    obtain ⟨oa, oc, rfl⟩ := hS.own.form
    have b0 := hS.box.cell 0
    have b1 := hS.box.cell 1
    have b2 := hS.box.cell 2
    simp only [List.getElem?_toArray, List.getElem?_cons_zero, List.getElem?_cons_succ] at b0 b1 b2
    by_cases hlt : k < L.length
    · obtain ⟨x, hx⟩ : ∃ x, L[k]? = some x := ⟨_, List.getElem?_eq_getElem hlt⟩
      have hdr : L.drop k = x :: L.drop (k + 1) := by
        rw [List.drop_eq_getElem_cons hlt]
        rw [List.getElem?_eq_getElem hlt] at hx
        rw [Option.some.inj hx]
      obtain ⟨g, c', xb, db, hv, _, hxb, hdb, _, c0, c1, c2⟩ := hS.row.three hx
      injection hv with hv1 _ hv2
      subst hv1 hv2
      have hone2 : ∀ w : World, _ := fun w => Dr.one_cells w hxb hdb
      obtain ⟨bb, hbb⟩ : ∃ bb, bytesBefore x.name f.name = bb := ⟨_, rfl⟩
      have t1 : Op.bytesLess xb.toList fb.toList = bb := by rw [Dk.less_eq, ByteArray.toList_eq, ByteArray.toList_eq, hxb, HFB.out]; exact hbb
      have t3 : ∀ w, _ := fun w => Dr.run_geq (P := Tryz.prog) xb fb 9 bb t1 w
      obtain ⟨ee, hee⟩ : ∃ ee, decide (x.name = f.name) = ee := ⟨_, rfl⟩
      have t2 : (xb.toList == fb.toList) = ee := by rw [Tx.beq, hxb, HFB.out]; exact hee
      have HA2 : Hid (acc ++ ((if q = false ∧ bb = false then [f] else []) ++ (if ee = true then [] else [x]) ++ Dr.with_ f (q || !bb) (L.drop (k + 1))) = Z) := by
        have := HA.out
        rw [hdr] at this
        unfold Dr.with_ at this
        rw [hbb] at this
        rw [← hee]
        simp only [decide_eq_true_eq]
        exact this
      have hrd : ∀ {w2 o acc}, Dr.WSt W w2 p B (.slice (some ⟨g, 0, none⟩) L.length c) L #[.string fb, .string fd, .int .i64 f.sure] o acc → w2.cell? ⟨g, k * 3, none⟩ = some (.string xb) ∧ w2.cell? ⟨g, k * 3 + 1, none⟩ = some (.string db) ∧ w2.cell? ⟨g, k * 3 + 2, none⟩ = some (.int .i64 x.sure) := fun h => by
        obtain ⟨g2, c2', e, q0, q1, q2⟩ := h.row.at_ hx
        injection e with e
        injection e with e
        injection e with e
        subst e
        rw [Tx.v_eq hxb] at q0
        rw [Tx.v_eq hdb] at q1
        exact ⟨q0, q1, q2⟩
      have hbox : ∀ {w2 v o acc}, Dr.WSt W w2 p B v L #[.string fb, .string fd, .int .i64 f.sure] o acc → w2.cell? ⟨p, 0, none⟩ = some (.string fb) ∧ w2.cell? ⟨p, 1, none⟩ = some (.string fd) ∧ w2.cell? ⟨p, 2, none⟩ = some (.int .i64 f.sure) := fun h => ⟨h.box.cell 0, h.box.cell 1, h.box.cell 2⟩
      have hplt := hS.box.lt
      clear hx hdr hxb hdb hbb hee HA
      cases q with
      | true =>
        go_wp2_with fail
        go_quiet (fail)
        go_wp2_with fail
        go_quiet (fail)
        cases ee with
        | true =>
          have HA3 : Hid (acc ++ Dr.with_ f true (L.drop (k + 1)) = Z) := Lib.hid (by simpa using HA2.out)
          clear HA2 hrd hbox
          go_wp2_with fail
          go_roundw
          case rel => exact ⟨k + 1, acc, true, hlt, by go_num, rfl, hS.dn _, HA3⟩
          case measure => simp [intOf]; omega
        | false =>
          have HA3 : Hid ((acc ++ [x]) ++ Dr.with_ f true (L.drop (k + 1)) = Z) := Lib.hid (by simpa using HA2.out)
          clear HA2 hrd hbox
          have hsz := (hS).box.lt
          go_wp2_with (at_builtin; refine wpList_append_own _ rfl (.tmp 38) (.tmp 43) 55 rfl (p + 1) 83 i0 (.agg #[.string ⟨#[]⟩, .string ⟨#[]⟩, .int .i64 0]) 3 40 Tryz.underlying55 hi hz0 hz1 hz2 rfl (by decide) _ _ _ rfl (World.ownsRow.alloc (hS.dn _).own _) ⟨_, 0, none⟩ 1 1 (Dr.cellsOf [x]) rfl rfl (hone2 _) (Dr.cellsOf_one _) (by unfold maxLen; (try simp only [List.length_append, List.length_cons, List.length_nil]); omega) (by omega) (by (try simp); omega) ?_; intro v3 w3 hown3 hgrow3 _)
          go_roundw
          case rel => exact ⟨k + 1, acc ++ [x], true, hlt, by go_num, rfl, (hS.dn _).more hown3 hgrow3, HA3⟩
          case measure => simp [intOf]; omega
      | false =>
        cases bb with
        | true =>
          go_wp2_with fail
          go_quiet (fail)
          go_wp2_with fail
          go_quiet (fail)
          cases ee with
          | true =>
            have HA3 : Hid (acc ++ Dr.with_ f false (L.drop (k + 1)) = Z) := Lib.hid (by simpa using HA2.out)
            clear HA2 hrd hbox
            go_wp2_with fail
            go_roundw
            case rel => exact ⟨k + 1, acc, false, hlt, by go_num, rfl, hS.dn _, HA3⟩
            case measure => simp [intOf]; omega
          | false =>
            have HA3 : Hid ((acc ++ [x]) ++ Dr.with_ f false (L.drop (k + 1)) = Z) := Lib.hid (by simpa using HA2.out)
            clear HA2 hrd hbox
            have hsz := (hS).box.lt
            go_wp2_with (at_builtin; refine wpList_append_own _ rfl (.tmp 38) (.tmp 43) 55 rfl (p + 1) 83 i0 (.agg #[.string ⟨#[]⟩, .string ⟨#[]⟩, .int .i64 0]) 3 40 Tryz.underlying55 hi hz0 hz1 hz2 rfl (by decide) _ _ _ rfl (World.ownsRow.alloc (hS.dn _).own _) ⟨_, 0, none⟩ 1 1 (Dr.cellsOf [x]) rfl rfl (hone2 _) (Dr.cellsOf_one _) (by unfold maxLen; (try simp only [List.length_append, List.length_cons, List.length_nil]); omega) (by omega) (by (try simp); omega) ?_; intro v3 w3 hown3 hgrow3 _)
            go_roundw
            case rel => exact ⟨k + 1, acc ++ [x], false, hlt, by go_num, rfl, (hS.dn _).more hown3 hgrow3, HA3⟩
            case measure => simp [intOf]; omega
        | false =>
          obtain ⟨acc2, HAC⟩ : ∃ acc2, Hid (acc ++ [f] = acc2) := ⟨_, Lib.hid rfl⟩
          have hal2 : acc2.length ≤ L.length + 2 := by rw [← HAC.out]; simp; omega
          go_wp2_with fail
          go_quiet (fail)
          go_wp2_with (at_builtin; refine wpList_append_own _ rfl (.tmp 26) (.tmp 28) 55 rfl (p + 1) 83 i0 (.agg #[.string ⟨#[]⟩, .string ⟨#[]⟩, .int .i64 0]) 3 40 Tryz.underlying55 hi hz0 hz1 hz2 rfl (by decide) _ _ _ rfl (World.ownsRow.alloc (hS.dn _).own _) ⟨_, 0, none⟩ 1 1 (Dr.cellsOf [f]) rfl rfl (hone _) (Dr.cellsOf_one _) (by unfold maxLen; (try simp only [List.length_append, List.length_cons, List.length_nil]); omega) (by omega) (by (try simp); omega) ?_; intro v2 w2 hown2 hgrow2 _; have S2 := (hS.dn _).more hown2 hgrow2; rw [HAC.out] at S2; obtain ⟨d0, d1, d2⟩ := hrd S2; obtain ⟨e0, e1, e2⟩ := hbox S2; obtain ⟨oa2, oc2, rfl⟩ := S2.own.form; clear c0 c1 c2 b0 b1 b2)
          go_quiet (fail)
          cases ee with
          | true =>
            have HA3 : Hid (acc2 ++ Dr.with_ f true (L.drop (k + 1)) = Z) := Lib.hid (by rw [← HAC.out]; simpa using HA2.out)
            clear HA2 hrd hbox
            go_wp2_with fail
            go_roundw
            case rel => exact ⟨k + 1, acc2, true, hlt, by go_num, rfl, S2.dn _, HA3⟩
            case measure => simp [intOf]; omega
          | false =>
            have HA3 : Hid ((acc2 ++ [x]) ++ Dr.with_ f true (L.drop (k + 1)) = Z) := Lib.hid (by rw [← HAC.out]; simpa using HA2.out)
            clear HA2 hrd hbox
            have hsz := (S2).box.lt
            go_wp2_with (at_builtin; refine wpList_append_own _ rfl (.tmp 38) (.tmp 43) 55 rfl (p + 1) 83 i0 (.agg #[.string ⟨#[]⟩, .string ⟨#[]⟩, .int .i64 0]) 3 40 Tryz.underlying55 hi hz0 hz1 hz2 rfl (by decide) _ _ _ rfl (World.ownsRow.alloc (S2.dn _).own _) ⟨_, 0, none⟩ 1 1 (Dr.cellsOf [x]) rfl rfl (hone2 _) (Dr.cellsOf_one _) (by unfold maxLen; (try simp only [List.length_append, List.length_cons, List.length_nil]); omega) (by omega) (by (try simp); omega) ?_; intro v3 w3 hown3 hgrow3 _)
            go_roundw
            case rel => exact ⟨k + 1, acc2 ++ [x], true, hlt, by go_num, rfl, (S2.dn _).more hown3 hgrow3, HA3⟩
            case measure => simp [intOf]; omega
    · obtain rfl : k = L.length := by omega
      have HA3 : Hid (acc ++ Dr.with_ f q [] = Z) := Lib.hid (by have := HA.out; rw [List.drop_length] at this; exact this)
      clear HA
      have hplt := hS.box.lt
      cases q with
      | true =>
        have hz := HA3.out
        unfold Dr.with_ at hz
        rw [if_pos rfl, List.append_nil] at hz
        subst hz
        clear HZ HA3
        go_wp2_with fail
        go_ret
        refine ⟨_, rfl, hS.own.base fun q hq => ?_, ?_⟩
        · have h1 := (hS.own.lt hq).1
          have h2 := HPW.out
          omega
        · rw [HPW.out]; exact hS.below
      | false =>
        have hz := HA3.out
        unfold Dr.with_ at hz
        rw [if_neg (by decide)] at hz
        subst hz
        clear HZ HA3
        go_wp2_with (at_builtin; refine wpList_append_own _ rfl (.tmp 47) (.tmp 49) 55 rfl (p + 1) 83 i0 (.agg #[.string ⟨#[]⟩, .string ⟨#[]⟩, .int .i64 0]) 3 40 Tryz.underlying55 hi hz0 hz1 hz2 rfl (by decide) _ _ _ rfl (World.ownsRow.alloc hS.own _) ⟨_, 0, none⟩ 1 1 (Dr.cellsOf [f]) rfl rfl (hone _) (Dr.cellsOf_one _) (by unfold maxLen; (try simp only [List.length_append, List.length_cons, List.length_nil]); omega) (by omega) (by (try simp); omega) ?_; intro v2 w2 hown2 hgrow2 _; have S2 := hS.more hown2 hgrow2)
        go_ret
        refine ⟨_, rfl, S2.own.base fun q hq => ?_, ?_⟩
        · have h1 := (S2.own.lt hq).1
          have h2 := HPW.out
          omega
        · rw [HPW.out]; exact S2.below
#print axioms Dr.with_any
#print axioms Dr.without_any
end Go.Proofs.YtdhnkcfmjibibaaGreatDoor
/- Disks in memory (the document's): accepted, step. Conditions: each theorem's own hypotheses. -/
namespace Go.Proofs.YtdhnkcfmjibibaaGreatDoor
open Go.RowKit Go.Maps Go.Sort
set_option linter.unusedVariables false

theorem Dr.ins_first {f : Dk.F} {r : List Dk.F} (hr : ∀ y ∈ r, bytesBefore f.name y.name = true) : Dk.ins Dk.F.name f r = f :: r := by
  cases r with
  | nil => rfl
  | cons y r =>
    show (if bytesBefore f.name y.name = true then _ else _) = _
    rw [if_pos (hr y (List.mem_cons_self ..))]
/-- A file put in the place of one of its name. -/
theorem Dr.put_upd {nm : List UInt8} {f : Dk.F} (hn : f.name = nm) : ∀ {l : List Dk.F}, Dk.Up Dk.F.name l → ∀ {g : Dk.F}, Dk.get Dk.F.name nm l = some g → Dk.put Dk.F.name f l = Dk.upd nm f l
  | [], _, g, h => by cases h
  | z :: r, hu, g, h => by
    obtain ⟨h1, h2⟩ := List.pairwise_cons.1 hu
    unfold Dk.get at h
    rw [List.find?_cons] at h
    unfold Dk.put
    rw [hn]
    by_cases e : z.name = nm
    · have hne : ∀ y ∈ r, y.name ≠ nm := fun y hy e3 => by
        have hb := h1 y hy
        rw [e, e3, WideAt.bytes_irrefl] at hb
        cases hb
      have hd : Dk.del Dk.F.name nm (z :: r) = r := by
        unfold Dk.del
        rw [List.filter_cons]
        simp only [e, beq_self_eq_true, Bool.not_true, Bool.false_eq_true, if_false]
        exact List.filter_eq_self.2 fun y hy => by simp [hne y hy]
      rw [hd, Dr.ins_first fun y hy => by rw [hn, ← e]; exact h1 y hy]
      unfold Dk.upd
      rw [List.map_cons, if_pos e]
      refine congrArg _ ?_
      have : ∀ y ∈ r, (if y.name = nm then f else y) = y := fun y hy => if_neg (hne y hy)
      rw [List.map_congr_left this, List.map_id']
    · have e2 : (z.name == nm) = false := by simpa using e
      rw [e2] at h
      have hd : Dk.del Dk.F.name nm (z :: r) = z :: Dk.del Dk.F.name nm r := by
        unfold Dk.del
        rw [List.filter_cons, e2]; rfl
      have hm := Dk.get_mem (key := Dk.F.name) (nm := nm) (l := r) h
      have hb : bytesBefore z.name nm = true := by rw [← hm.2]; exact h1 _ hm.1
      have hnb : bytesBefore nm z.name = false := by
        cases h3 : bytesBefore nm z.name with
        | false => rfl
        | true =>
          have := WideShapes.bytes_trans _ _ _ hb h3
          rw [WideAt.bytes_irrefl] at this
          cases this
      rw [hd]
      show (if bytesBefore f.name z.name = true then _ else _) = _
      rw [hn, hnb, if_neg (by decide)]
      have hi := Dr.put_upd hn h2 h
      unfold Dk.put at hi
      rw [hn] at hi
      rw [hi]
      unfold Dk.upd
      rw [List.map_cons, if_neg e]
theorem Dr.upd_self {nm : List UInt8} : ∀ {l : List Dk.F}, Dk.Up Dk.F.name l → ∀ {f : Dk.F}, Dk.get Dk.F.name nm l = some f → Dk.upd nm f l = l := by
  intro l hu f h
  unfold Dk.upd
  have : ∀ y ∈ l, (if y.name = nm then f else y) = y := fun y hy => by
    split
    · rename_i e
      obtain ⟨h1, h2⟩ := Dk.get_mem h
      exact Dk.key_inj hu h1 hy (h2.trans e.symm)
    · rfl
  rw [List.map_congr_left this, List.map_id']
theorem Dr.del_comm (a b : List UInt8) (l : List Dk.F) : Dk.del Dk.F.name a (Dk.del Dk.F.name b l) = Dk.del Dk.F.name b (Dk.del Dk.F.name a l) := by
  unfold Dk.del
  rw [List.filter_filter, List.filter_filter]
  exact congrArg (fun p => List.filter p l) (funext fun y => Bool.and_comm _ _)
/-- What with makes of the files without one: what Rename makes. -/
theorem Dr.with_ren {old tn : List UInt8} {l : List Dk.F} (hu : Dk.Up Dk.F.name l) {f : Dk.F} (h : Dk.get Dk.F.name old l = some f) : Dr.with_ (Dk.named2 f tn) false (Dk.del Dk.F.name old l) = Dk.ren old tn f l := by
  have hn := (Dk.get_mem h).2
  rw [Dr.with_put _ (Dk.up_del Dk.F.name hu old)]
  unfold Dk.ren Dk.put
  show Dk.ins Dk.F.name (Dk.named2 f tn) (Dk.del Dk.F.name tn (Dk.del Dk.F.name old l)) = _
  by_cases e : old = tn
  · rw [if_pos e]
    subst e
    have h2 : Dk.del Dk.F.name old (Dk.del Dk.F.name old l) = Dk.del Dk.F.name old l := Dk.del_none fun y hy => ((Dk.mem_del Dk.F.name).1 hy).2
    have h3 : Dk.named2 f old = f := by unfold Dk.named2; rw [← hn]
    rw [h2, h3]
    have h4 := Dr.put_upd hn hu h
    unfold Dk.put at h4
    rw [hn] at h4
    rw [h4, Dr.upd_self hu h]
  · rw [if_neg e, Dr.del_comm]
/-- A write is counted. -/
def Dr.acc0 (m : Dk.M) : Dk.M := { m with writes := IntKind.i64.wrap (m.writes + 1), left := m.left - 1, off := if m.left = 0 then m.off else decide (m.left = 1) }
set_option maxRecDepth 100000 in
set_option maxHeartbeats 1000000 in
theorem Dr.accepted_any {W : World} {r : Nat} {v : Value} {m : Dk.M} (h : Dr.Stand W r v m) (hl : m.left ≤ 9223372036854775807) :
    Calls Tryz.prog 71 #[.pointer (some ⟨r, 0, none⟩)] W fun e W' => e = .returned (.bool (decide (m.left = 1))) ∧ Dr.Stand W' r v (Dr.acc0 m) ∧ Dk.Only (fun k => k = r) W W' := by
  obtain ⟨fs, cap, ag, wr, off, left, done⟩ := m
  obtain ⟨c0, c1, c2, c3, c4, c5, c6⟩ := h.seven
  simp only at c0 c1 c2 c3 c4 c5 c6 hl
  have f2 := h.blk.frozen 2
  have f3 := h.blk.frozen 3
  have f6 := h.blk.frozen 6
  unfold Dr.acc0
  simp only
  obtain ⟨wr2, hwr⟩ : ∃ z, IntKind.i64.wrap (wr + 1) = z := ⟨_, rfl⟩
  rw [hwr]
  have s6 := h.set 6 (.int .i64 wr2) ⟨fs, cap, ag, wr2, off, left, done⟩ rfl rfl
  have o6 : Dk.Only (fun k => k = r) W (W.setCell ⟨r, 6, none⟩ (.int .i64 wr2)) := Dk.Only.setCell (F := fun k => k = r) (Dk.Only.refl _ _) (.inl rfl) _
  match left with
  | 0 =>
    go_enter Tryz.func71, Tryz.ntmps71
    go_wp2_with fail
    go_ret
    exact ⟨rfl, s6, o6⟩
  | 1 =>
    go_enter Tryz.func71, Tryz.ntmps71
    go_wp2_with fail
    go_ret
    exact ⟨rfl, (s6.set 3 (.int .i64 0) ⟨fs, cap, ag, wr2, off, 0, done⟩ rfl rfl).set 2 (.bool true) ⟨fs, cap, ag, wr2, true, 0, done⟩ rfl rfl, (o6.setCell (.inl rfl) _).setCell (.inl rfl) _⟩
  | n + 2 =>
    have w1 : IntKind.i64.wrap (((n + 2 : Nat) : Int) - 1) = ((n + 1 : Nat) : Int) := (IntWalk.i64_in _ (by omega)).trans (by omega)
    have s3 := s6.set 3 (.int .i64 ((n + 1 : Nat) : Int)) ⟨fs, cap, ag, wr2, off, n + 1, done⟩ rfl rfl
    obtain ⟨a, ha⟩ : ∃ a : Nat, a = n + 2 := ⟨_, rfl⟩
    obtain ⟨b, hb⟩ : ∃ b : Nat, b = n + 1 := ⟨_, rfl⟩
    rw [← ha] at c3 w1
    rw [← hb] at w1 s3
    have t0 : ((a : Int) == 0) = false := beq_eq_false_iff_ne.2 (by omega)
    have t1 : ((b : Int) == 0) = false := beq_eq_false_iff_ne.2 (by omega)
    have s2 := s3.set 2 (.bool false) ⟨fs, cap, ag, wr2, false, b, done⟩ rfl rfl
    rw [show decide (n + 2 = 1) = false from decide_eq_false (by omega), if_neg (by omega), show n + 2 - 1 = b from by omega]
    clear h ha hb hl
    go_enter Tryz.func71, Tryz.ntmps71
    go_wp2_with fail
    go_ret
    exact ⟨rfl, s2, (o6.setCell (.inl rfl) _).setCell (.inl rfl) _⟩
set_option maxRecDepth 100000 in
set_option maxHeartbeats 1000000 in
theorem Dr.step_any {W : World} {r : Nat} {v v' : Value} {m : Dk.M} {fs : List Dk.F} (h : Dr.Stand W r v m) (hl : m.left ≤ 9223372036854775807) (hoff : m.off = false) (ho : Dr.Own W 0 v' fs) (hr : v'.ownBlock ≠ some r) :
    Calls Tryz.prog 68 #[.pointer (some ⟨r, 0, none⟩), v'] W fun e W' => e = .returned (.int .i64 (Dk.acc m m.done fs).2) ∧ ∃ v2, Dr.Stand W' r v2 (Dk.acc m m.done fs).1 ∧ Dk.Only (fun k => k = r) W W' ∧ (v2 = v' ∨ v2 = v) := by
  have ka := Dr.accepted_any h hl
  obtain ⟨f0, cap, ag, wr, off, left, done⟩ := m
  simp only at hoff hl
  subst hoff
  unfold Dr.acc0 at ka
  unfold Dk.acc
  simp only at ka ⊢
  have own2 : ∀ {w}, Dk.Only (fun k => k = r) W w → Dr.Own w 0 v' fs := fun hw => ho.keep fun k hk => hw.block k (ho.lt hk).2 fun e => hr (e ▸ hk)
  obtain ⟨a, c, rfl⟩ := ho.form
  match left with
  | 0 =>
    rw [if_pos rfl]
    go_enter Tryz.func68, Tryz.ntmps68
    go_wp2_with (go_at_call 71; refine ka.mono ?_; rintro e w1 ⟨rfl, s1, o1⟩; have f1 := s1.blk.frozen 1; obtain ⟨c0, c1, c2, c3, c4, c5, c6⟩ := s1.seven)
    go_ret
    exact ⟨rfl, _, s1.files (own2 o1), o1.setCell (.inl rfl) _, .inl rfl⟩
  | 1 =>
    rw [if_neg (by decide), if_neg (by decide)]
    cases done with
    | true =>
      go_enter Tryz.func68, Tryz.ntmps68
      go_wp2_with (go_at_call 71; refine ka.mono ?_; rintro e w1 ⟨rfl, s1, o1⟩; have f1 := s1.blk.frozen 1; obtain ⟨c0, c1, c2, c3, c4, c5, c6⟩ := s1.seven)
      go_ret
      exact ⟨rfl, _, s1.files (own2 o1), o1.setCell (.inl rfl) _, .inl rfl⟩
    | false =>
      go_enter Tryz.func68, Tryz.ntmps68
      go_wp2_with (go_at_call 71; refine ka.mono ?_; rintro e w1 ⟨rfl, s1, o1⟩; have f1 := s1.blk.frozen 1; obtain ⟨c0, c1, c2, c3, c4, c5, c6⟩ := s1.seven)
      go_ret
      exact ⟨rfl, _, s1, o1, .inr rfl⟩
  | n + 2 =>
    rw [if_neg (by omega), if_pos (by omega)]
    rw [show decide (n + 2 = 1) = false from decide_eq_false (by omega), if_neg (by omega)] at ka
    go_enter Tryz.func68, Tryz.ntmps68
    go_wp2_with (go_at_call 71; refine ka.mono ?_; rintro e w1 ⟨rfl, s1, o1⟩; have f1 := s1.blk.frozen 1; obtain ⟨c0, c1, c2, c3, c4, c5, c6⟩ := s1.seven)
    go_ret
    exact ⟨rfl, _, s1.files (own2 o1), o1.setCell (.inl rfl) _, .inl rfl⟩
#print axioms Dr.step_any
end Go.Proofs.YtdhnkcfmjibibaaGreatDoor
/- Disks in memory (the document's): Create, Delete. Conditions: each theorem's own hypotheses. -/
namespace Go.Proofs.YtdhnkcfmjibibaaGreatDoor
open Go.RowKit Go.Maps Go.Sort
set_option linter.unusedVariables false

theorem Dr.Moved.same {W W' : World} {r : Nat} {m : Dk.M} {F : Nat → Prop} (h : Dr.At W r m F) (hB : Below W.heap.size W W') : Dr.Moved W W' r F m :=
  ⟨F, h.later hB (Nat.le_refl _), .of hB, fun k hk => .inl hk⟩
theorem Dr.Moved.step {W w W' : World} {r : Nat} {v v' v2 : Value} {m' : Dk.M} {fs : List Dk.F} (hB : Below W.heap.size W w) (ho : Dr.Own w W.heap.size v' fs)
    (hs : Dr.Stand W' r v2 m') (h : Dk.Only (fun k => k = r) w W') (hv : v2 = v' ∨ v2 = v) : Dr.Moved W W' r (Dr.foot r v) m' := by
  refine ⟨_, ⟨v2, hs, rfl⟩, (Dk.Only.of hB).trans (h.wide fun k _ e => .inl e), fun k hk => ?_⟩
  rcases hk with rfl | hk
  · exact .inl (.inl rfl)
  rcases hv with rfl | rfl
  · exact .inr (ho.lt hk).1
  · exact .inl (.inr hk)
/-- A step with a new row. -/
theorem Dr.Stand.step {W w : World} {r : Nat} {v v' : Value} {m : Dk.M} {fs : List Dk.F} (h : Dr.Stand W r v m) (hG : Dk.Good m) (hoff : m.off = false) (hB : Below W.heap.size W w) (ho : Dr.Own w W.heap.size v' fs) :
    Calls Tryz.prog 68 #[.pointer (some ⟨r, 0, none⟩), v'] w fun e W' => e = .returned (.int .i64 (Dk.acc m m.done fs).2) ∧ Dr.Moved W W' r (Dr.foot r v) (Dk.acc m m.done fs).1 := by
  have hrl := h.blk.lt
  refine (Dr.step_any (h.later hB (Nat.le_refl _)) hG.left hoff (ho.base fun _ _ => Nat.zero_le _) (fun e => by have := (ho.lt e).1; omega)).mono ?_
  rintro e W' ⟨rfl, v2, s2, o2, hv⟩
  exact ⟨rfl, Dr.Moved.step hB ho s2 o2 hv⟩
section
variable {W : World} {r : Nat} {m : Dk.M} {F : Nat → Prop}
set_option maxRecDepth 100000 in
set_option maxHeartbeats 1000000 in
theorem Dr.create_any (h : Dr.At W r m F) (hG : Dk.Good m) (s : ByteArray) (hs : s.size ≤ 9223372036854775807) :
    Calls Tryz.prog 34 #[.pointer (some ⟨r, 0, none⟩), .string s] W fun e W' => e = .returned (.int .i64 (Dk.create m s.data.toList).2) ∧ Dr.Moved W W' r F (Dk.create m s.data.toList).1 := by
  have h0 := h
  obtain ⟨v, hS, rfl⟩ := h
  obtain ⟨k, hk, hcall⟩ := Dr.look_any hS hG.many s hs
  clear hk
  unfold Dk.create
  by_cases h1 : Dk.code m s.data.toList = 0
  · rw [if_pos h1]
    rw [h1] at hcall
    clear h1
    go_enter Tryz.func34, Tryz.ntmps34
    go_wp2_with (go_at_call 67; refine hcall.mono ?_; rintro e w' ⟨rfl, rfl⟩)
    go_ret
    exact ⟨rfl, .same h0 (Below.refl _ _)⟩
  rw [if_neg h1]
  by_cases h2 : Dk.code m s.data.toList ≠ 42
  · rw [if_pos h2]
    obtain ⟨c, hc⟩ : ∃ c, Dk.code m s.data.toList = c := ⟨_, rfl⟩
    rw [hc] at hcall h1 h2 ⊢
    have t1 : (c == 0) = false := beq_eq_false_iff_ne.2 h1
    have t2 : (c != 42) = true := bne_iff_ne.2 h2
    clear hc h1 h2
    go_enter Tryz.func34, Tryz.ntmps34
    go_wp2_with (go_at_call 67; refine hcall.mono ?_; rintro e w' ⟨rfl, rfl⟩)
    go_ret
    exact ⟨rfl, .same h0 (Below.refl _ _)⟩
  rw [if_neg h2]
  have hc : Dk.code m s.data.toList = 42 := Decidable.not_not.1 h2
  obtain ⟨q1, q2, q3⟩ := Dk.code_none hc
  rw [hc] at hcall
  clear hc h1 h2
  obtain ⟨c0, c1, c2, c3, c4, c5, c6⟩ := hS.seven
  obtain ⟨a, cp, hv⟩ := hS.row.form
  have hmany := hG.many
  by_cases hm : 4096 ≤ m.files.length
  · rw [if_pos hm]
    rw [hv] at c1
    have t1 : ((m.files.length : Int) == 4096) = true := by rw [beq_iff_eq]; omega
    clear hv
    go_enter Tryz.func34, Tryz.ntmps34
    go_wp2_with (go_at_call 67; refine hcall.mono ?_; rintro e w' ⟨rfl, rfl⟩)
    go_ret
    exact ⟨rfl, .same h0 (Below.refl _ _)⟩
  · rw [if_neg hm]
    have t1 : ((m.files.length : Int) == 4096) = false := beq_eq_false_iff_ne.2 (by omega)
    have kw := Dr.with_any hS.row (by omega) (Dk.empty s.data.toList) (fb := s) (fd := ⟨#[]⟩) rfl rfl
    rw [Dr.with_put _ hG.up] at kw
    unfold Dk.put at kw
    rw [show (Dk.empty s.data.toList).name = s.data.toList from rfl, Dk.del_none (Dk.get_none q2), show (((Dk.empty s.data.toList).sure : Nat) : Int) = 0 from rfl] at kw
    obtain ⟨fs, hfs⟩ : ∃ fs, Dk.ins Dk.F.name (Dk.empty s.data.toList) m.files = fs := ⟨_, rfl⟩
    rw [hfs] at kw ⊢
    have ks := fun {w v'} hB ho => hS.step (w := w) (v' := v') (fs := fs) hG q3 hB ho
    obtain ⟨Z, hZ⟩ : ∃ Z, Dk.acc m m.done fs = Z := ⟨_, rfl⟩
    rw [hZ] at ks ⊢
    subst hv
    clear hfs hZ hm hmany q1 q2 q3
    go_enter Tryz.func34, Tryz.ntmps34
    go_wp2_with (first
      | (go_at_call 67; refine hcall.mono ?_; rintro e w' ⟨rfl, rfl⟩)
      | (go_at_call 70; refine kw.mono ?_; rintro e w1 ⟨v1, rfl, o1, b1⟩)
      | (go_at_call 68; refine (ks b1 o1).mono ?_; rintro e w2 ⟨rfl, hm2⟩))
    go_ret
    exact ⟨rfl, hm2⟩
set_option maxRecDepth 100000 in
set_option maxHeartbeats 1000000 in
theorem Dr.delete_any (h : Dr.At W r m F) (hG : Dk.Good m) (s : ByteArray) (hs : s.size ≤ 9223372036854775807) :
    Calls Tryz.prog 33 #[.pointer (some ⟨r, 0, none⟩), .string s] W fun e W' => e = .returned (.int .i64 (Dk.delete m s.data.toList).2) ∧ Dr.Moved W W' r F (Dk.delete m s.data.toList).1 := by
  have h0 := h
  obtain ⟨v, hS, rfl⟩ := h
  obtain ⟨k, hk, hcall⟩ := Dr.look_any hS hG.many s hs
  clear hk
  unfold Dk.delete
  by_cases h1 : Dk.code m s.data.toList ≠ 0
  · rw [if_pos h1]
    obtain ⟨c, hc⟩ : ∃ c, Dk.code m s.data.toList = c := ⟨_, rfl⟩
    rw [hc] at hcall h1 ⊢
    have t1 : (c != 0) = true := bne_iff_ne.2 h1
    clear hc h1
    go_enter Tryz.func33, Tryz.ntmps33
    go_wp2_with (go_at_call 67; refine hcall.mono ?_; rintro e w' ⟨rfl, rfl⟩)
    go_ret
    exact ⟨rfl, .same h0 (Below.refl _ _)⟩
  rw [if_neg h1]
  have hc : Dk.code m s.data.toList = 0 := Decidable.not_not.1 h1
  obtain ⟨q1, q2, q3, q4, q5⟩ := Dk.code_zero hc
  rw [hc] at hcall
  obtain ⟨c0, c1, c2, c3, c4, c5, c6⟩ := hS.seven
  have hmany := hG.many
  have kw := Dr.without_any hS.row (by omega) s
  obtain ⟨fs, hfs⟩ : ∃ fs, Dk.del Dk.F.name s.data.toList m.files = fs := ⟨_, rfl⟩
  rw [hfs] at kw ⊢
  have ks := fun {w v'} hB ho => hS.step (w := w) (v' := v') (fs := fs) hG q1 hB ho
  obtain ⟨Z, hZ⟩ : ∃ Z, Dk.acc m m.done fs = Z := ⟨_, rfl⟩
  rw [hZ] at ks ⊢
  clear hfs hZ hmany q1 q2 q3 q4 q5 hc h1
  go_enter Tryz.func33, Tryz.ntmps33
  go_wp2_with (first
    | (go_at_call 67; refine hcall.mono ?_; rintro e w' ⟨rfl, rfl⟩)
    | (go_at_call 69; refine kw.mono ?_; rintro e w1 ⟨v1, rfl, o1, b1⟩)
    | (go_at_call 68; refine (ks b1 o1).mono ?_; rintro e w2 ⟨rfl, hm2⟩))
  go_ret
  exact ⟨rfl, hm2⟩
end
#print axioms Dr.create_any
#print axioms Dr.delete_any
end Go.Proofs.YtdhnkcfmjibibaaGreatDoor
/- Disks in memory (the document's): Rename. Conditions: each theorem's own hypotheses. -/
namespace Go.Proofs.YtdhnkcfmjibibaaGreatDoor
open Go.RowKit Go.Maps Go.Sort
set_option linter.unusedVariables false

/-- The load of the list of files, under a name (Rename). -/
def Dr.o44 : Op := Op.load 55 (Operand.tmp 43)
attribute [go_sem] Dr.o44
/-- A file's cells in a block. -/
def Dr.P3 (p : Nat) (nb db : ByteArray) (n : Nat) (W : World) : Prop := W.cell? ⟨p, 0, none⟩ = some (.string nb) ∧ W.cell? ⟨p, 1, none⟩ = some (.string db) ∧ W.cell? ⟨p, 2, none⟩ = some (.int .i64 n)
theorem Dr.P3.keep {p : Nat} {nb db : ByteArray} {n : Nat} {W W' : World} (h : Dr.P3 p nb db n W) (hk : W'.heap[p]? = W.heap[p]?) : Dr.P3 p nb db n W' :=
  ⟨(World.cell?_of_block hk).trans h.1, (World.cell?_of_block hk).trans h.2.1, (World.cell?_of_block hk).trans h.2.2⟩
theorem Dr.P3.blk {p : Nat} {nb db : ByteArray} {n : Nat} {W : World} {t : TypeId} (h : Blk W p t #[.string nb, .string db, .int .i64 n]) : Dr.P3 p nb db n W := ⟨h.cell 0, h.cell 1, h.cell 2⟩
section
variable {W : World} {r : Nat} {m : Dk.M} {F : Nat → Prop}
set_option maxRecDepth 100000 in
set_option maxHeartbeats 2000000 in
theorem Dr.rename_any (h : Dr.At W r m F) (hG : Dk.Good m) (s t : ByteArray) (hs : s.size ≤ 9223372036854775807) (ht : t.size ≤ 9223372036854775807) :
    Calls Tryz.prog 37 #[.pointer (some ⟨r, 0, none⟩), .string s, .string t] W fun e W' => e = .returned (.int .i64 (Dk.rename m s.data.toList t.data.toList).2) ∧ Dr.Moved W W' r F (Dk.rename m s.data.toList t.data.toList).1 := by
  have h0 := h
  obtain ⟨v, hS, rfl⟩ := h
  obtain ⟨k, hk, hcall⟩ := Dr.look_any hS hG.many s hs
  have hname : ∀ w : World, Calls Tryz.prog 72 #[.string t] w fun e w' => e = .returned (.bool (Dk.named t.data.toList)) ∧ w = w' := fun w => Dk.refNamed_any t ht _ rfl w
  unfold Dk.rename
  by_cases h1 : Dk.code m s.data.toList = 45
  · rw [if_pos h1]
    rw [h1] at hcall
    clear h1 hk hname
    go_enter Tryz.func37, Tryz.ntmps37
    go_wp2_with (go_at_call 67; refine hcall.mono ?_; rintro e w' ⟨rfl, rfl⟩)
    go_ret
    exact ⟨rfl, .same h0 (Below.refl _ _)⟩
  rw [if_neg h1]
  by_cases h2 : Dk.code m s.data.toList = 40
  · rw [if_pos (.inl h2)]
    rw [h2] at hcall
    clear h1 h2 hk hname
    go_enter Tryz.func37, Tryz.ntmps37
    go_wp2_with (go_at_call 67; refine hcall.mono ?_; rintro e w' ⟨rfl, rfl⟩)
    go_ret
    exact ⟨rfl, .same h0 (Below.refl _ _)⟩
  cases hn : Dk.named t.data.toList with
  | false =>
    rw [if_pos (.inr rfl)]
    rw [hn] at hname
    rcases (Dk.code_range m s.data.toList) with e | e | e | e
    · exact absurd e h1
    · exact absurd e h2
    all_goals
      rw [e] at hcall
      clear h1 h2 hk hn e
      go_enter Tryz.func37, Tryz.ntmps37
      go_wp2_with (first
        | (go_at_call 67; refine hcall.mono ?_; rintro e w' ⟨rfl, rfl⟩)
        | (go_at_call 72; refine (hname _).mono ?_; rintro e w' ⟨rfl, rfl⟩))
      go_ret
      exact ⟨rfl, .same h0 (Below.refl _ _)⟩
  | true =>
    rw [if_neg (fun h => by rcases h with h | h; exact h2 h; cases h)]
    rw [hn] at hname
    rcases (Dk.code_range m s.data.toList) with e | e | e | e
    · exact absurd e h1
    · exact absurd e h2
    · rw [if_pos (by rw [e]; decide), e]
      rw [e] at hcall
      clear h1 h2 hk hn e
      go_enter Tryz.func37, Tryz.ntmps37
      go_wp2_with (first
        | (go_at_call 67; refine hcall.mono ?_; rintro e w' ⟨rfl, rfl⟩)
        | (go_at_call 72; refine (hname _).mono ?_; rintro e w' ⟨rfl, rfl⟩))
      go_ret
      exact ⟨rfl, .same h0 (Below.refl _ _)⟩
    · rw [if_neg (by rw [e]; decide)]
      rw [e] at hcall
      obtain ⟨q1, q2, q3, q4, q5⟩ := Dk.code_zero e
      have hfile := hk e
      obtain ⟨f, hf⟩ : ∃ f, Dk.file m s.data.toList = f := ⟨_, rfl⟩
      rw [hf] at q3 q4 q5 hfile ⊢
      obtain ⟨g, c, nb, db, rfl, hlt, hnb, hdb, hds, c0, c1, c2⟩ := hS.file hfile
      obtain ⟨d0, d1, d2, d3, d4, d5, d6⟩ := hS.seven
      have hmany := hG.many
      obtain ⟨fs, hfs⟩ : ∃ fs, Dk.ren s.data.toList t.data.toList f m.files = fs := ⟨_, rfl⟩
      rw [hfs]
      obtain ⟨Z, hZ⟩ : ∃ Z, Dk.acc m m.done fs = Z := ⟨_, rfl⟩
      rw [hZ]
      have HFS := Lib.hid hfs
      have HZ := Lib.hid hZ
      clear h1 h2 hk hn e hfile hf hfs hZ
      go_enter Tryz.func37, Tryz.ntmps37
      go_upto_region 11 with (first
        | (go_at_call 67; refine hcall.mono ?_; rintro e w' ⟨rfl, rfl⟩)
        | (go_at_call 72; refine (hname _).mono ?_; rintro e w' ⟨rfl, rfl⟩))
      have hB1 : Below W.heap.size W (W.alloc (.cells #[.string t, .string db, .int .i64 f.sure] 83)).drew := ((Below.refl _ _).alloc (Nat.le_refl _) _).drew
      have hb1 : Blk (W.alloc (.cells #[.string t, .string db, .int .i64 f.sure] 83)) W.heap.size 83 #[.string t, .string db, .int .i64 f.sure] := Blk.new _ _ _
      obtain ⟨W1, hW1⟩ : ∃ W1, W.alloc (.cells #[.string t, .string db, .int .i64 f.sure] 83) = W1 := ⟨_, rfl⟩
      rw [hW1] at hB1 hb1 ⊢
      have hS1 := hS.later hB1 (Nat.le_refl _)
      have e1 : W1.cell? ⟨r, 1, none⟩ = some (.slice (some ⟨g, 0, none⟩) m.files.length c) := hS1.seven.2.1
      obtain ⟨p, hp⟩ : ∃ p, W.heap.size = p := ⟨_, rfl⟩
      have hrl := hS.blk.lt
      rw [hp] at hb1 ⊢
      have hpl := hb1.lt
      have S0 := Dr.P3.blk hb1
      have kw := Dr.without_any (hS1.row.keep (W' := W1.drew) fun _ _ => rfl) (by omega) s
      have hwr := Dr.with_ren (tn := t.data.toList) hG.up q3
      rw [HFS.out] at hwr
      obtain ⟨ds, hds2⟩ : ∃ ds, Dk.del Dk.F.name s.data.toList m.files = ds := ⟨_, rfl⟩
      rw [hds2] at kw hwr
      have hdl : ds.length ≤ 4096 := by rw [← hds2]; exact Nat.le_trans (List.length_filter_le _ _) hmany
      have kv : ∀ {w2 B2 v2}, Dr.Own w2 B2 v2 ds → Calls Tryz.prog 70 #[v2, .agg #[.string t, .string db, .int .i64 f.sure]] w2 fun e W' => ∃ v', e = .returned v' ∧ Dr.Own W' w2.heap.size v' fs ∧ Below w2.heap.size w2 W' := fun ho => by
        have := Dr.with_any ho (by omega) (Dk.named2 f t.data.toList) (fb := t) (fd := db) rfl hdb
        rw [hwr] at this
        exact this
      have ks : ∀ {w3 w2 v3}, Below W1.heap.size W1.drew w2 → Dr.Own w3 w2.heap.size v3 fs → Below w2.heap.size w2 w3 → Calls Tryz.prog 68 #[.pointer (some ⟨r, 0, none⟩), v3] w3 fun e W' => e = .returned (.int .i64 Z.2) ∧ Dr.P3 p t db f.sure W' ∧ Dr.Moved W W' r (Dr.foot r (.slice (some ⟨g, 0, none⟩) m.files.length c)) Z.1 := fun {w3 w2 v3} h2 ho h3 => by
        have hz1 := hB1.size
        have hz2 : W1.heap.size ≤ w2.heap.size := h2.size
        have hz3 := h3.size
        have hB3 : Below W.heap.size W w3 := (hB1.trans (h2.mono hz1)).trans (h3.mono (Nat.le_trans hz1 hz2))
        have ho3 : Dr.Own w3 W.heap.size v3 fs := ho.base fun k hk => by have := (ho.lt hk).1; omega
        refine (Dr.step_any (hS.later hB3 (Nat.le_refl _)) hG.left q1 (ho.base fun _ _ => Nat.zero_le _) (fun e => by have := (ho.lt e).1; omega)).mono ?_
        rintro e W' ⟨rfl, v2, s2, o2, hv⟩
        rw [HZ.out] at s2 ⊢
        refine ⟨rfl, (S0.keep (h2.block p hpl)).keep ((o2.block p (by omega) (by omega)).trans (h3.block p (by omega))), Dr.Moved.step hB3 ho3 s2 o2 hv⟩
      have e1d : W1.drew.cell? ⟨r, 1, none⟩ = some (.slice (some ⟨g, 0, none⟩) m.files.length c) := e1
      have S0d : Dr.P3 p t db f.sure W1.drew := S0
      clear hwr hds2 hnb hdb hds hW1 hp d0 d1 d2 d3 d4 d5 d6 c0 c1 c2 hb1 hB1 q1 q2 q3 q4 q5 hname hcall
      rw [show Op.load 55 (Operand.tmp 43) = Dr.o44 from rfl]
      go_region_held_law (fun W' => W'.cell? ⟨p, 0, none⟩ = some (.string t) ∧ W'.cell? ⟨p, 1, none⟩ = some (.string db) ∧ W'.cell? ⟨p, 2, none⟩ = some (.int .i64 (f.sure : Nat)))
        (first
          | with_reducible assumption
          | exact S0
          | exact S0d
          | exact S5
          | exact S6
          | exact S7)
        (first
          | (go_at_call 69; refine kw.mono ?_; clear kw; rintro e w2 ⟨v2, rfl, o2, b2⟩; obtain ⟨A2, C2, rfl⟩ := o2.form; have S5 : Dr.P3 p t db f.sure w2 := S0.keep (b2.block p hpl); have kv2 := kv o2)
          | (go_at_call 70; refine kv2.mono ?_; clear kv2; rintro e w3 ⟨v3, rfl, o3, b3⟩; have ks2 := ks b2 o3 b3; obtain ⟨A3, C3, rfl⟩ := o3.form; have S6 : Dr.P3 p t db f.sure w3 := S5.keep (b3.block p (by have : W1.heap.size ≤ w2.heap.size := b2.size; omega)))
          | (go_at_call 68; refine ks2.mono ?_; clear ks2; rintro e w4 ⟨rfl, S7, hm⟩))
      all_goals (try go_wp2_with fail)
      all_goals go_ret
      all_goals exact ⟨rfl, hm⟩
end
#print axioms Dr.rename_any
end Go.Proofs.YtdhnkcfmjibibaaGreatDoor
/- Disks in memory (the document's): Cut. Conditions: each theorem's own hypotheses. -/
namespace Go.Proofs.YtdhnkcfmjibibaaGreatDoor
open Go.RowKit Go.Maps Go.Sort
set_option linter.unusedVariables false

/-- The load of the list of files, under a name (Cut). -/
def Dr.o50 : Op := Op.load 55 (Operand.tmp 49)
attribute [go_sem] Dr.o50
section
variable {W : World} {r : Nat} {m : Dk.M} {F : Nat → Prop}
end
end Go.Proofs.YtdhnkcfmjibibaaGreatDoor
/- Disks in memory (the document's): Append, Sync. Conditions: each theorem's own hypotheses. -/
namespace Go.Proofs.YtdhnkcfmjibibaaGreatDoor
open Go.RowKit Go.Maps Go.Sort
set_option linter.unusedVariables false

/-- The loads of the list of files, under names (Append, Sync). -/
def Dr.o58 : Op := Op.load 55 (Operand.tmp 57)
def Dr.o36 : Op := Op.load 55 (Operand.tmp 35)
attribute [go_sem] Dr.o58 Dr.o36
theorem Dr.acc_true {m : Dk.M} (h : m.off = false) (fs : List Dk.F) : Dk.acc m true fs = (Dr.acc0 { m with files := fs }, if m.left = 1 then 45 else 0) := by
  obtain ⟨f0, cap, ag, wr, off, left, done⟩ := m
  simp only at h
  subst h
  unfold Dk.acc Dr.acc0
  simp only
  match left with
  | 0 => rfl
  | 1 => rfl
  | n + 2 =>
    rw [if_neg (by omega), if_pos (by omega), if_neg (by omega), if_neg (by omega), decide_eq_false (by omega)]
theorem Dr.acc_false {m : Dk.M} (h : m.off = false) (fs : List Dk.F) : Dk.acc m false fs = if m.left = 1 then (Dr.acc0 m, 45) else ({ Dr.acc0 m with files := fs }, 0) := by
  obtain ⟨f0, cap, ag, wr, off, left, done⟩ := m
  simp only at h
  subst h
  unfold Dk.acc Dr.acc0
  simp only
  match left with
  | 0 => rfl
  | 1 => rfl
  | n + 2 =>
    rw [if_neg (by omega), if_pos (by omega), if_neg (by omega), if_neg (by omega), decide_eq_false (by omega)]
/-- A new list is stored, behind a call that made it. -/
theorem Dr.Moved.files {W w : World} {r : Nat} {v v' : Value} {m : Dk.M} {fs : List Dk.F} (hS : Dr.Stand W r v m) (hB : Below W.heap.size W w) (ho : Dr.Own w W.heap.size v' fs) :
    Dr.Stand (w.setCell ⟨r, 1, none⟩ v') r v' { m with files := fs } ∧ (∀ W' m', Dr.Stand W' r v' m' → Dk.Only (fun k => k = r) (w.setCell ⟨r, 1, none⟩ v') W' → Dr.Moved W W' r (Dr.foot r v) m') := by
  refine ⟨(hS.later hB (Nat.le_refl _)).files (ho.base fun _ _ => Nat.zero_le _), fun W' m' hs h => ?_⟩
  have h2 : Dk.Only (fun k => k = r) w W' := (Dk.Only.setCell (F := fun k => k = r) (Dk.Only.refl _ _) (.inl rfl) _).trans h
  exact Dr.Moved.step hB ho hs h2 (.inl rfl)
theorem Dr.Moved.after {W w W' : World} {r : Nat} {v : Value} {m' : Dk.M} (h1 : Dk.Only (fun k => k = r) W w) (h : Dr.Moved w W' r (Dr.foot r v) m') : Dr.Moved W W' r (Dr.foot r v) m' := by
  obtain ⟨F', hA, ho, hf⟩ := h
  exact ⟨F', hA, (h1.wide fun k _ hk => .inl hk).trans ho, fun k hk => (hf k hk).imp id fun h => Nat.le_trans h1.size h⟩
section
variable {W : World} {r : Nat} {m : Dk.M} {F : Nat → Prop}
set_option maxRecDepth 100000 in
set_option maxHeartbeats 2000000 in
theorem Dr.append_any (h : Dr.At W r m F) (hG : Dk.Good m) (s t : ByteArray) (hs : s.size ≤ 9223372036854775807) (ht : t.size ≤ 140737488355328) :
    Calls Tryz.prog 35 #[.pointer (some ⟨r, 0, none⟩), .string s, .string t] W fun e W' => e = .returned (.int .i64 (Dk.append m s.data.toList t.data.toList).2) ∧ Dr.Moved W W' r F (Dk.append m s.data.toList t.data.toList).1 := by
  have h0 := h
  obtain ⟨v, hS, rfl⟩ := h
  obtain ⟨k, hk, hcall⟩ := Dr.look_any hS hG.many s hs
  unfold Dk.append
  by_cases h1 : Dk.code m s.data.toList ≠ 0
  · rw [if_pos h1]
    obtain ⟨c, hc⟩ : ∃ c, Dk.code m s.data.toList = c := ⟨_, rfl⟩
    rw [hc] at hcall h1 ⊢
    have t1 : (c != 0) = true := bne_iff_ne.2 h1
    clear hc h1 hk
    go_enter Tryz.func35, Tryz.ntmps35
    go_wp2_with (go_at_call 67; refine hcall.mono ?_; rintro e w' ⟨rfl, rfl⟩)
    go_ret
    exact ⟨rfl, .same h0 (Below.refl _ _)⟩
  rw [if_neg h1]
  have hc : Dk.code m s.data.toList = 0 := Decidable.not_not.1 h1
  obtain ⟨q1, q2, q3, q4, q5⟩ := Dk.code_zero hc
  have hfile := hk hc
  rw [hc] at hcall
  obtain ⟨f, hf⟩ : ∃ f, Dk.file m s.data.toList = f := ⟨_, rfl⟩
  rw [hf] at q3 q4 q5 hfile ⊢
  obtain ⟨g, c, nb, db, rfl, hlt, hnb, hdb, hds, c0, c1, c2⟩ := hS.file hfile
  obtain ⟨d0, d1, d2, d3, d4, d5, d6⟩ := hS.seven
  obtain ⟨_, hfl, hfs2⟩ := hG.file f q5
  have hmany := hG.many
  have hcap := hG.cap
  have hused := hG.used
  have htl : t.data.toList.length = t.size := (Tx.size t).symm
  rw [htl]
  clear h1 hk hfile hf hc
  obtain ⟨z, hz⟩ : ∃ z, z = db.size + t.size := ⟨_, rfl⟩
  have w1 : IntKind.i64.wrap ((db.size : Int) + (t.size : Int)) = (z : Int) := (IntWalk.i64_in _ (by omega)).trans (by omega)
  by_cases g1 : 268435456 - f.data.length < t.size
  · rw [if_pos g1]
    have u1 : decide ((268435456 : Int) < (z : Int)) = true := decide_eq_true (by omega)
    clear hz
    go_enter Tryz.func35, Tryz.ntmps35
    go_wp2_with (go_at_call 67; refine hcall.mono ?_; rintro e w' ⟨rfl, rfl⟩)
    go_ret
    exact ⟨rfl, .same h0 ((Below.refl _ _).alloc (Nat.le_refl _) _)⟩
  rw [if_neg g1]
  have u1 : decide ((268435456 : Int) < (z : Int)) = false := decide_eq_false (by omega)
  obtain ⟨u, hu⟩ : ∃ u, Dk.used m.files = u := ⟨_, rfl⟩
  obtain ⟨y, hy⟩ : ∃ y, y = u + t.size := ⟨_, rfl⟩
  rw [hu] at hused ⊢
  have w2 : IntKind.i64.wrap ((u : Int) + (t.size : Int)) = (y : Int) := (IntWalk.i64_in _ (by omega)).trans (by omega)
  have hsne : (t.data.toList ≠ [] ∧ m.cap - u < t.size) ↔ (0 < t.size ∧ m.cap < y) := by
    rw [← List.length_pos_iff, htl]
    constructor <;> rintro ⟨a, b⟩ <;> exact ⟨a, by omega⟩
  obtain ⟨W1, hW1⟩ : ∃ W1, W.alloc (.cells #[.string nb, .string db, .int .i64 f.sure] 83) = W1 := ⟨_, rfl⟩
  have hB1 : Below W.heap.size W W1 := by rw [← hW1]; exact (Below.refl _ _).alloc (Nat.le_refl _) _
  have HW1 := Lib.hid hW1
  clear hW1
  have hu1 : ∀ w, Below W.heap.size W w → Calls Tryz.prog 20 #[.pointer (some ⟨r, 0, none⟩)] w fun e w' => e = .returned (.int .i64 u) ∧ w' = w := fun w hB => by
    have := Dr.used_any (h0.later hB (Nat.le_refl _)) (by omega) hmany
    rw [hu] at this
    exact this.mono fun _ _ ⟨a, b⟩ => ⟨a, b.symm⟩
  have hu2 : ∀ n, _ := fun n => hu1 _ (below_dn hB1 n)
  clear hu1
  by_cases g2 : 0 < t.size ∧ m.cap < y
  · rw [if_pos (hsne.2 g2)]
    obtain ⟨g3, g4⟩ := g2
    have u2 : decide (0 < t.size) = true := decide_eq_true g3
    have u3 : decide (m.cap < y) = true := decide_eq_true g4
    clear hsne hz hy hu hds
    go_enter Tryz.func35, Tryz.ntmps35
    go_upto_region 7 with (go_at_call 67; refine hcall.mono ?_; rintro e w' ⟨rfl, rfl⟩)
    have e0 : W1.cell? ⟨r, 0, none⟩ = some (.int .i64 m.cap) := (hS.later hB1 (Nat.le_refl _)).seven.1
    rw [HW1.out]
    clear c0 c1 c2 d0 d1 d2 d3 d4 d5 d6
    go_quiet ((go_at_call 20; exact Calls.quiet_of_same (hu2 _)))
    go_wp2_with fail
    go_ret
    exact ⟨rfl, .same h0 (below_dn hB1 _)⟩
  rw [if_neg (fun h => g2 (hsne.1 h))]
  have hgr : (Dk.grow f t.data.toList).name = s.data.toList := q4
  obtain ⟨fs, hfs⟩ : ∃ fs, Dk.upd s.data.toList (Dk.grow f t.data.toList) m.files = fs := ⟨_, rfl⟩
  have hwr : Dr.with_ (Dk.grow f t.data.toList) false m.files = fs := by rw [Dr.with_put _ hG.up, Dr.put_upd hgr hG.up q3, hfs]
  rw [hfs, Dr.acc_true q1]
  obtain ⟨E, hE⟩ : ∃ E : Int, (if m.left = 1 then 45 else 0) = E := ⟨_, rfl⟩
  obtain ⟨M', hM⟩ : ∃ M', Dr.acc0 { m with files := fs } = M' := ⟨_, rfl⟩
  rw [hE, hM]
  have HE := Lib.hid hE
  have HM := Lib.hid hM
  clear hE hM
  obtain ⟨xb, hxb⟩ : ∃ xb, db ++ t = xb := ⟨_, rfl⟩
  have hxd : xb.data.toList = f.data ++ t.data.toList := by rw [← hxb, Tx.append, hdb]
  have kv0 : ∀ {w2 B2 v2}, Dr.Own w2 B2 v2 m.files → Calls Tryz.prog 70 #[v2, .agg #[.string nb, .string xb, .int .i64 f.sure]] w2 fun e W' => ∃ v', e = .returned v' ∧ Dr.Own W' w2.heap.size v' fs ∧ Below w2.heap.size w2 W' := fun ho => by
    have := Dr.with_any ho (by omega) (Dk.grow f t.data.toList) (fb := nb) (fd := xb) hnb hxd
    rw [hwr] at this
    exact this
  have hleft := hG.left
  clear hwr hfs hgr
  by_cases g3 : 0 < t.size
  · skip
    have u2 : decide (0 < t.size) = true := decide_eq_true g3
    have u3 : decide (m.cap < y) = false := decide_eq_false (fun h => g2 ⟨g3, h⟩)
    have hcat : ¬ 9223372036854775807 < db.size + t.size := by omega
    clear hsne hz hy hu g2 g3 q2 q3 q4 q5 hfl hfs2 hcap hused htl hG hds
    go_enter Tryz.func35, Tryz.ntmps35
    go_upto_region 7 with (go_at_call 67; refine hcall.mono ?_; rintro e w' ⟨rfl, rfl⟩)
    have e0 : W1.cell? ⟨r, 0, none⟩ = some (.int .i64 m.cap) := (hS.later hB1 (Nat.le_refl _)).seven.1
    have hb1 : Blk W1 W.heap.size 83 #[.string nb, .string db, .int .i64 f.sure] := by rw [← HW1.out]; exact Blk.new _ _ _
    obtain ⟨p, hp⟩ : ∃ p, W.heap.size = p := ⟨_, rfl⟩
    have hrl := hS.blk.lt
    rw [HW1.out]
    rw [hp] at hb1 ⊢
    have p0 := hb1.cell 0
    have p1 := hb1.cell 1
    have p2 := hb1.cell 2
    have pf := hb1.frozen 1
    simp only [List.getElem?_toArray, List.getElem?_cons_zero, List.getElem?_cons_succ] at p0 p1 p2
    clear c0 c1 c2 d0 d1 d2 d3 d4 d5 d6
    go_quiet ((go_at_call 20; exact Calls.quiet_of_same (hu2 _)))
    go_upto_region 10 with fail
    have hb2 : Blk ((W1.drewN nq).setCell ⟨p, 1, none⟩ (.string xb)) p 83 #[.string nb, .string xb, .int .i64 f.sure] := Blk.set_ (w := W1.drewN nq) (cs := #[.string nb, .string db, .int .i64 f.sure]) hb1 1 (.string xb)
    have hB2 : Below W.heap.size W ((W1.drewN nq).setCell ⟨p, 1, none⟩ (.string xb)).drew := ((below_dn hB1 nq).setCell (Nat.le_of_eq hp) _).drew
    obtain ⟨W2, hW2⟩ : ∃ W2, (W1.drewN nq).setCell ⟨p, 1, none⟩ (.string xb) = W2 := ⟨_, rfl⟩
    rw [hW2] at hb2 hB2 ⊢
    have hS2 := hS.later hB2 (Nat.le_refl _)
    have e1 : W2.cell? ⟨r, 1, none⟩ = some (.slice (some ⟨g, 0, none⟩) m.files.length c) := hS2.seven.2.1
    have e1d : W2.drew.cell? ⟨r, 1, none⟩ = some (.slice (some ⟨g, 0, none⟩) m.files.length c) := e1
    have hrp : p ≠ r := by omega
    have hpl := hb2.lt
    have hrl2 : r < W2.heap.size := hS2.blk.lt
    have S0 : Dr.Four r p nb xb f.sure W2 := ⟨hS2.blk.frozen 1, hb2.cell 0, hb2.cell 1, hb2.cell 2⟩
    have S0d : Dr.Four r p nb xb f.sure W2.drew := S0
    have kw := kv0 (hS2.row.keep (W' := W2.drew) fun _ _ => rfl)
    obtain ⟨lb, hlb⟩ : ∃ lb, decide (m.left = 1) = lb := ⟨_, rfl⟩
    have HE2 : Hid (E = if lb = true then 45 else 0) := by
      show _ = _
      rw [← HE.out, ← hlb]
      simp only [decide_eq_true_eq]
    have kf : ∀ {w3 v3}, Dr.Own w3 W2.drew.heap.size v3 fs → Below W2.drew.heap.size W2.drew w3 → Calls Tryz.prog 71 #[.pointer (some ⟨r, 0, none⟩)] (w3.setCell ⟨r, 1, none⟩ v3) fun e W' => e = .returned (.bool lb) ∧ Dr.Moved W W' r (Dr.foot r (.slice (some ⟨g, 0, none⟩) m.files.length c)) M' := fun {w3 v3} ho h3 => by
      have hz1 := hB2.size
      have ho3 : Dr.Own w3 W.heap.size v3 fs := ho.base fun k hk => by have := (ho.lt hk).1; omega
      obtain ⟨s3, close⟩ := Dr.Moved.files hS (hB2.trans (h3.mono hz1)) ho3
      have hl3 : ({ m with files := fs } : Dk.M).left ≤ 9223372036854775807 := hleft
      refine (Dr.accepted_any s3 hl3).mono ?_
      rintro e W' ⟨rfl, s4, o4⟩
      refine ⟨by rw [← hlb], ?_⟩
      rw [← HM.out]
      exact close W' _ s4 o4
    clear hW2 hp hb1 hb2 hB1 hB2 hcall hxb kv0 hrl hnb hdb hxd h0 hu2 hlb pf p0 p1 p2 e0 hS2
    rw [show Op.load 55 (Operand.tmp 57) = Dr.o58 from rfl]
    go_region_held_law (fun W' => W'.frozen? ⟨r, 1, none⟩ = false ∧ W'.cell? ⟨p, 0, none⟩ = some (.string nb) ∧ W'.cell? ⟨p, 1, none⟩ = some (.string xb) ∧ W'.cell? ⟨p, 2, none⟩ = some (.int .i64 (f.sure : Nat)))
      (first
        | with_reducible assumption
        | exact S0
        | exact S0d
        | exact S6
        | exact Dr.Four.set (by assumption) hrp _)
      (first
        | (go_at_call 70; refine kw.mono ?_; clear kw; rintro e w3 ⟨v3, rfl, o3, b3⟩; have kf2 := kf o3 b3; obtain ⟨A3, C3, rfl⟩ := o3.form; have S6 : Dr.Four r p nb xb f.sure w3 := S0.keep (b3.block r hrl2) (b3.block p hpl); have z6 : w3.cell? ⟨r, 1, none⟩ = some (.slice (some ⟨g, 0, none⟩) m.files.length c) := (World.cell?_of_block (b3.block r hrl2)).trans e1; have x6 := S6.1))
    all_goals
      have hE := HE2.out
      clear HE2 HE HM kf
      cases lb with
      | true =>
        rw [if_pos rfl] at hE
        subst hE
        go_wp2_with (go_at_call 71; refine kf2.mono ?_; rintro e w4 ⟨rfl, hm⟩)
        go_ret
        exact ⟨rfl, hm⟩
      | false =>
        rw [if_neg (by decide)] at hE
        subst hE
        go_wp2_with (go_at_call 71; refine kf2.mono ?_; rintro e w4 ⟨rfl, hm⟩)
        go_ret
        exact ⟨rfl, hm⟩
  · skip
    have u2 : decide (0 < t.size) = false := decide_eq_false g3
    have hcat : ¬ 9223372036854775807 < db.size + t.size := by omega
    clear hsne hz hy hu g2 g3 q2 q3 q4 q5 hfl hfs2 hcap hused htl hG hds
    go_enter Tryz.func35, Tryz.ntmps35
    go_upto_region 7 with (go_at_call 67; refine hcall.mono ?_; rintro e w' ⟨rfl, rfl⟩)
    have e0 : W1.cell? ⟨r, 0, none⟩ = some (.int .i64 m.cap) := (hS.later hB1 (Nat.le_refl _)).seven.1
    have hb1 : Blk W1 W.heap.size 83 #[.string nb, .string db, .int .i64 f.sure] := by rw [← HW1.out]; exact Blk.new _ _ _
    obtain ⟨p, hp⟩ : ∃ p, W.heap.size = p := ⟨_, rfl⟩
    have hrl := hS.blk.lt
    rw [HW1.out]
    rw [hp] at hb1 ⊢
    have p0 := hb1.cell 0
    have p1 := hb1.cell 1
    have p2 := hb1.cell 2
    have pf := hb1.frozen 1
    simp only [List.getElem?_toArray, List.getElem?_cons_zero, List.getElem?_cons_succ] at p0 p1 p2
    clear c0 c1 c2 d0 d1 d2 d3 d4 d5 d6
    go_quiet (fail)
    go_upto_region 10 with fail
    have hb2 : Blk ((W1.drewN nq).setCell ⟨p, 1, none⟩ (.string xb)) p 83 #[.string nb, .string xb, .int .i64 f.sure] := Blk.set_ (w := W1.drewN nq) (cs := #[.string nb, .string db, .int .i64 f.sure]) hb1 1 (.string xb)
    have hB2 : Below W.heap.size W ((W1.drewN nq).setCell ⟨p, 1, none⟩ (.string xb)).drew := ((below_dn hB1 nq).setCell (Nat.le_of_eq hp) _).drew
    obtain ⟨W2, hW2⟩ : ∃ W2, (W1.drewN nq).setCell ⟨p, 1, none⟩ (.string xb) = W2 := ⟨_, rfl⟩
    rw [hW2] at hb2 hB2 ⊢
    have hS2 := hS.later hB2 (Nat.le_refl _)
    have e1 : W2.cell? ⟨r, 1, none⟩ = some (.slice (some ⟨g, 0, none⟩) m.files.length c) := hS2.seven.2.1
    have e1d : W2.drew.cell? ⟨r, 1, none⟩ = some (.slice (some ⟨g, 0, none⟩) m.files.length c) := e1
    have hrp : p ≠ r := by omega
    have hpl := hb2.lt
    have hrl2 : r < W2.heap.size := hS2.blk.lt
    have S0 : Dr.Four r p nb xb f.sure W2 := ⟨hS2.blk.frozen 1, hb2.cell 0, hb2.cell 1, hb2.cell 2⟩
    have S0d : Dr.Four r p nb xb f.sure W2.drew := S0
    have kw := kv0 (hS2.row.keep (W' := W2.drew) fun _ _ => rfl)
    obtain ⟨lb, hlb⟩ : ∃ lb, decide (m.left = 1) = lb := ⟨_, rfl⟩
    have HE2 : Hid (E = if lb = true then 45 else 0) := by
      show _ = _
      rw [← HE.out, ← hlb]
      simp only [decide_eq_true_eq]
    have kf : ∀ {w3 v3}, Dr.Own w3 W2.drew.heap.size v3 fs → Below W2.drew.heap.size W2.drew w3 → Calls Tryz.prog 71 #[.pointer (some ⟨r, 0, none⟩)] (w3.setCell ⟨r, 1, none⟩ v3) fun e W' => e = .returned (.bool lb) ∧ Dr.Moved W W' r (Dr.foot r (.slice (some ⟨g, 0, none⟩) m.files.length c)) M' := fun {w3 v3} ho h3 => by
      have hz1 := hB2.size
      have ho3 : Dr.Own w3 W.heap.size v3 fs := ho.base fun k hk => by have := (ho.lt hk).1; omega
      obtain ⟨s3, close⟩ := Dr.Moved.files hS (hB2.trans (h3.mono hz1)) ho3
      have hl3 : ({ m with files := fs } : Dk.M).left ≤ 9223372036854775807 := hleft
      refine (Dr.accepted_any s3 hl3).mono ?_
      rintro e W' ⟨rfl, s4, o4⟩
      refine ⟨by rw [← hlb], ?_⟩
      rw [← HM.out]
      exact close W' _ s4 o4
    clear hW2 hp hb1 hb2 hB1 hB2 hcall hxb kv0 hrl hnb hdb hxd h0 hu2 hlb pf p0 p1 p2 e0 hS2
    rw [show Op.load 55 (Operand.tmp 57) = Dr.o58 from rfl]
    go_region_held_law (fun W' => W'.frozen? ⟨r, 1, none⟩ = false ∧ W'.cell? ⟨p, 0, none⟩ = some (.string nb) ∧ W'.cell? ⟨p, 1, none⟩ = some (.string xb) ∧ W'.cell? ⟨p, 2, none⟩ = some (.int .i64 (f.sure : Nat)))
      (first
        | with_reducible assumption
        | exact S0
        | exact S0d
        | exact S6
        | exact Dr.Four.set (by assumption) hrp _)
      (first
        | (go_at_call 70; refine kw.mono ?_; clear kw; rintro e w3 ⟨v3, rfl, o3, b3⟩; have kf2 := kf o3 b3; obtain ⟨A3, C3, rfl⟩ := o3.form; have S6 : Dr.Four r p nb xb f.sure w3 := S0.keep (b3.block r hrl2) (b3.block p hpl); have z6 : w3.cell? ⟨r, 1, none⟩ = some (.slice (some ⟨g, 0, none⟩) m.files.length c) := (World.cell?_of_block (b3.block r hrl2)).trans e1; have x6 := S6.1))
    all_goals
      have hE := HE2.out
      clear HE2 HE HM kf
      cases lb with
      | true =>
        rw [if_pos rfl] at hE
        subst hE
        go_wp2_with (go_at_call 71; refine kf2.mono ?_; rintro e w4 ⟨rfl, hm⟩)
        go_ret
        exact ⟨rfl, hm⟩
      | false =>
        rw [if_neg (by decide)] at hE
        subst hE
        go_wp2_with (go_at_call 71; refine kf2.mono ?_; rintro e w4 ⟨rfl, hm⟩)
        go_ret
        exact ⟨rfl, hm⟩
set_option maxRecDepth 100000 in
set_option maxHeartbeats 2000000 in
theorem Dr.sync_any (h : Dr.At W r m F) (hG : Dk.Good m) (s : ByteArray) (hs : s.size ≤ 9223372036854775807) :
    Calls Tryz.prog 36 #[.pointer (some ⟨r, 0, none⟩), .string s] W fun e W' => e = .returned (.int .i64 (Dk.sync m s.data.toList).2) ∧ Dr.Moved W W' r F (Dk.sync m s.data.toList).1 := by
  have h0 := h
  obtain ⟨v, hS, rfl⟩ := h
  obtain ⟨k, hk, hcall⟩ := Dr.look_any hS hG.many s hs
  unfold Dk.sync
  by_cases h1 : Dk.code m s.data.toList ≠ 0
  · rw [if_pos h1]
    obtain ⟨c, hc⟩ : ∃ c, Dk.code m s.data.toList = c := ⟨_, rfl⟩
    rw [hc] at hcall h1 ⊢
    have t1 : (c != 0) = true := bne_iff_ne.2 h1
    clear hc h1 hk
    go_enter Tryz.func36, Tryz.ntmps36
    go_wp2_with (go_at_call 67; refine hcall.mono ?_; rintro e w' ⟨rfl, rfl⟩)
    go_ret
    exact ⟨rfl, .same h0 (Below.refl _ _)⟩
  rw [if_neg h1]
  have hc : Dk.code m s.data.toList = 0 := Decidable.not_not.1 h1
  obtain ⟨q1, q2, q3, q4, q5⟩ := Dk.code_zero hc
  have hfile := hk hc
  rw [hc] at hcall
  obtain ⟨f, hf⟩ : ∃ f, Dk.file m s.data.toList = f := ⟨_, rfl⟩
  rw [hf] at q3 q4 q5 hfile ⊢
  have hmany := hG.many
  have ka := Dr.accepted_any hS hG.left
  rw [Dr.acc_false q1]
  by_cases hl : m.left = 1
  · rw [if_pos hl]
    rw [decide_eq_true hl] at ka
    obtain ⟨M', hM⟩ : ∃ M', Dr.acc0 m = M' := ⟨_, rfl⟩
    rw [hM] at ka ⊢
    clear h1 hk hfile hf hc q1 q2 q3 q4 q5 hl hM
    go_enter Tryz.func36, Tryz.ntmps36
    go_wp2_with (first
      | (go_at_call 67; refine hcall.mono ?_; rintro e w' ⟨rfl, rfl⟩)
      | (go_at_call 71; refine ka.mono ?_; rintro e w1 ⟨rfl, s1, o1⟩))
    go_ret
    exact ⟨rfl, _, ⟨v, s1, rfl⟩, o1.wide fun k _ e => .inl e, fun k hk => .inl hk⟩
  rw [if_neg hl]
  rw [decide_eq_false hl] at ka
  obtain ⟨g, c, nb, db, hv, hlt, hnb, hdb, hds, _⟩ := hS.file hfile
  obtain ⟨fs, hfs⟩ : ∃ fs, Dk.upd s.data.toList (Dk.synced f) m.files = fs := ⟨_, rfl⟩
  have hwr : Dr.with_ (Dk.synced f) false m.files = fs := by rw [Dr.with_put _ hG.up, Dr.put_upd (f := Dk.synced f) q4 hG.up q3, hfs]
  rw [hfs]
  obtain ⟨M0, hM0⟩ : ∃ M0, Dr.acc0 m = M0 := ⟨_, rfl⟩
  have hM0f : M0.files = m.files := by rw [← hM0]; rfl
  rw [hM0] at ka ⊢
  obtain ⟨M', hM⟩ : ∃ M', ({ M0 with files := fs } : Dk.M) = M' := ⟨_, rfl⟩
  rw [hM]
  have HM := Lib.hid hM
  have HMF := Lib.hid hM0f
  have kv0 : ∀ {w2 B2 v2}, Dr.Own w2 B2 v2 m.files → Calls Tryz.prog 70 #[v2, .agg #[.string nb, .string db, .int .i64 db.size]] w2 fun e W' => ∃ v', e = .returned v' ∧ Dr.Own W' w2.heap.size v' fs ∧ Below w2.heap.size w2 W' := fun ho => by
    have := Dr.with_any ho (by omega) (Dk.synced f) (fb := nb) (fd := db) hnb hdb
    rw [hwr, show (Dk.synced f).sure = db.size from hds.symm] at this
    exact this
  have hrow : ∀ {w1}, Dr.Stand w1 r v M0 → w1.cell? ⟨g, k * 3, none⟩ = some (.string nb) ∧ w1.cell? ⟨g, k * 3 + 1, none⟩ = some (.string db) ∧ w1.cell? ⟨g, k * 3 + 2, none⟩ = some (.int .i64 f.sure) := fun h => by
    obtain ⟨g2, c2', e, q0, q1, q2⟩ := h.row.at_ (by rw [HMF.out]; exact hfile)
    rw [hv, hM0f] at e
    injection e with e
    injection e with e
    injection e with e
    subst e
    rw [Tx.v_eq hnb] at q0
    rw [Tx.v_eq hdb] at q1
    exact ⟨q0, q1, q2⟩
  subst hv
  clear h1 hk hfile hf hc q1 q2 q3 q4 q5 hl hM hM0 hM0f hnb hdb hds hwr hfs h0
  go_enter Tryz.func36, Tryz.ntmps36
  go_upto_region 9 with (first
    | (go_at_call 67; refine hcall.mono ?_; rintro e w' ⟨rfl, rfl⟩)
    | (go_at_call 71; refine ka.mono ?_; rintro e w1 ⟨rfl, s1, o1⟩; obtain ⟨c0, c1, c2⟩ := hrow s1; have d1 := s1.seven.2.1))
  have hb2 : Blk (w1.alloc (.cells #[.string nb, .string db, .int .i64 db.size] 83)) w1.heap.size 83 #[.string nb, .string db, .int .i64 db.size] := Blk.new _ _ _
  have hB2 : Below w1.heap.size w1 (w1.alloc (.cells #[.string nb, .string db, .int .i64 db.size] 83)).drew := ((Below.refl _ _).alloc (Nat.le_refl _) _).drew
  obtain ⟨W2, hW2⟩ : ∃ W2, w1.alloc (.cells #[.string nb, .string db, .int .i64 db.size] 83) = W2 := ⟨_, rfl⟩
  rw [hW2] at hb2 hB2 ⊢
  have hS2 := s1.later hB2 (Nat.le_refl _)
  have e1 : W2.cell? ⟨r, 1, none⟩ = some (.slice (some ⟨g, 0, none⟩) m.files.length c) := hS2.seven.2.1
  have e1d : W2.drew.cell? ⟨r, 1, none⟩ = some (.slice (some ⟨g, 0, none⟩) m.files.length c) := e1
  have hrl := s1.blk.lt
  obtain ⟨p, hp⟩ : ∃ p, w1.heap.size = p := ⟨_, rfl⟩
  rw [hp] at hb2 ⊢
  have hrp : p ≠ r := by omega
  have hpl := hb2.lt
  have hrl2 : r < W2.heap.size := hS2.blk.lt
  have S0 : Dr.Four r p nb db db.size W2 := ⟨hS2.blk.frozen 1, hb2.cell 0, hb2.cell 1, hb2.cell 2⟩
  have S0d : Dr.Four r p nb db db.size W2.drew := S0
  have hrw2 : Dr.Own W2 0 (.slice (some ⟨g, 0, none⟩) m.files.length c) m.files := by have := hS2.row; rw [HMF.out] at this; exact this.keep fun _ _ => rfl
  have kw := kv0 (hrw2.keep (W' := W2.drew) fun _ _ => rfl)
  have kf : ∀ {w3 v3}, Dr.Own w3 W2.drew.heap.size v3 fs → Below W2.drew.heap.size W2.drew w3 → Dr.Moved W (w3.setCell ⟨r, 1, none⟩ v3) r (Dr.foot r (.slice (some ⟨g, 0, none⟩) m.files.length c)) M' := fun {w3 v3} ho h3 => by
    have hz1 := hB2.size
    have ho3 : Dr.Own w3 w1.heap.size v3 fs := ho.base fun k hk => by have := (ho.lt hk).1; omega
    obtain ⟨s3, close⟩ := Dr.Moved.files s1 (hB2.trans (h3.mono hz1)) ho3
    rw [HM.out] at s3
    exact Dr.Moved.after o1 (close _ _ s3 (Dk.Only.refl _ _))
  clear hW2 hp hb2 hB2 hcall kv0 hrl hrow c0 c1 c2 d1 ka s1 o1 hrw2
  rw [show Op.load 55 (Operand.tmp 35) = Dr.o36 from rfl]
  go_region_held_law (fun W' => W'.frozen? ⟨r, 1, none⟩ = false ∧ W'.cell? ⟨p, 0, none⟩ = some (.string nb) ∧ W'.cell? ⟨p, 1, none⟩ = some (.string db) ∧ W'.cell? ⟨p, 2, none⟩ = some (.int .i64 (db.size : Nat)))
    (first
      | with_reducible assumption
      | exact S0
      | exact S0d
      | exact S6
      | exact Dr.Four.set (by assumption) hrp _)
    (first
      | (go_at_call 70; refine kw.mono ?_; clear kw; rintro e w3 ⟨v3, rfl, o3, b3⟩; have hm := kf o3 b3; obtain ⟨A3, C3, rfl⟩ := o3.form; have S6 : Dr.Four r p nb db db.size w3 := S0.keep (b3.block r hrl2) (b3.block p hpl); have z6 : w3.cell? ⟨r, 1, none⟩ = some (.slice (some ⟨g, 0, none⟩) m.files.length c) := (World.cell?_of_block (b3.block r hrl2)).trans e1; have x6 := S6.1))
  all_goals (try go_wp2_with fail)
  all_goals go_ret
  all_goals exact ⟨rfl, hm⟩
end
#print axioms Dr.sync_any
#print axioms Dr.append_any
end Go.Proofs.YtdhnkcfmjibibaaGreatDoor
