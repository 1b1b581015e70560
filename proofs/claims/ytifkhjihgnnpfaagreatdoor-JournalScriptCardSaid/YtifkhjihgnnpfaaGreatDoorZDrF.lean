/- Disks in memory (the document's): find, look, Size, Read, Arm, accepted, step. Conditions: each theorem's own hypotheses. -/
import Derived.Test.YtifkhjihgnnpfaaGreatDoorZDwB
import Derived.Test.YtifkhjihgnnpfaaGreatDoorZDkAA
import Derived.Deep.RegionHeld3
import Derived.Deep.DeepCutAuto
namespace Go.Proofs.YtifkhjihgnnpfaaGreatDoor
open Go.RowKit Go.Maps Go.Sort
set_option linter.unusedVariables false

/-- None of the first k has this name. -/
def Dr.No (L : List Dk.F) (k : Nat) (nm : List UInt8) : Prop := ∀ j, j < k → ∀ f, L[j]? = some f → f.name ≠ nm
theorem Dr.No.succ {L : List Dk.F} {k : Nat} {nm : List UInt8} (h : Dr.No L k nm) {f : Dk.F} (hf : L[k]? = some f) (hn : f.name ≠ nm) : Dr.No L (k + 1) nm := fun j hj g hg => by
  by_cases e : j = k
  · subst e
    rw [hf] at hg
    obtain rfl := Option.some.inj hg
    exact hn
  · exact h j (by omega) g hg
/-- Where a name's file stands. -/
theorem Dr.place : ∀ (L : List Dk.F) (nm : List UInt8) (f : Dk.F), Dk.get Dk.F.name nm L = some f → ∃ k, L[k]? = some f ∧ Dr.No L k nm
  | [], nm, f, h => by cases h
  | g :: L, nm, f, h => by
    unfold Dk.get at h
    rw [List.find?_cons] at h
    cases hb : (g.name == nm) with
    | true =>
      rw [hb] at h
      exact ⟨0, h, fun j hj => absurd hj (Nat.not_lt_zero _)⟩
    | false =>
      rw [hb] at h
      obtain ⟨k, h1, h2⟩ := Dr.place L nm f h
      refine ⟨k + 1, h1, fun j hj x hx => ?_⟩
      cases j with
      | zero =>
        obtain rfl := Option.some.inj hx
        exact fun e => by rw [e, beq_self_eq_true] at hb; cases hb
      | succ j => exact h2 j (by omega) x hx
theorem Dr.No.only {L : List Dk.F} {k j : Nat} {nm : List UInt8} {f g : Dk.F} (h : Dr.No L k nm) (hf : L[k]? = some f) (hn : f.name = nm) (h2 : Dr.No L j nm) (hg : L[j]? = some g) (hm : g.name = nm) : j = k := by
  by_cases e1 : j < k
  · exact absurd hm (h j e1 g hg)
  by_cases e2 : k < j
  · exact absurd hn (h2 k e2 f hf)
  omega
set_option maxRecDepth 100000 in
theorem Dr.find_any {W : World} {r : Nat} {v : Value} {m : Dk.M} (h : Dr.Stand W r v m) (hl : m.files.length ≤ 4096) (nb : ByteArray) (R : Int)
    (hR : ∀ k, Dr.No m.files k nb.data.toList → (k = m.files.length → R = -1) ∧ (∀ f, m.files[k]? = some f → f.name = nb.data.toList → R = k)) :
    Calls Tryz.prog 95 #[.pointer (some ⟨r, 0, none⟩), .string nb] W fun e W' => e = .returned (.int .i64 R) ∧ W = W' := by
  obtain ⟨c0, c1, c2, c3, c4, c5, c6⟩ := h.seven
  obtain ⟨a, c, hv⟩ := h.row.form
  rw [hv] at c1
  have HR : Hid _ := Lib.hid hR
  clear hR c0 c2 c3 c4 c5 c6
  go_enter Tryz.func95, Tryz.ntmps95
  go_wp2_with fail
  go_loop [5] (fun i => ∃ k : Nat, k ≤ m.files.length ∧ i = .int .i64 k ∧ Dr.No m.files k nb.data.toList) (fun i => m.files.length - (intOf i).toNat)
  case atStart => exact ⟨0, Nat.zero_le _, rfl, fun j hj => by omega⟩
  case round =>
    obtain ⟨k, hk, rfl, HN⟩ := hrel
    by_cases hlt : k < m.files.length
    · obtain ⟨f, hf⟩ : ∃ f, m.files[k]? = some f := ⟨_, List.getElem?_eq_getElem hlt⟩
      obtain ⟨g, c', hv2, q0, q1, q2⟩ := h.row.at_ hf
      rw [hv] at hv2
      injection hv2 with hv2 _ hc
      subst hv2 hc
      obtain ⟨xb, hxb, _⟩ := Tx.of f.name
      rw [Tx.v_eq hxb] at q0
      by_cases he : f.name = nb.data.toList
      · have hb : (xb.toList == nb.toList) = true := by rw [Tx.beq, hxb]; exact decide_eq_true he
        have hr : R = k := (HR.out k HN).2 f hf he
        subst hr
        clear hf hxb he q1 q2 HN HR hv
        go_wp2_with fail
        go_ret
        exact ⟨rfl, rfl⟩
      · have hb : (xb.toList == nb.toList) = false := by rw [Tx.beq, hxb]; exact decide_eq_false he
        have HN2 := HN.succ hf he
        clear hf hxb he q1 q2 HN hv
        go_wp2_with fail
        go_round
        case rel => exact ⟨k + 1, hlt, by go_num, HN2⟩
        case measure => simp [intOf]; omega
    · have hr : R = -1 := (HR.out k HN).1 (by omega)
      obtain rfl : k = m.files.length := by omega
      subst hr
      clear HN HR hv
      go_wp2_with fail
      go_ret
      exact ⟨rfl, rfl⟩
set_option maxRecDepth 100000 in
theorem Dr.look_any {W : World} {r : Nat} {v : Value} {m : Dk.M} (h : Dr.Stand W r v m) (hl : m.files.length ≤ 4096) (nb : ByteArray) (hs : nb.size ≤ 9223372036854775807) :
    ∃ k : Nat, (Dk.code m nb.data.toList = 0 → m.files[k]? = some (Dk.file m nb.data.toList)) ∧
      Calls Tryz.prog 64 #[.pointer (some ⟨r, 0, none⟩), .string nb] W fun e W' => e = .returned (.tuple #[.int .i64 k, .int .i64 (Dk.code m nb.data.toList)]) ∧ W = W' := by
  obtain ⟨c0, c1, c2, c3, c4, c5, c6⟩ := h.seven
  have hname : ∀ w : World, Calls Tryz.prog 94 #[.string nb] w fun e w' => e = .returned (.bool (Dk.named nb.data.toList)) ∧ w = w' := fun w => Dk.refNamed_any nb hs _ rfl w
  unfold Dk.code
  cases ho : m.off with
  | true =>
    rw [ho] at c2
    rw [if_pos rfl]
    refine ⟨0, (fun h => by cases h), ?_⟩
    go_enter Tryz.func64, Tryz.ntmps64
    go_wp2_with fail
    go_ret2
    exact ⟨rfl, rfl⟩
  | false =>
    rw [ho] at c2
    rw [if_neg (by decide)]
    cases hn : Dk.named nb.data.toList with
    | false =>
      rw [hn] at hname
      rw [if_neg (by decide)]
      refine ⟨0, (fun h => by cases h), ?_⟩
      clear hn
      go_enter Tryz.func64, Tryz.ntmps64
      go_wp2_with (go_at_call 94; refine (hname _).mono ?_; rintro e w' ⟨rfl, rfl⟩)
      go_ret2
      exact ⟨rfl, rfl⟩
    | true =>
      rw [hn] at hname
      rw [if_pos rfl]
      cases hg : Dk.get Dk.F.name nb.data.toList m.files with
      | none =>
        have hall := Dk.get_none hg
        have hf := Dr.find_any h hl nb (-1) fun k _ => ⟨fun _ => rfl, fun f hf e => absurd e (hall f (List.mem_of_getElem? hf))⟩
        refine ⟨0, (fun h => by cases h), ?_⟩
        rw [show (none : Option Dk.F).isSome = false from rfl, if_neg (by decide)]
        clear hn hg hall
        go_enter Tryz.func64, Tryz.ntmps64
        go_wp2_with (first
          | (go_at_call 94; refine (hname _).mono ?_; rintro e w' ⟨rfl, rfl⟩)
          | (go_at_call 95; refine hf.mono ?_; rintro e w' ⟨rfl, rfl⟩))
        go_ret2
        exact ⟨rfl, rfl⟩
      | some f =>
        obtain ⟨k, hk1, hk2⟩ := Dr.place _ _ _ hg
        have hfn := (Dk.get_mem hg).2
        have hlt := (List.getElem?_eq_some_iff.1 hk1).1
        have hf := Dr.find_any h hl nb k fun j hj => ⟨fun e => absurd hfn (hj k (by omega) f hk1), fun x hx e => by rw [hk2.only hk1 hfn hj hx e]⟩
        refine ⟨k, fun _ => ?_, ?_⟩
        · rw [hk1]; unfold Dk.file; rw [hg]; rfl
        rw [show (some f).isSome = true from rfl, if_pos rfl]
        clear hn hg hk1 hk2 hfn
        go_enter Tryz.func64, Tryz.ntmps64
        go_wp2_with (first
          | (go_at_call 94; refine (hname _).mono ?_; rintro e w' ⟨rfl, rfl⟩)
          | (go_at_call 95; refine hf.mono ?_; rintro e w' ⟨rfl, rfl⟩))
        go_ret2
        exact ⟨rfl, rfl⟩
theorem Dk.data_file {m : Dk.M} {nm : List UInt8} (h : Dk.code m nm = 0) : Dk.data m nm = (Dk.file m nm).data := by
  obtain ⟨_, _, h3, _⟩ := Dk.code_zero h
  unfold Dk.data
  rw [h3]; rfl
/-- A file's cells, by its place. -/
theorem Dr.Stand.file {W : World} {r : Nat} {v : Value} {m : Dk.M} (h : Dr.Stand W r v m) {k : Nat} {f : Dk.F} (hk : m.files[k]? = some f) : ∃ g c nb db, v = .slice (some ⟨g, 0, none⟩) m.files.length c ∧ k < m.files.length ∧ nb.data.toList = f.name ∧ db.data.toList = f.data ∧ db.size = f.data.length ∧
    W.cell? ⟨g, k * 3, none⟩ = some (.string nb) ∧ W.cell? ⟨g, k * 3 + 1, none⟩ = some (.string db) ∧ W.cell? ⟨g, k * 3 + 2, none⟩ = some (.int .i64 f.sure) := by
  obtain ⟨g, c, hv, q0, q1, q2⟩ := h.row.at_ hk
  obtain ⟨nb, hnb, _⟩ := Tx.of f.name
  obtain ⟨db, hdb, hds⟩ := Tx.of f.data
  rw [Tx.v_eq hnb] at q0
  rw [Tx.v_eq hdb] at q1
  exact ⟨g, c, nb, db, hv, (List.getElem?_eq_some_iff.1 hk).1, hnb, hdb, hds, q0, q1, q2⟩
section
variable {W : World} {r : Nat} {m : Dk.M} {F : Nat → Prop}
set_option maxRecDepth 100000 in
theorem Dr.size_any (h : Dr.At W r m F) (hl : m.files.length ≤ 4096) (s : ByteArray) (hs : s.size ≤ 9223372036854775807) :
    Calls Tryz.prog 52 #[.pointer (some ⟨r, 0, none⟩), .string s] W fun e W' => e = .returned (Dk.sizeV m s.data.toList) ∧ W = W' := by
  obtain ⟨v, hS, rfl⟩ := h
  obtain ⟨c0, c1, c2, c3, c4, c5, c6⟩ := hS.seven
  obtain ⟨k, hk, hcall⟩ := Dr.look_any hS hl s hs
  unfold Dk.sizeV
  by_cases h1 : Dk.code m s.data.toList = 0
  · obtain ⟨g, c, nb, db, rfl, hlt, _, _, hds, q0, q1, q2⟩ := hS.file (hk h1)
    rw [if_pos h1, Dk.data_file h1, ← hds]
    rw [h1] at hcall
    clear hk h1 hds q0 q2 c0 c2 c3 c4 c5 c6
    go_enter Tryz.func52, Tryz.ntmps52
    go_wp2_with (go_at_call 64; refine hcall.mono ?_; rintro e w' ⟨rfl, rfl⟩)
    go_ret2
    exact ⟨rfl, rfl⟩
  · rw [if_neg h1]
    obtain ⟨c, hc⟩ : ∃ c, Dk.code m s.data.toList = c := ⟨_, rfl⟩
    rw [hc] at hcall h1 ⊢
    have u1 : (c != 0) = true := by rw [bne_iff_ne]; exact h1
    clear hc hk
    go_enter Tryz.func52, Tryz.ntmps52
    go_wp2_with (go_at_call 64; refine hcall.mono ?_; rintro e w' ⟨rfl, rfl⟩)
    go_ret2
    exact ⟨rfl, rfl⟩
set_option maxRecDepth 100000 in
set_option maxHeartbeats 1000000 in
theorem Dr.read_any (h : Dr.At W r m F) (hG : Dk.Good m) (s : ByteArray) (hs : s.size ≤ 9223372036854775807) (i n : Int) (hi : -9223372036854775808 ≤ i ∧ i < 9223372036854775808) (hn : -9223372036854775808 ≤ n ∧ n < 9223372036854775808) :
    Calls Tryz.prog 58 #[.pointer (some ⟨r, 0, none⟩), .string s, .int .i64 i, .int .i64 n] W fun e W' => e = .returned (Dk.readV m s.data.toList i n) ∧ W = W' := by
  obtain ⟨v, hS, rfl⟩ := h
  obtain ⟨c0, c1, c2, c3, c4, c5, c6⟩ := hS.seven
  obtain ⟨k, hk, hcall⟩ := Dr.look_any hS hG.many s hs
  unfold Dk.readV
  by_cases h1 : Dk.code m s.data.toList = 0
  · obtain ⟨g, c, nb, db, rfl, hlt, _, hdb, hds, q0, q1, q2⟩ := hS.file (hk h1)
    obtain ⟨_, hx2, _⟩ := hG.file _ (List.mem_of_getElem? (hk h1))
    rw [if_pos h1, Dk.data_file h1, ← hds]
    rw [h1] at hcall
    rw [← hds] at hx2
    obtain ⟨l, hl⟩ : ∃ l, (Dk.file m s.data.toList).data = l := ⟨_, rfl⟩
    rw [hl] at hdb ⊢
    clear hk h1 hds q0 q2 c0 c2 c3 c4 c5 c6 hl
    have HDB := Lib.hid hdb
    clear hdb
    by_cases g1 : i < 0
    · rw [if_pos (.inl g1)]
      have u1 : decide (i < 0) = true := decide_eq_true g1
      go_enter Tryz.func58, Tryz.ntmps58
      go_wp2_with (go_at_call 64; refine hcall.mono ?_; rintro e w' ⟨rfl, rfl⟩)
      go_ret2
      exact ⟨rfl, rfl⟩
    have u1 : decide (i < 0) = false := decide_eq_false g1
    by_cases g2 : n < 0
    · rw [if_pos (.inr (.inl g2))]
      have u2 : decide (n < 0) = true := decide_eq_true g2
      go_enter Tryz.func58, Tryz.ntmps58
      go_wp2_with (go_at_call 64; refine hcall.mono ?_; rintro e w' ⟨rfl, rfl⟩)
      go_ret2
      exact ⟨rfl, rfl⟩
    have u2 : decide (n < 0) = false := decide_eq_false g2
    obtain ⟨i, rfl⟩ := Int.eq_ofNat_of_zero_le (Int.not_lt.1 g1)
    obtain ⟨n, rfl⟩ := Int.eq_ofNat_of_zero_le (Int.not_lt.1 g2)
    by_cases g3 : db.size < i
    · rw [if_pos (by omega)]
      have u3 : decide (db.size < i) = true := decide_eq_true g3
      go_enter Tryz.func58, Tryz.ntmps58
      go_wp2_with (go_at_call 64; refine hcall.mono ?_; rintro e w' ⟨rfl, rfl⟩)
      go_ret2
      exact ⟨rfl, rfl⟩
    have u3 : decide (db.size < i) = false := decide_eq_false g3
    obtain ⟨z, hz⟩ : ∃ z, z = db.size - i := ⟨_, rfl⟩
    have w1 : IntKind.i64.wrap ((db.size : Int) - (i : Int)) = (z : Int) := (IntWalk.i64_in _ (by omega)).trans (by omega)
    by_cases g4 : z < n
    · rw [if_pos (by omega)]
      have u4 : decide (z < n) = true := decide_eq_true g4
      clear hz
      go_enter Tryz.func58, Tryz.ntmps58
      go_wp2_with (go_at_call 64; refine hcall.mono ?_; rintro e w' ⟨rfl, rfl⟩)
      go_ret2
      exact ⟨rfl, rfl⟩
    have u4 : decide (z < n) = false := decide_eq_false g4
    rw [if_neg (by omega)]
    obtain ⟨j, hj⟩ : ∃ j, j = i + n := ⟨_, rfl⟩
    have w2 : IntKind.i64.wrap ((i : Int) + (n : Int)) = (j : Int) := (IntWalk.i64_in _ (by omega)).trans (by omega)
    have s1 : (i : Int) ≤ (j : Int) := by omega
    have s2 : (j : Int) ≤ (db.size : Int) := by omega
    rw [Int.toNat_natCast, Int.toNat_natCast]
    have hx : Tx.v ((l.drop i).take n) = .string (db.extract i j) := Tx.v_eq (by rw [Tx.extract, HDB.out, hj, Nat.add_sub_cancel_left])
    rw [hx]
    clear hj hz hx g3 g4
    go_enter Tryz.func58, Tryz.ntmps58
    go_wp2_with (go_at_call 64; refine hcall.mono ?_; rintro e w' ⟨rfl, rfl⟩)
    go_ret2
    exact ⟨rfl, rfl⟩
  · rw [if_neg h1]
    obtain ⟨c, hc⟩ : ∃ c, Dk.code m s.data.toList = c := ⟨_, rfl⟩
    rw [hc] at hcall h1 ⊢
    have u1 : (c != 0) = true := by rw [bne_iff_ne]; exact h1
    clear hc hk
    go_enter Tryz.func58, Tryz.ntmps58
    go_wp2_with (go_at_call 64; refine hcall.mono ?_; rintro e w' ⟨rfl, rfl⟩)
    go_ret2
    exact ⟨rfl, rfl⟩
end
/-- A cell of the disk's own block is written. -/
theorem Dr.Stand.set {W : World} {r : Nat} {v : Value} {m : Dk.M} (h : Dr.Stand W r v m) (i : Nat) (u : Value) (m' : Dk.M) (hc : (Dr.cells v m).setIfInBounds i u = Dr.cells v m') (hm : m'.files = m.files) : Dr.Stand (W.setCell ⟨r, i, none⟩ u) r v m' := by
  refine ⟨hc ▸ h.blk.set_ i u, ?_⟩
  rw [hm]
  exact h.row.keep fun k hk => Below.heap_setCell W ⟨r, i, none⟩ u k (h.lone k hk)
/-- Another list of files. -/
theorem Dr.Stand.files {W : World} {r : Nat} {v v' : Value} {m : Dk.M} {fs : List Dk.F} (h : Dr.Stand W r v m) (ho : Dr.Own W 0 v' fs) : Dr.Stand (W.setCell ⟨r, 1, none⟩ v') r v' { m with files := fs } := by
  have hl : ∀ k, v'.ownBlock = some k → k ≠ r := by
    rintro k hk rfl
    obtain ⟨cur, hg⟩ := ho.type hk
    have hb := h.blk
    unfold Blk at hb
    rw [hb] at hg
    injection hg with hg
    injection hg with _ hg _
    cases hg
  exact ⟨h.blk.set_ 1 v', ho.keep fun k hk => Below.heap_setCell W ⟨r, 1, none⟩ v' k (hl k hk)⟩
section
variable {W : World} {r : Nat} {m : Dk.M} {F : Nat → Prop}
set_option maxRecDepth 100000 in
set_option maxHeartbeats 1000000 in
theorem Dr.arm_any (h : Dr.At W r m F) (n : Int) (hn : -9223372036854775808 ≤ n ∧ n < 9223372036854775808) (done : Bool) :
    Calls Tryz.prog 32 #[.pointer (some ⟨r, 0, none⟩), .int .i64 n, .bool done] W fun e W' => e = .returned (.tuple #[]) ∧ Dr.At W' r (Dk.arm m n done) F ∧ Dk.Only F W W' := by
  obtain ⟨v, hS, rfl⟩ := h
  obtain ⟨c0, c1, c2, c3, c4, c5, c6⟩ := hS.seven
  unfold Dk.arm
  cases ho : m.off with
  | true =>
    rw [ho] at c2
    rw [if_pos rfl]
    go_enter Tryz.func32, Tryz.ntmps32
    go_wp2_with fail
    refine bodyPost_ret (results_none rfl _ _ _) rfl ?_
    exact ⟨rfl, ⟨v, hS, rfl⟩, Dk.Only.refl _ _⟩
  | false =>
    rw [ho] at c2
    rw [if_neg (by decide)]
    have f3 := hS.blk.frozen 3
    have f4 := hS.blk.frozen 4
    by_cases hp : 0 < n
    · obtain ⟨q, rfl⟩ := Int.eq_ofNat_of_zero_le (show 0 ≤ n by omega)
      rw [Int.toNat_natCast]
      have u1 : decide (0 < q) = true := decide_eq_true (by omega)
      clear hp c0 c1 c5 c6
      go_enter Tryz.func32, Tryz.ntmps32
      go_wp2_with fail
      go_end0
      refine ⟨rfl, ⟨v, ?_, rfl⟩, (((Dk.Only.refl _ _).setCell (.inl (.inl rfl)) _).setCell (.inl (.inl rfl)) _).setCell (.inl (.inl rfl)) _⟩
      have h0 := hS.set 3 (.int .i64 0) { m with left := 0 } rfl rfl
      have h1 := h0.set 3 (.int .i64 q) { m with left := q } rfl rfl
      have h2 := h1.set 4 (.bool done) { m with left := q, done := done } rfl rfl
      rw [ho] at h2
      exact h2
    · have hz : n.toNat = 0 := by omega
      rw [hz]
      have u1 : decide (0 < n) = false := decide_eq_false hp
      clear hp c0 c1 c5 c6 hz
      go_enter Tryz.func32, Tryz.ntmps32
      go_wp2_with fail
      go_end0
      refine ⟨rfl, ⟨v, ?_, rfl⟩, ((Dk.Only.refl _ _).setCell (.inl (.inl rfl)) _).setCell (.inl (.inl rfl)) _⟩
      have h0 := hS.set 3 (.int .i64 0) { m with left := 0 } rfl rfl
      have h2 := h0.set 4 (.bool done) { m with left := 0, done := done } rfl rfl
      rw [ho] at h2
      exact h2
end
#print axioms Dr.read_any
#print axioms Dr.arm_any
end Go.Proofs.YtifkhjihgnnpfaaGreatDoor
/- Disks in memory (the document's): without, with, accepted, step. Conditions: each theorem's own hypotheses. -/
namespace Go.Proofs.YtifkhjihgnnpfaaGreatDoor
open Go.RowKit Go.Maps Go.Sort
set_option linter.unusedVariables false

theorem Dr.Own.lt {W : World} {B : Nat} {v : Value} {l : List Dk.F} (h : Dr.Own W B v l) {k : Nat} (hk : v.ownBlock = some k) : B ≤ k ∧ k < W.heap.size := World.ownsRow.lt h k hk
theorem Dr.Own.below {W W' : World} {B : Nat} {v : Value} {l : List Dk.F} (h : Dr.Own W B v l) (hB : Below W.heap.size W W') : Dr.Own W' B v l := h.keep fun k hk => hB.block k (h.lt hk).2
/-- A file's cells, by its place in a row. -/
theorem Dr.Own.three {W : World} {B : Nat} {v : Value} {l : List Dk.F} (h : Dr.Own W B v l) {k : Nat} {f : Dk.F} (hk : l[k]? = some f) : ∃ g c nb db, v = .slice (some ⟨g, 0, none⟩) l.length c ∧ k < l.length ∧ nb.data.toList = f.name ∧ db.data.toList = f.data ∧ db.size = f.data.length ∧
    W.cell? ⟨g, k * 3, none⟩ = some (.string nb) ∧ W.cell? ⟨g, k * 3 + 1, none⟩ = some (.string db) ∧ W.cell? ⟨g, k * 3 + 2, none⟩ = some (.int .i64 f.sure) := by
  obtain ⟨g, c, hv, q0, q1, q2⟩ := h.at_ hk
  obtain ⟨nb, hnb, _⟩ := Tx.of f.name
  obtain ⟨db, hdb, hds⟩ := Tx.of f.data
  rw [Tx.v_eq hnb] at q0
  rw [Tx.v_eq hdb] at q1
  exact ⟨g, c, nb, db, hv, (List.getElem?_eq_some_iff.1 hk).1, hnb, hdb, hds, q0, q1, q2⟩
theorem Dr.one_cells (w : World) {nb db : ByteArray} {f : Dk.F} (h1 : nb.data.toList = f.name) (h2 : db.data.toList = f.data) : ∀ j u, (Dr.cellsOf [f])[j]? = some u → (w.alloc (.cells #[.string nb, .string db, .int .i64 f.sure] 83)).cell? ((⟨w.heap.size, 0, none⟩ : Addr).add j) = some u :=
  Dr.news (Tx.v_eq h1) (Tx.v_eq h2) (Blk.new w _ _)
theorem Dr.del_take {L : List Dk.F} {k : Nat} {f : Dk.F} (h : L[k]? = some f) (nm : List UInt8) : Dk.del Dk.F.name nm (L.take (k + 1)) = Dk.del Dk.F.name nm (L.take k) ++ (if f.name = nm then [] else [f]) := by
  unfold Dk.del
  rw [List.take_add_one, h, List.filter_append]
  congr 1
  show List.filter _ [f] = _
  rw [List.filter_cons]
  by_cases e : f.name = nm
  · rw [if_pos e, e]; simp
  · rw [if_neg e]; simp [e]
/-- A list with a file set in: from some place on. -/
def Dr.with_ (f : Dk.F) : Bool → List Dk.F → List Dk.F
  | q, [] => if q = true then [] else [f]
  | q, g :: l => (if q = false ∧ bytesBefore g.name f.name = false then [f] else []) ++ (if g.name = f.name then [] else [g]) ++ Dr.with_ f (q || !bytesBefore g.name f.name) l
theorem Dr.with_true (f : Dk.F) : ∀ l, Dr.with_ f true l = Dk.del Dk.F.name f.name l
  | [] => rfl
  | g :: l => by
    show _ ++ _ ++ Dr.with_ f true l = _
    rw [Dr.with_true f l, if_neg (fun h => by cases h.1)]
    unfold Dk.del
    rw [List.filter_cons]
    by_cases e : g.name = f.name
    · rw [if_pos e]; simp [e]
    · rw [if_neg e]; simp [e]
theorem Dr.with_put (f : Dk.F) : ∀ {l : List Dk.F}, Dk.Up Dk.F.name l → Dr.with_ f false l = Dk.put Dk.F.name f l
  | [], _ => rfl
  | g :: l, h => by
    have hp := List.pairwise_cons.1 h
    unfold Dr.with_ Dk.put
    cases hb : bytesBefore g.name f.name with
    | true =>
      have hne : g.name ≠ f.name := fun e => by rw [e, WideAt.bytes_irrefl] at hb; cases hb
      have hnb : bytesBefore f.name g.name = false := by
        cases h2 : bytesBefore f.name g.name with
        | false => rfl
        | true =>
          have := WideShapes.bytes_trans _ _ _ hb h2
          rw [WideAt.bytes_irrefl] at this
          cases this
      rw [if_neg (fun h => by cases h.2), if_neg hne]
      show [] ++ [g] ++ Dr.with_ f false l = _
      rw [Dr.with_put f hp.2]
      unfold Dk.put Dk.del
      rw [List.filter_cons]
      have : (!(g.name == f.name)) = true := by simp [hne]
      rw [if_pos this]
      show _ = (if bytesBefore f.name g.name = true then _ else _)
      rw [if_neg (by rw [hnb]; decide)]
      rfl
    | false =>
      rw [if_pos ⟨rfl, rfl⟩]
      show [f] ++ _ ++ Dr.with_ f true l = _
      rw [Dr.with_true]
      have hins : ∀ r : List Dk.F, (∀ y ∈ r, bytesBefore f.name y.name = true) → Dk.ins Dk.F.name f r = f :: r := by
        intro r hr
        cases r with
        | nil => rfl
        | cons y r =>
          show (if bytesBefore f.name y.name = true then _ else _) = _
          rw [if_pos (hr y (List.mem_cons_self ..))]
      by_cases e : g.name = f.name
      · rw [if_pos e]
        have hd : Dk.del Dk.F.name f.name (g :: l) = Dk.del Dk.F.name f.name l := by unfold Dk.del; rw [List.filter_cons]; simp [e]
        rw [hd, hins _ fun y hy => by rw [← e]; exact hp.1 y ((Dk.mem_del Dk.F.name).1 hy).1]
        rfl
      · rw [if_neg e]
        have hfg : bytesBefore f.name g.name = true := (WideAt.bytes_total _ _ (fun h => e h.symm)).resolve_right (by rw [hb]; decide)
        have hd : Dk.del Dk.F.name f.name (g :: l) = g :: Dk.del Dk.F.name f.name l := by unfold Dk.del; rw [List.filter_cons]; simp [e]
        rw [hd, hins _ fun y hy => by
          rcases List.mem_cons.1 hy with rfl | hy
          · exact hfg
          · exact WideShapes.bytes_trans _ _ _ hfg (hp.1 y ((Dk.mem_del Dk.F.name).1 hy).1)]
        rfl
theorem Dr.with_len (f : Dk.F) : ∀ (q : Bool) (l : List Dk.F), (Dr.with_ f q l).length ≤ l.length + 1
  | q, [] => by unfold Dr.with_; split <;> simp
  | q, g :: l => by
    cases q with
    | true =>
      rw [Dr.with_true]
      exact Nat.le_trans (List.length_filter_le _ _) (Nat.le_succ _)
    | false =>
      unfold Dr.with_
      cases hb : bytesBefore g.name f.name with
      | true =>
        rw [if_neg (fun h => by cases h.2)]
        have := Dr.with_len f false l
        show ([] ++ _ ++ Dr.with_ f false l).length ≤ _
        rw [List.length_append, List.nil_append, List.length_cons]
        have : (if g.name = f.name then [] else [g] : List Dk.F).length ≤ 1 := by split <;> simp
        omega
      | false =>
        rw [if_pos ⟨rfl, rfl⟩]
        show ([f] ++ _ ++ Dr.with_ f true l).length ≤ _
        rw [Dr.with_true, List.length_append, List.length_append, List.length_cons]
        have h1 : (if g.name = f.name then [] else [g] : List Dk.F).length ≤ 1 := by split <;> simp
        have h2 : (Dk.del Dk.F.name f.name l).length ≤ l.length := List.length_filter_le _ _
        simp only [List.length_cons, List.length_nil]
        omega
theorem Dr.run_geq {P : Program} (a b : ByteArray) (t : TypeId) (q : Bool) (hq : Op.bytesLess a.toList b.toList = q) (W : World) : (binOp .geq t (.string a) (.string b)).run P W = .ok (.bool (!q)) W := by
  have h : binOp .geq t (.string a) (.string b) = pure (.bool (!Op.bytesLess a.toList b.toList)) := by simp [binOp, Op.stringOp]
  rw [h, hq]
  rfl
/-- The loop of with: the list, the boxed file, what is made. -/
structure Dr.WSt (W wr : World) (p B : Nat) (v : Value) (L : List Dk.F) (box : Array Value) (o : Value) (acc : List Dk.F) : Prop where
  row : Dr.Own wr B v L
  low : ∀ k, v.ownBlock = some k → k < p
  box : Blk wr p 83 box
  own : Dr.Own wr (p + 1) o acc
  below : Below p W wr
theorem Dr.WSt.dn {W wr : World} {p B : Nat} {v o : Value} {L acc : List Dk.F} {box : Array Value} (h : Dr.WSt W wr p B v L box o acc) (n : Nat) : Dr.WSt W (wr.drewN n) p B v L box o acc :=
  ⟨h.row.keep fun _ _ => rfl, h.low, h.box, h.own.keep fun _ _ => rfl, below_dn h.below n⟩
theorem Dr.WSt.more {W wr w2 : World} {p B : Nat} {v o v2 : Value} {L acc : List Dk.F} {box : Array Value} (h : Dr.WSt W wr p B v L box o acc) {ob : Obj} {x : Dk.F}
    (ho : w2.ownsRow (p + 1) 83 3 v2 (acc.length + 1) (Dr.cellsOf acc ++ Dr.cellsOf [x])) (hg : (wr.alloc ob).grownBy w2 o.ownBlock) : Dr.WSt W w2 p B v L box v2 (acc ++ [x]) := by
  have hpl := h.box.lt
  refine ⟨h.row.keep fun k hk => ?_, h.low, ?_, ?_, ?_⟩
  · have hkp := h.low k hk
    exact (hg.block k (by simp; omega) fun e => by have := (h.own.lt e.symm).1; omega).trans (Below.heap_alloc wr ob k (by omega))
  · exact (h.box.alloc ob).grown hg fun e => by have := (h.own.lt e.symm).1; omega
  · unfold Dr.Own
    rw [List.length_append, Dr.cellsOf_append]
    exact ho
  · exact (h.below.alloc (by omega) ob).grown hg (by simp; omega) fun q hq => by have := (h.own.lt hq).1; omega
set_option maxRecDepth 100000 in
set_option maxHeartbeats 4000000 in
theorem Dr.with_any {W : World} {B : Nat} {v : Value} {L : List Dk.F} (h : Dr.Own W B v L) (hl : L.length ≤ 1000000000) (f : Dk.F) {fb fd : ByteArray} (hfb : fb.data.toList = f.name) (hfd : fd.data.toList = f.data) :
    Calls Tryz.prog 66 #[v, .agg #[.string fb, .string fd, .int .i64 f.sure]] W fun e W' => ∃ v', e = .returned v' ∧ Dr.Own W' W.heap.size v' (Dr.with_ f false L) ∧ Below W.heap.size W W' := by
  obtain ⟨i0, hi, hz0, hz1, hz2⟩ := info_parts Dr.info
  obtain ⟨Z, hZ⟩ : ∃ Z, Dr.with_ f false L = Z := ⟨_, rfl⟩
  have hZl : Z.length ≤ L.length + 1 := by rw [← hZ]; exact Dr.with_len f false L
  have HZ := Lib.hid hZ
  rw [hZ]
  clear hZ
  have hst : Dr.WSt W (W.alloc (.cells #[.string fb, .string fd, .int .i64 f.sure] 83)) W.heap.size B v L #[.string fb, .string fd, .int .i64 f.sure] (.slice none 0 0) [] :=
    ⟨h.alloc _, fun k hk => (h.lt hk).2, Blk.new _ _ _, Dr.Own.nil _ _, (Below.refl _ _).alloc (Nat.le_refl _) _⟩
  obtain ⟨a, c, rfl⟩ := h.form
  have hone : ∀ w : World, _ := fun w => Dr.one_cells w hfb hfd
  have HFB := Lib.hid hfb
  clear h hfb hfd
  go_enter Tryz.func66, Tryz.ntmps66
  go_wp2_with fail
  obtain ⟨p, hp⟩ : ∃ p, W.heap.size = p := ⟨_, rfl⟩
  rw [hp] at hst ⊢
  have HPW := Lib.hid hp
  clear hp
  go_loopw [5, 6, 7] (fun o q i wr => ∃ (k : Nat) (acc : List Dk.F) (b : Bool), k ≤ L.length ∧ i = .int .i64 k ∧ q = .bool b ∧ Dr.WSt W wr p B (.slice a L.length c) L #[.string fb, .string fd, .int .i64 f.sure] o acc ∧ Hid (acc ++ Dr.with_ f b (L.drop k) = Z)) (fun _ _ i _ => L.length - (intOf i).toNat)
  case atStart => exact ⟨0, [], false, Nat.zero_le _, rfl, rfl, hst, Lib.hid (by rw [List.nil_append]; exact HZ.out)⟩
  case round =>
    clear hst
    obtain ⟨k, acc, q, hk, rfl, rfl, hS, HA⟩ := hrel
    have hal : acc.length ≤ L.length + 1 := by
      have := congrArg List.length HA.out
      rw [List.length_append] at this
      omega
    obtain ⟨oa, oc, rfl⟩ := hS.own.form
    have b0 := hS.box.cell 0
    have b1 := hS.box.cell 1
    have b2 := hS.box.cell 2
    simp only [List.getElem?_toArray, List.getElem?_cons_zero, List.getElem?_cons_succ] at b0 b1 b2
    by_cases hlt : k < L.length
    · obtain ⟨x, hx⟩ : ∃ x, L[k]? = some x := ⟨_, List.getElem?_eq_getElem hlt⟩
      have hdr : L.drop k = x :: L.drop (k + 1) := by
        rw [List.drop_eq_getElem_cons hlt]
        rw [List.getElem?_eq_getElem hlt] at hx
        rw [Option.some.inj hx]
      obtain ⟨g, c', xb, db, hv, _, hxb, hdb, _, c0, c1, c2⟩ := hS.row.three hx
      injection hv with hv1 _ hv2
      subst hv1 hv2
      have hone2 : ∀ w : World, _ := fun w => Dr.one_cells w hxb hdb
      obtain ⟨bb, hbb⟩ : ∃ bb, bytesBefore x.name f.name = bb := ⟨_, rfl⟩
      have t1 : Op.bytesLess xb.toList fb.toList = bb := by rw [Dk.less_eq, ByteArray.toList_eq, ByteArray.toList_eq, hxb, HFB.out]; exact hbb
      have t3 : ∀ w, _ := fun w => Dr.run_geq (P := Tryz.prog) xb fb 9 bb t1 w
      obtain ⟨ee, hee⟩ : ∃ ee, decide (x.name = f.name) = ee := ⟨_, rfl⟩
      have t2 : (xb.toList == fb.toList) = ee := by rw [Tx.beq, hxb, HFB.out]; exact hee
      have HA2 : Hid (acc ++ ((if q = false ∧ bb = false then [f] else []) ++ (if ee = true then [] else [x]) ++ Dr.with_ f (q || !bb) (L.drop (k + 1))) = Z) := by
        have := HA.out
        rw [hdr] at this
        unfold Dr.with_ at this
        rw [hbb] at this
        rw [← hee]
        simp only [decide_eq_true_eq]
        exact this
      have hrd : ∀ {w2 o acc}, Dr.WSt W w2 p B (.slice (some ⟨g, 0, none⟩) L.length c) L #[.string fb, .string fd, .int .i64 f.sure] o acc → w2.cell? ⟨g, k * 3, none⟩ = some (.string xb) ∧ w2.cell? ⟨g, k * 3 + 1, none⟩ = some (.string db) ∧ w2.cell? ⟨g, k * 3 + 2, none⟩ = some (.int .i64 x.sure) := fun h => by
        obtain ⟨g2, c2', e, q0, q1, q2⟩ := h.row.at_ hx
        injection e with e
        injection e with e
        injection e with e
        subst e
        rw [Tx.v_eq hxb] at q0
        rw [Tx.v_eq hdb] at q1
        exact ⟨q0, q1, q2⟩
      have hbox : ∀ {w2 v o acc}, Dr.WSt W w2 p B v L #[.string fb, .string fd, .int .i64 f.sure] o acc → w2.cell? ⟨p, 0, none⟩ = some (.string fb) ∧ w2.cell? ⟨p, 1, none⟩ = some (.string fd) ∧ w2.cell? ⟨p, 2, none⟩ = some (.int .i64 f.sure) := fun h => ⟨h.box.cell 0, h.box.cell 1, h.box.cell 2⟩
      have hplt := hS.box.lt
      clear hx hdr hxb hdb hbb hee HA
      cases q with
      | true =>
        go_wp2_with fail
        go_quiet (fail)
        go_wp2_with fail
        go_quiet (fail)
        cases ee with
        | true =>
          have HA3 : Hid (acc ++ Dr.with_ f true (L.drop (k + 1)) = Z) := Lib.hid (by simpa using HA2.out)
          clear HA2 hrd hbox
          go_wp2_with fail
          go_roundw
          case rel => exact ⟨k + 1, acc, true, hlt, by go_num, rfl, hS.dn _, HA3⟩
          case measure => simp [intOf]; omega
        | false =>
          have HA3 : Hid ((acc ++ [x]) ++ Dr.with_ f true (L.drop (k + 1)) = Z) := Lib.hid (by simpa using HA2.out)
          clear HA2 hrd hbox
          have hsz := (hS).box.lt
          go_wp2_with (at_builtin; refine wpList_append_own _ rfl (.tmp 38) (.tmp 43) 45 rfl (p + 1) 83 i0 (.agg #[.string ⟨#[]⟩, .string ⟨#[]⟩, .int .i64 0]) 3 40 Tryz.underlying45 hi hz0 hz1 hz2 rfl (by decide) _ _ _ rfl (World.ownsRow.alloc (hS.dn _).own _) ⟨_, 0, none⟩ 1 1 (Dr.cellsOf [x]) rfl rfl (hone2 _) (Dr.cellsOf_one _) (by unfold maxLen; (try simp only [List.length_append, List.length_cons, List.length_nil]); omega) (by omega) (by (try simp); omega) ?_; intro v3 w3 hown3 hgrow3 _)
          go_roundw
          case rel => exact ⟨k + 1, acc ++ [x], true, hlt, by go_num, rfl, (hS.dn _).more hown3 hgrow3, HA3⟩
          case measure => simp [intOf]; omega
      | false =>
        cases bb with
        | true =>
          go_wp2_with fail
          go_quiet (fail)
          go_wp2_with fail
          go_quiet (fail)
          cases ee with
          | true =>
            have HA3 : Hid (acc ++ Dr.with_ f false (L.drop (k + 1)) = Z) := Lib.hid (by simpa using HA2.out)
            clear HA2 hrd hbox
            go_wp2_with fail
            go_roundw
            case rel => exact ⟨k + 1, acc, false, hlt, by go_num, rfl, hS.dn _, HA3⟩
            case measure => simp [intOf]; omega
          | false =>
            have HA3 : Hid ((acc ++ [x]) ++ Dr.with_ f false (L.drop (k + 1)) = Z) := Lib.hid (by simpa using HA2.out)
            clear HA2 hrd hbox
            have hsz := (hS).box.lt
            go_wp2_with (at_builtin; refine wpList_append_own _ rfl (.tmp 38) (.tmp 43) 45 rfl (p + 1) 83 i0 (.agg #[.string ⟨#[]⟩, .string ⟨#[]⟩, .int .i64 0]) 3 40 Tryz.underlying45 hi hz0 hz1 hz2 rfl (by decide) _ _ _ rfl (World.ownsRow.alloc (hS.dn _).own _) ⟨_, 0, none⟩ 1 1 (Dr.cellsOf [x]) rfl rfl (hone2 _) (Dr.cellsOf_one _) (by unfold maxLen; (try simp only [List.length_append, List.length_cons, List.length_nil]); omega) (by omega) (by (try simp); omega) ?_; intro v3 w3 hown3 hgrow3 _)
            go_roundw
            case rel => exact ⟨k + 1, acc ++ [x], false, hlt, by go_num, rfl, (hS.dn _).more hown3 hgrow3, HA3⟩
            case measure => simp [intOf]; omega
        | false =>
          obtain ⟨acc2, HAC⟩ : ∃ acc2, Hid (acc ++ [f] = acc2) := ⟨_, Lib.hid rfl⟩
          have hal2 : acc2.length ≤ L.length + 2 := by rw [← HAC.out]; simp; omega
          go_wp2_with fail
          go_quiet (fail)
          go_wp2_with (at_builtin; refine wpList_append_own _ rfl (.tmp 26) (.tmp 28) 45 rfl (p + 1) 83 i0 (.agg #[.string ⟨#[]⟩, .string ⟨#[]⟩, .int .i64 0]) 3 40 Tryz.underlying45 hi hz0 hz1 hz2 rfl (by decide) _ _ _ rfl (World.ownsRow.alloc (hS.dn _).own _) ⟨_, 0, none⟩ 1 1 (Dr.cellsOf [f]) rfl rfl (hone _) (Dr.cellsOf_one _) (by unfold maxLen; (try simp only [List.length_append, List.length_cons, List.length_nil]); omega) (by omega) (by (try simp); omega) ?_; intro v2 w2 hown2 hgrow2 _; have S2 := (hS.dn _).more hown2 hgrow2; rw [HAC.out] at S2; obtain ⟨d0, d1, d2⟩ := hrd S2; obtain ⟨e0, e1, e2⟩ := hbox S2; obtain ⟨oa2, oc2, rfl⟩ := S2.own.form; clear c0 c1 c2 b0 b1 b2)
          go_quiet (fail)
          cases ee with
          | true =>
            have HA3 : Hid (acc2 ++ Dr.with_ f true (L.drop (k + 1)) = Z) := Lib.hid (by rw [← HAC.out]; simpa using HA2.out)
            clear HA2 hrd hbox
            go_wp2_with fail
            go_roundw
            case rel => exact ⟨k + 1, acc2, true, hlt, by go_num, rfl, S2.dn _, HA3⟩
            case measure => simp [intOf]; omega
          | false =>
            have HA3 : Hid ((acc2 ++ [x]) ++ Dr.with_ f true (L.drop (k + 1)) = Z) := Lib.hid (by rw [← HAC.out]; simpa using HA2.out)
            clear HA2 hrd hbox
            have hsz := (S2).box.lt
            go_wp2_with (at_builtin; refine wpList_append_own _ rfl (.tmp 38) (.tmp 43) 45 rfl (p + 1) 83 i0 (.agg #[.string ⟨#[]⟩, .string ⟨#[]⟩, .int .i64 0]) 3 40 Tryz.underlying45 hi hz0 hz1 hz2 rfl (by decide) _ _ _ rfl (World.ownsRow.alloc (S2.dn _).own _) ⟨_, 0, none⟩ 1 1 (Dr.cellsOf [x]) rfl rfl (hone2 _) (Dr.cellsOf_one _) (by unfold maxLen; (try simp only [List.length_append, List.length_cons, List.length_nil]); omega) (by omega) (by (try simp); omega) ?_; intro v3 w3 hown3 hgrow3 _)
            go_roundw
            case rel => exact ⟨k + 1, acc2 ++ [x], true, hlt, by go_num, rfl, (S2.dn _).more hown3 hgrow3, HA3⟩
            case measure => simp [intOf]; omega
    · obtain rfl : k = L.length := by omega
      have HA3 : Hid (acc ++ Dr.with_ f q [] = Z) := Lib.hid (by have := HA.out; rw [List.drop_length] at this; exact this)
      clear HA
      have hplt := hS.box.lt
      cases q with
      | true =>
        have hz := HA3.out
        unfold Dr.with_ at hz
        rw [if_pos rfl, List.append_nil] at hz
        subst hz
        clear HZ HA3
        go_wp2_with fail
        go_ret
        refine ⟨_, rfl, hS.own.base fun q hq => ?_, ?_⟩
        · have h1 := (hS.own.lt hq).1
          have h2 := HPW.out
          omega
        · rw [HPW.out]; exact hS.below
      | false =>
        have hz := HA3.out
        unfold Dr.with_ at hz
        rw [if_neg (by decide)] at hz
        subst hz
        clear HZ HA3
        go_wp2_with (at_builtin; refine wpList_append_own _ rfl (.tmp 47) (.tmp 49) 45 rfl (p + 1) 83 i0 (.agg #[.string ⟨#[]⟩, .string ⟨#[]⟩, .int .i64 0]) 3 40 Tryz.underlying45 hi hz0 hz1 hz2 rfl (by decide) _ _ _ rfl (World.ownsRow.alloc hS.own _) ⟨_, 0, none⟩ 1 1 (Dr.cellsOf [f]) rfl rfl (hone _) (Dr.cellsOf_one _) (by unfold maxLen; (try simp only [List.length_append, List.length_cons, List.length_nil]); omega) (by omega) (by (try simp); omega) ?_; intro v2 w2 hown2 hgrow2 _; have S2 := hS.more hown2 hgrow2)
        go_ret
        refine ⟨_, rfl, S2.own.base fun q hq => ?_, ?_⟩
        · have h1 := (S2.own.lt hq).1
          have h2 := HPW.out
          omega
        · rw [HPW.out]; exact S2.below
#print axioms Dr.with_any
end Go.Proofs.YtifkhjihgnnpfaaGreatDoor
