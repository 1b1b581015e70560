/- Reading numbers one behind the other: the plain function. No conditions but each theorem's own. -/
import Derived.Test.YtdhnkcfmjibibaaGreatDoorPv
import Derived.Test.YtdhnkcfmjibibaaGreatDoorMfI
import Derived.Test.YtdhnkcfmjibibaaGreatDoorSealB
import Derived.Deep.QuietTactic
import Derived.BigQuiet
import Derived.OwnWalk
import Derived.Test.YtdhnkcfmjibibaaGreatDoorZMfE
namespace Go.Proofs.YtdhnkcfmjibibaaGreatDoor
set_option linter.unusedSimpArgs false

theorem Sl.varAt_len : ∀ f i v (l : List UInt8), (Sl.varAt f i v l).code = 0 → i < (Sl.varAt f i v l).len ∧ (Sl.varAt f i v l).len ≤ i + l.length
  | 0, _, _, _ => fun h => by simp [Sl.varAt] at h
  | _ + 1, _, _, [] => fun h => by simp [Sl.varAt] at h
  | f + 1, i, v, c :: l => fun h => by
    unfold Sl.varAt at h ⊢
    by_cases h1 : i = 9 ∧ 1 < c.toNat
    · rw [if_pos h1] at h; simp at h
    · rw [if_neg h1] at h ⊢
      by_cases h2 : c.toNat < 128
      · rw [if_pos h2] at h ⊢
        by_cases h3 : c.toNat = 0 ∧ 0 < i
        · rw [if_pos h3] at h; simp at h
        · rw [if_neg h3] at h ⊢
          simp only [List.length_cons]; omega
      · rw [if_neg h2] at h ⊢
        have := Sl.varAt_len f _ _ l h
        simp only [List.length_cons]; omega
theorem Sl.var_len {l : List UInt8} (h : (Sl.var l).code = 0) : 0 < (Sl.var l).len ∧ (Sl.var l).len ≤ l.length := by
  have := Sl.varAt_len 10 0 0 l h
  unfold Sl.var
  omega

/-- What reading numbers gives: a refusal's code, the numbers, the place behind them. -/
structure Mf.Tk where
  code : Nat
  vals : List Nat
  at_ : Nat
/-- The next number behind what has been read. -/
def Mf.tkStep (l : List UInt8) (most : Nat) (T : Mf.Tk) : Mf.Tk :=
  if ¬ T.code = 0 then ⟨T.code, [], 0⟩
  else if ¬ (Sl.var (l.drop T.at_)).code = 0 then ⟨(Sl.var (l.drop T.at_)).code, [], 0⟩
  else if most < (Sl.var (l.drop T.at_)).val then ⟨80, [], 0⟩
  else ⟨0, T.vals ++ [(Sl.var (l.drop T.at_)).val], T.at_ + (Sl.var (l.drop T.at_)).len⟩
/-- n numbers from a place on, each at most so great; c: refused already. -/
def Mf.take (l : List UInt8) (most c a : Nat) : Nat → Mf.Tk
  | 0 => ⟨c, [], a⟩
  | k + 1 => Mf.tkStep l most (Mf.take l most c a k)

theorem Mf.tkStep_bad {l : List UInt8} {most : Nat} {T : Mf.Tk} (h : T.code ≠ 0) : (Mf.tkStep l most T).code = T.code := by unfold Mf.tkStep; rw [if_pos h]
theorem Mf.take_bad {l : List UInt8} {most c a k : Nat} (h : (Mf.take l most c a k).code ≠ 0) : ∀ j, (Mf.take l most c a (k + j)).code = (Mf.take l most c a k).code
  | 0 => rfl
  | j + 1 => by
    rw [← Nat.add_assoc, Mf.take]
    have := Mf.take_bad h j
    rw [Mf.tkStep_bad (by rw [this]; exact h), this]
theorem Mf.take_fine {l : List UInt8} {most c a : Nat} : ∀ {k : Nat}, (Mf.take l most c a k).code = 0 → ∀ j, j ≤ k → (Mf.take l most c a j).code = 0 := by
  intro k h j hj
  by_cases e : (Mf.take l most c a j).code = 0
  · exact e
  · have := Mf.take_bad e (k - j)
    rw [show j + (k - j) = k by omega, h] at this
    exact this.symm
/-- Fine so far: as many numbers, none too great, the place within. -/
theorem Mf.take_ok {l : List UInt8} {most c a : Nat} (ha : a ≤ l.length) : ∀ {k : Nat}, (Mf.take l most c a k).code = 0 → (Mf.take l most c a k).vals.length = k ∧ (∀ v ∈ (Mf.take l most c a k).vals, v ≤ most) ∧ a ≤ (Mf.take l most c a k).at_ ∧ (Mf.take l most c a k).at_ ≤ l.length
  | 0 => fun _ => ⟨rfl, fun v hv => by simp [Mf.take] at hv, Nat.le_refl _, ha⟩
  | k + 1 => fun h => by
    have h0 := Mf.take_fine h k (by omega)
    obtain ⟨i1, i2, i3, i4⟩ := Mf.take_ok ha h0
    rw [Mf.take] at h ⊢
    unfold Mf.tkStep at h ⊢
    rw [if_neg (by simpa using h0)] at h ⊢
    by_cases h1 : (Sl.var (l.drop (Mf.take l most c a k).at_)).code = 0
    · rw [if_neg (by simpa using h1)] at h ⊢
      by_cases h2 : most < (Sl.var (l.drop (Mf.take l most c a k).at_)).val
      · rw [if_pos h2] at h; simp at h
      · rw [if_neg h2]
        have := Sl.var_len h1
        rw [List.length_drop] at this
        refine ⟨by simp [i1], fun v hv => ?_, by show a ≤ _ + _; omega, by show _ + _ ≤ l.length; omega⟩
        rcases List.mem_append.1 hv with hv | hv
        · exact i2 v hv
        · simp only [List.mem_singleton] at hv; omega
    · rw [if_pos h1] at h; simp at h; exact absurd h h1

/-- Reading on. -/
theorem Mf.take_add {l : List UInt8} {most c a j : Nat} (h : (Mf.take l most c a j).code = 0) : ∀ k, (Mf.take l most c a (j + k)).code = (Mf.take l most 0 (Mf.take l most c a j).at_ k).code ∧
    ((Mf.take l most c a (j + k)).code = 0 → (Mf.take l most c a (j + k)).vals = (Mf.take l most c a j).vals ++ (Mf.take l most 0 (Mf.take l most c a j).at_ k).vals ∧ (Mf.take l most c a (j + k)).at_ = (Mf.take l most 0 (Mf.take l most c a j).at_ k).at_)
  | 0 => ⟨h, fun _ => ⟨by simp [Mf.take], rfl⟩⟩
  | k + 1 => by
    obtain ⟨e1, e2⟩ := Mf.take_add h k
    rw [← Nat.add_assoc, Mf.take, Mf.take]
    generalize Mf.take l most c a (j + k) = X at *
    generalize Mf.take l most 0 (Mf.take l most c a j).at_ k = Y at *
    unfold Mf.tkStep
    by_cases hx : X.code = 0
    · obtain ⟨f1, f2⟩ := e2 hx
      have hy : Y.code = 0 := e1 ▸ hx
      rw [f2]
      by_cases q1 : (Sl.var (l.drop Y.at_)).code = 0
      · by_cases q2 : most < (Sl.var (l.drop Y.at_)).val
        · simp only [hx, hy, q1, q2, not_true_eq_false, if_true, if_false]
          exact ⟨trivial, fun hc => by cases hc⟩
        · simp only [hx, hy, q1, q2, not_true_eq_false, if_true, if_false]
          exact ⟨trivial, fun _ => ⟨by rw [f1, List.append_assoc], trivial⟩⟩
      · simp only [hx, hy, q1, not_true_eq_false, not_false_eq_true, if_true, if_false]
        exact ⟨trivial, fun hc => hc.elim⟩
    · rw [if_pos hx, if_pos (e1 ▸ hx)]
      exact ⟨e1, fun hc => absurd hc hx⟩
end Go.Proofs.YtdhnkcfmjibibaaGreatDoor
/- Manifests: contract of the reader's take. Conditions: each theorem's own hypotheses. -/
namespace Go.Proofs.YtdhnkcfmjibibaaGreatDoor
open Go.RowKit Go.Maps
set_option linter.unusedVariables false
set_option linter.unusedSimpArgs false

/-- All blocks but two are as they were. -/
structure Save (s t : Nat) (W W' : World) : Prop where
  os : W'.os = W.os
  tape : W'.tape = W.tape
  output : W'.output = W.output
  size : W'.heap.size = W.heap.size
  block : ∀ k, k ≠ s → k ≠ t → W'.heap[k]? = W.heap[k]?
theorem Save.refl (s t : Nat) (W : World) : Save s t W W := ⟨rfl, rfl, rfl, rfl, fun _ _ _ => rfl⟩
theorem Save.trans {s t : Nat} {a b c : World} (h : Save s t a b) (k : Save s t b c) : Save s t a c :=
  ⟨k.os.trans h.os, k.tape.trans h.tape, k.output.trans h.output, k.size.trans h.size, fun i h1 h2 => (k.block i h1 h2).trans (h.block i h1 h2)⟩
theorem Save.dn {s t : Nat} {a w : World} (h : Save s t a w) (n : Nat) : Save s t a (w.drewN n) := ⟨h.os, h.tape, h.output, h.size, h.block⟩
theorem Save.set_ {s t : Nat} {a w : World} (h : Save s t a w) (p : Addr) (u : Value) (hp : p.block = s ∨ p.block = t) : Save s t a (w.setCell p u) :=
  ⟨h.os, h.tape, h.output, by rw [World.size_setCell]; exact h.size, fun k h1 h2 => (Below.heap_setCell w p u k (by rcases hp with hp | hp <;> rw [hp] <;> assumption)).trans (h.block k h1 h2)⟩
theorem Save.blk {s t : Nat} {w w' : World} (h : Save s t w w') {g : Nat} {ty : TypeId} {cs : Array Value} (h1 : g ≠ s) (h2 : g ≠ t) (hb : Blk w g ty cs) : Blk w' g ty cs := (h.block g h1 h2).trans hb
theorem Save.below {s t B : Nat} {w w' : World} (h : Save s t w w') (hs : B ≤ s) (ht : B ≤ t) : Below B w w' :=
  ⟨h.os, h.tape, h.output, Nat.le_of_eq h.size.symm, fun k hk => h.block k (by omega) (by omega)⟩
theorem Blk.dn {w : World} {g : Nat} {ty : TypeId} {cs : Array Value} (h : Blk w g ty cs) (n : Nat) : Blk (w.drewN n) g ty cs := h

/-- Numbers as cells. -/
def zcells (zs : List Int) : List Value := zs.map fun z => Value.int .i64 z
theorem zcells_len (zs : List Int) : (zcells zs).length = zs.length := List.length_map _
theorem zcells_set (zs : List Int) (rest : List Value) (k : Nat) (z : Int) (hk : k < zs.length) : ((zcells zs ++ rest).toArray.setIfInBounds k (.int .i64 z)) = (zcells (zs.set k z) ++ rest).toArray := by
  rw [List.setIfInBounds_toArray, List.set_append_left _ _ (by rw [zcells_len]; exact hk)]
  unfold zcells
  rw [List.map_set]

/-- The reader's state behind k numbers. -/
structure TkSt (l : ByteArray) (most c0 a0 n s t : Nat) (ty : TypeId) (rest : List Value) (W : World) (k : Nat) (zs : List Int) (a c : Nat) (wr : World) : Prop where
  len : zs.length = n
  rd : Blk wr s 114 #[.string l, .int .i64 a, .int .i64 c]
  to : Blk wr t ty (zcells zs ++ rest).toArray
  save : Save s t W wr
  code : c = (Mf.take l.data.toList most c0 a0 k).code
  fine : c = 0 → a = (Mf.take l.data.toList most c0 a0 k).at_ ∧ zs.take k = (Mf.take l.data.toList most c0 a0 k).vals.map Int.ofNat

theorem TkSt.next {l : ByteArray} {most c0 a0 n s t : Nat} {ty : TypeId} {rest : List Value} {W : World} {k : Nat} {zs : List Int} {a : Nat} {wr : World} (K : TkSt l most c0 a0 n s t ty rest W k zs a 0 wr) (hk : k < n) (hst : s ≠ t) (q : Nat) (R : Sl.Got) (hR : Sl.var (l.data.toList.drop a) = R) (z : Int) (nx cd : Nat)
    (h : (R.code ≠ 0 ∧ cd = R.code) ∨ (R.code = 0 ∧ most < R.val ∧ cd = 80) ∨ (R.code = 0 ∧ ¬ most < R.val ∧ cd = 0 ∧ nx = a + R.len ∧ z = R.val)) :
    TkSt l most c0 a0 n s t ty rest W (k + 1) (zs.set k z) nx cd ((((wr.drewN q).setCell ⟨t, k, none⟩ (.int .i64 z)).setCell ⟨s, 1, none⟩ (.int .i64 nx)).setCell ⟨s, 2, none⟩ (.int .i64 cd)) := by
  have hc := K.code
  obtain ⟨ha, hv⟩ := K.fine rfl
  have hkz : k < zs.length := by rw [K.len]; exact hk
  refine ⟨by rw [List.length_set]; exact K.len, ?_, ?_, (((K.save.dn q).set_ _ _ (Or.inr rfl)).set_ _ _ (Or.inl rfl)).set_ _ _ (Or.inl rfl), ?_, ?_⟩
  · exact ((((K.rd.dn q).far (p := ⟨t, k, none⟩) hst _).set_ 1 (.int .i64 nx)).set_ 2 (.int .i64 cd))
  · rw [← zcells_set zs rest k z hkz]
    exact (((K.to.dn q).set_ k (.int .i64 z)).far (p := ⟨s, 1, none⟩) (fun e => hst e.symm) _).far (p := ⟨s, 2, none⟩) (fun e => hst e.symm) _
  · rw [Mf.take]
    unfold Mf.tkStep
    rw [← hc, ← ha, hR]
    rcases h with ⟨h1, h2⟩ | ⟨h1, h2, h3⟩ | ⟨h1, h2, h3, _⟩
    · rw [if_neg (by simp), if_pos h1]; exact h2
    · rw [if_neg (by simp), if_neg (by simpa using h1), if_pos h2]; exact h3
    · rw [if_neg (by simp), if_neg (by simpa using h1), if_neg h2]; exact h3
  · intro hcd
    rcases h with ⟨h1, h2⟩ | ⟨h1, h2, h3⟩ | ⟨h1, h2, h3, h4, h5⟩
    · omega
    · omega
    · rw [Mf.take]
      unfold Mf.tkStep
      rw [← hc, ← ha, hR, if_neg (by simp), if_neg (by simpa using h1), if_neg h2]
      refine ⟨h4, ?_⟩
      rw [List.map_append, ← hv, List.take_add_one, List.take_set_of_le (Nat.le_refl k), List.getElem?_set_self hkz, h5]
      rfl

set_option maxRecDepth 100000 in
set_option maxHeartbeats 2000000 in
theorem take_any (l : ByteArray) (most c0 a0 n s t p : Nat) (ty : TypeId) (zs0 : List Int) (rest : List Value) (W : World) (hl : l.size ≤ 9223372036854775807) (ha : c0 = 0 → a0 ≤ l.size) (hm : most ≤ 1152921504606846976) (hn : n ≤ 4398046511104)
    (hz : zs0.length = n) (hs : Blk W s 114 #[.string l, .int .i64 a0, .int .i64 c0]) (ht : Blk W t ty (zcells zs0 ++ rest).toArray)
    (hp : ∀ i, i < n → W.cell? ⟨p, i, none⟩ = some (.pointer (some ⟨t, i, none⟩))) (hst : s ≠ t) (hps : p ≠ s) (hpt : p ≠ t) (T : Mf.Tk) (hT : Mf.take l.data.toList most c0 a0 n = T) :
    Calls Tryz.prog 74 #[.pointer (some ⟨s, 0, none⟩), .int .u64 most, .slice (some ⟨p, 0, none⟩) n n] W fun e W' => e = .returned (.tuple #[]) ∧
      ∃ (a : Nat) (zs : List Int), zs.length = n ∧ Blk W' s 114 #[.string l, .int .i64 a, .int .i64 T.code] ∧ Blk W' t ty (zcells zs ++ rest).toArray ∧ Save s t W W' ∧ (T.code = 0 → a = T.at_ ∧ zs = T.vals.map Int.ofNat) := by
  have HP := Lib.hid hp
  have HT := Lib.hid hT
  have hld : l.data.toList.length = l.size := Array.length_toList
  have HL := Lib.hid hld
  clear hp hT hld
  go_enter Tryz.func74, Tryz.ntmps74
  go_wp2_with fail
  go_loopw [13] (fun i wr => ∃ (k : Nat) (zs : List Int) (a c : Nat), k ≤ n ∧ i = .int .i64 k ∧ TkSt l most c0 a0 n s t ty rest W k zs a c wr) (fun i _ => n - (intOf i).toNat)
  case atStart => exact ⟨0, zs0, a0, c0, Nat.zero_le _, rfl, hz, hs, ht, Save.refl _ _ _, rfl, fun _ => ⟨rfl, rfl⟩⟩
  case round =>
    obtain ⟨k, zs, a, c, hk, rfl, K⟩ := hrel
    have r0 : wr.cell? ⟨s, 0, none⟩ = some (.string l) := K.rd.cell 0
    have r1 : wr.cell? ⟨s, 1, none⟩ = some (.int .i64 a) := K.rd.cell 1
    have r2 : wr.cell? ⟨s, 2, none⟩ = some (.int .i64 c) := K.rd.cell 2
    have f1 := K.rd.frozen 1
    have f2 := K.rd.frozen 2
    by_cases hlt : k < n
    · have hpk : wr.cell? ⟨p, k, none⟩ = some (.pointer (some ⟨t, k, none⟩)) := (World.cell?_of_block (K.save.block p hps hpt)).trans (HP.out k hlt)
      by_cases hc : c = 0
      · subst hc
        obtain ⟨hat, hvs⟩ := K.fine rfl
        obtain ⟨R, hR⟩ : ∃ R, Sl.var (l.data.toList.drop a) = R := ⟨_, rfl⟩
        have hal : a ≤ l.size := by
          have := (Mf.take_ok (l := l.data.toList) (most := most) (c := c0) (a := a0) (by rw [HL.out]; exact ha (Mf.take_fine K.code.symm 0 (Nat.zero_le _))) (k := k) K.code.symm).2.2.2
          rw [← hat, HL.out] at this; exact this
        have t6 : wr.frozen? ⟨t, k, none⟩ = false := K.to.frozen k
        have t7 : wr.cell? ⟨t, k, none⟩ = (zcells zs ++ rest).toArray[k]? := K.to.cell k
        rw [List.getElem?_toArray, List.getElem?_append_left (by rw [zcells_len, K.len]; exact hlt), zcells, List.getElem?_map, List.getElem?_eq_getElem (by rw [K.len]; exact hlt)] at t7
        simp only [Option.map_some] at t7
        obtain ⟨zk, hzk⟩ : ∃ zk, zs[k]'(by rw [K.len]; exact hlt) = zk := ⟨_, rfl⟩
        rw [hzk] at t7
        have hst' : t ≠ s := fun e => hst e.symm
        obtain ⟨nx, hnx⟩ : ∃ nx : Nat, (if R.code = 0 then a + R.len else 0) = nx := ⟨_, rfl⟩
        have hvar : ∀ w, Calls Tryz.prog 98 #[.string l, .int .i64 a] w fun e w' => e = .returned (.tuple #[.int .u64 (R.val : Int), .int .i64 (nx : Int), .int .i64 (R.code : Int)]) ∧ w' = w := fun w =>
          (var_any l a R w hl hal hR).mono fun e w' ⟨h1, h2⟩ => ⟨by rw [h1, varV, hnx], h2.symm⟩
        have HV := Lib.hid hvar
        have HR := Lib.hid hR
        have HX := Lib.hid hnx
        have HZ := Lib.hid hzk
        have fin := Lib.hid (show k + 1 ≤ n by omega)
        clear hvar hR hnx hat hvs hzk
        go_upto_region 5 with (go_quiet ((go_at_call 98; exact Calls.quiet_of_same (HV.out _))))
        by_cases h1 : R.code = 0
        · have b1 : ((R.code : Int) == 0) = true := by rw [beq_iff_eq]; omega
          have X2 := HX.out
          rw [if_pos h1] at X2
          have HX2 := Lib.hid X2
          clear X2
          by_cases h2 : most < R.val
          · have b2 : decide ((most : Int) < (R.val : Int)) = true := decide_eq_true (by omega)
            have H1 := Lib.hid h1
            have H2 := Lib.hid h2
            clear h1 h2
            go_wp2_with fail
            go_roundw
            case rel => exact ⟨k + 1, _, nx, 80, fin.out, by go_num, K.next hlt hst _ R HR.out _ nx 80 (Or.inr (Or.inl ⟨H1.out, H2.out, rfl⟩))⟩
            case measure => simp only [intOf]; omega
          · have b2 : decide ((most : Int) < (R.val : Int)) = false := decide_eq_false (by omega)
            have e2 : IntKind.i64.wrap (R.val : Int) = (R.val : Int) := by
              unfold IntKind.wrap
              simp [IntKind.bits, IntKind.signed]; omega
            have hcode : R.code = 0 := h1
            have H1 := Lib.hid h1
            have H2 := Lib.hid h2
            clear h1 h2 hcode
            go_wp2_with fail
            go_roundw
            case rel => exact ⟨k + 1, _, nx, R.code, fin.out, by go_num, K.next hlt hst _ R HR.out _ nx R.code (Or.inr (Or.inr ⟨H1.out, H2.out, H1.out, HX2.out.symm, rfl⟩))⟩
            case measure => simp only [intOf]; omega
        · have b1 : ((R.code : Int) == 0) = false := by rw [beq_eq_false_iff_ne]; omega
          have H1 := Lib.hid h1
          clear h1
          go_wp2_with fail
          go_roundw
          case rel => exact ⟨k + 1, _, nx, R.code, fin.out, by go_num, K.next hlt hst _ R HR.out _ nx R.code (Or.inl ⟨H1.out, rfl⟩)⟩
          case measure => simp only [intOf]; omega
      · have hcb : ((c : Int) != 0) = true := by rw [bne_iff_ne]; omega
        go_wp2_with fail
        refine bodyPost_ret (results_none rfl _ _ _) rfl ?_
        have e1 := Mf.take_bad (l := l.data.toList) (most := most) (c := c0) (a := a0) (k := k) (by rw [← K.code]; exact hc) (n - k)
        rw [show k + (n - k) = n by omega, HT.out, ← K.code] at e1
        refine ⟨rfl, a, zs, K.len, by rw [e1]; exact K.rd, K.to, K.save, fun h => absurd (e1.symm.trans h) hc⟩
    · obtain rfl : k = n := by omega
      go_wp2_with fail
      go_end0
      have e1 := K.code
      rw [HT.out] at e1
      refine ⟨rfl, a, zs, K.len, by rw [← e1]; exact K.rd, K.to, K.save, fun h => ?_⟩
      have := K.fine (e1.trans h)
      rw [HT.out, List.take_of_length_le (Nat.le_of_eq K.len)] at this
      exact this
end Go.Proofs.YtdhnkcfmjibibaaGreatDoor
/- Manifests: contract of the reference's several. Conditions: each theorem's own hypotheses. -/
namespace Go.Proofs.YtdhnkcfmjibibaaGreatDoor
open Go.RowKit Go.Maps
set_option linter.unusedVariables false
set_option linter.unusedSimpArgs false

theorem Mf.tkStep_cases (l : List UInt8) (most : Nat) (T : Mf.Tk) (h : T.code = 0) (R : Sl.Got) (hR : Sl.var (l.drop T.at_) = R) :
    (R.code ≠ 0 ∧ (Mf.tkStep l most T).code = R.code) ∨ (R.code = 0 ∧ most < R.val ∧ (Mf.tkStep l most T).code = 80) ∨ (R.code = 0 ∧ ¬ most < R.val ∧ Mf.tkStep l most T = ⟨0, T.vals ++ [R.val], T.at_ + R.len⟩) := by
  unfold Mf.tkStep
  rw [hR, if_neg (by simpa using h)]
  by_cases h1 : R.code = 0
  · rw [if_neg (by simpa using h1)]
    by_cases h2 : most < R.val
    · rw [if_pos h2]; exact Or.inr (Or.inl ⟨h1, h2, rfl⟩)
    · rw [if_neg h2]; exact Or.inr (Or.inr ⟨h1, h2, rfl⟩)
  · rw [if_pos h1]; exact Or.inl ⟨h1, rfl⟩

/-- Behind k rounds k numbers are read. -/
structure SvSt (l : ByteArray) (a0 n : Nat) (w wr : World) (k : Nat) (T : Mf.Tk) (v : Value) : Prop where
  le : k ≤ n
  tk : Mf.take l.data.toList 1152921504606846976 0 a0 k = T
  ok : T.code = 0
  own : wr.ownsRow w.heap.size 3 1 v k (Mf.cells T.vals).toList
  below : Below w.heap.size w wr

set_option maxRecDepth 100000 in
set_option maxHeartbeats 2000000 in
theorem several_any (l : ByteArray) (a0 n : Nat) (w : World) (hl : l.size ≤ 9223372036854775807) (ha : a0 ≤ l.size) (hn : n ≤ 1000) (T : Mf.Tk) (hT : Mf.take l.data.toList 1152921504606846976 0 a0 n = T) :
    Calls Tryz.prog 76 #[.string l, .int .i64 a0, .int .i64 n] w fun e w' => Below w.heap.size w w' ∧
      (T.code ≠ 0 → e = .returned (.tuple #[.slice none 0 0, .int .i64 0, .int .i64 T.code])) ∧
      (T.code = 0 → ∃ v, e = .returned (.tuple #[v, .int .i64 T.at_, .int .i64 0]) ∧ w'.ownsRow w.heap.size 3 1 v n (Mf.cells T.vals).toList) := by
  obtain ⟨i0, hi, hz0, hz1, hz2⟩ := info_parts infoInt
  have HT := Lib.hid hT
  have hld : l.data.toList.length = l.size := Array.length_toList
  have HL := Lib.hid hld
  clear hT hld
  go_enter Tryz.func76, Tryz.ntmps76
  go_wp2_with fail
  go_loopw [1, 9, 10] (fun p v i wr => ∃ (k : Nat) (X : Mf.Tk), i = .int .i64 k ∧ p = .int .i64 X.at_ ∧ SvSt l a0 n w wr k X v) (fun _ _ i _ => n - (intOf i).toNat)
  case atStart => exact ⟨0, ⟨0, [], a0⟩, rfl, rfl, Nat.zero_le _, rfl, rfl, World.ownsRow_nil _ _ _ _, Below.refl _ _⟩
  case round =>
    obtain ⟨k, X, rfl, rfl, K⟩ := hrel
    obtain ⟨R, hR⟩ : ∃ R, Sl.var (l.data.toList.drop X.at_) = R := ⟨_, rfl⟩
    have hal : X.at_ ≤ l.size := by
      have := (Mf.take_ok (l := l.data.toList) (most := 1152921504606846976) (c := 0) (a := a0) (by rw [HL.out]; exact ha) (k := k) (by rw [K.tk]; exact K.ok)).2.2.2
      rw [K.tk, HL.out] at this; exact this
    have hkn := K.le
    have hown := K.own
    have hB := K.below
    have hsz := hB.size
    by_cases hlt : k < n
    · obtain ⟨nx, hnx⟩ : ∃ nx : Nat, (if R.code = 0 then X.at_ + R.len else 0) = nx := ⟨_, rfl⟩
      have hvar : ∀ w, Calls Tryz.prog 101 #[.string l, .int .i64 X.at_] w fun e w' => e = .returned (.tuple #[.int .u64 (R.val : Int), .int .i64 (nx : Int), .int .i64 (R.code : Int)]) ∧ w' = w := fun w =>
        (refVar_any l X.at_ R w hl hal hR).mono fun e w' ⟨h1, h2⟩ => ⟨by rw [h1, varV, hnx], h2.symm⟩
      have hc := Mf.tkStep_cases l.data.toList 1152921504606846976 X K.ok R hR
      have hbad : (Mf.tkStep l.data.toList 1152921504606846976 X).code ≠ 0 → T.code = (Mf.tkStep l.data.toList 1152921504606846976 X).code := fun h => by
        have e1 := Mf.take_bad (l := l.data.toList) (most := 1152921504606846976) (c := 0) (a := a0) (k := k + 1) (by rw [Mf.take, K.tk]; exact h) (n - (k + 1))
        rw [show k + 1 + (n - (k + 1)) = n by omega, HT.out, Mf.take, K.tk] at e1
        exact e1
      have HV := Lib.hid hvar
      have HBD := Lib.hid hbad
      have HX := Lib.hid hnx
      have fin := Lib.hid (show k + 1 ≤ n by omega)
      clear hvar hbad hnx hR
      rcases hc with ⟨h1, h2⟩ | ⟨h1, h2, h3⟩ | ⟨h1, h2, h3⟩
      · have b1 : ((R.code : Int) != 0) = true := by rw [bne_iff_ne]; omega
        have e1 : T.code = R.code := by rw [HBD.out (by rw [h2]; exact h1), h2]
        have H1 := Lib.hid h1
        have E1 := Lib.hid e1
        clear h1 h2 e1
        go_wp2_with (go_at_call 101; refine (HV.out _).mono ?_; rintro e w1 ⟨rfl, rfl⟩)
        go_ret3
        exact ⟨hB, fun _ => by rw [E1.out]; rfl, fun h => absurd (E1.out.symm.trans h) H1.out⟩
      · have b1 : ((R.code : Int) != 0) = false := by rw [bne_eq_false_iff_eq]; omega
        have b2 : decide ((1152921504606846976 : Int) < (R.val : Int)) = true := decide_eq_true (by omega)
        have e1 : T.code = 80 := by rw [HBD.out (by rw [h3]; decide), h3]
        have E1 := Lib.hid e1
        clear h1 h2 h3 e1
        go_wp2_with (go_at_call 101; refine (HV.out _).mono ?_; rintro e w1 ⟨rfl, rfl⟩)
        go_ret3
        exact ⟨hB, fun _ => by rw [E1.out]; rfl, fun h => by have := E1.out; omega⟩
      · have b1 : ((R.code : Int) != 0) = false := by rw [bne_eq_false_iff_eq]; omega
        have b2 : decide ((1152921504606846976 : Int) < (R.val : Int)) = false := decide_eq_false (by omega)
        have e2 : IntKind.i64.wrap (R.val : Int) = (R.val : Int) := by
          unfold IntKind.wrap
          simp [IntKind.bits, IntKind.signed]; omega
        have X2 := HX.out
        rw [if_pos h1] at X2
        have HX2 := Lib.hid X2
        have H3 := Lib.hid h3
        clear X2 h1 h2 h3
        go_wp2_with (first
          | (go_at_call 101; refine (HV.out _).mono ?_; rintro e w1 ⟨rfl, rfl⟩)
          | (at_builtin; refine wpList_append_own _ rfl (.tmp 31) (.tmp 34) 90 rfl w.heap.size 3 i0 (.int .i64 0) 1 8 Tryz.underlying90 hi hz0 hz1 hz2 rfl (by decide) _ _ _ rfl (hown.alloc _) ⟨w1.heap.size, 0, none⟩ 1 1 [.int .i64 (R.val : Int)] rfl rfl ?c1 ?c2 ?c3 ?c4 ?c5 ?_))
        case c1 => exact cell_one_new _ _ _
        case c2 => simp [Value.oneCell']
        case c3 => unfold maxLen; omega
        case c4 => omega
        case c5 => simp; omega
        intro v2 w2 hown2 hgrow2 _
        have r2 : Below w.heap.size w w2 := (hB.alloc hB.size _).grown hgrow2 (by simp; omega) (fun q e => (hown.lt q e).1)
        go_wp2_with fail
        go_roundw
        case rel =>
          refine ⟨k + 1, Mf.take l.data.toList 1152921504606846976 0 a0 (k + 1), by go_num, ?_, fin.out, rfl, ?_, ?_, r2⟩
          · rw [Mf.take, K.tk, H3.out, ← HX2.out]
          · rw [Mf.take, K.tk, H3.out]
          · rw [Mf.take, K.tk, H3.out]
            have : (Mf.cells (X.vals ++ [R.val])).toList = (Mf.cells X.vals).toList ++ [.int .i64 (R.val : Int)] := by
              rw [Mf.cells_list, Mf.cells_list, List.map_append]; rfl
            rw [this]
            exact hown2
        case measure => simp [intOf]; omega
    · obtain rfl : k = n := by omega
      have e1 : T = X := HT.out.symm.trans K.tk
      have E1 := Lib.hid e1
      clear e1
      go_wp2_with fail
      go_ret3
      exact ⟨hB, fun h => absurd (by rw [E1.out]; exact K.ok) h, fun _ => ⟨_, by rw [E1.out]; rfl, by rw [E1.out]; exact hown⟩⟩
end Go.Proofs.YtdhnkcfmjibibaaGreatDoor
/- Reading a manifest: the plain function. No conditions but each theorem's own. -/
namespace Go.Proofs.YtdhnkcfmjibibaaGreatDoor
set_option linter.unusedVariables false

theorem parse_len_pay (l : List UInt8) (R : Sl.Parsed) (h : Sl.parse l = R) : R.pay.length ≤ l.length ∧ R.code ≤ 36 := by
  unfold Sl.parse at h
  repeat' split at h
  all_goals subst h
  all_goals simp only [List.length_nil, List.length_take, List.length_drop]
  all_goals omega

/-- The manifest of noughts. -/
def Mf.zero : Man := ⟨0, 0, 0, 0, 0, 0, []⟩
/-- Runs out of numbers, four by four. -/
def Mf.runsOf : List Nat → List Run
  | a :: b :: c :: d :: l => ⟨a, b, c, d⟩ :: Mf.runsOf l
  | _ => []
def Mf.manOf (h v : List Nat) : Man := ⟨h.getD 0 0, h.getD 1 0, h.getD 2 0, h.getD 3 0, h.getD 4 0, h.getD 5 0, Mf.runsOf v⟩
theorem Mf.runsOf_snoc : ∀ (k : Nat) (v : List Nat), v.length = 4 * k → ∀ a b c d, Mf.runsOf (v ++ [a, b, c, d]) = Mf.runsOf v ++ [⟨a, b, c, d⟩]
  | 0, v, h => fun a b c d => by
    obtain rfl := List.eq_nil_of_length_eq_zero (show v.length = 0 by omega)
    rfl
  | k + 1, v, h => fun a b c d => by
    match v, h with
    | x :: y :: z :: u :: v', h =>
      simp only [List.length_cons] at h
      have := Mf.runsOf_snoc k v' (by omega) a b c d
      simp only [List.cons_append, Mf.runsOf, this]
theorem Mf.runsOf_len : ∀ (k : Nat) (v : List Nat), v.length = 4 * k → (Mf.runsOf v).length = k
  | 0, v, h => by
    obtain rfl := List.eq_nil_of_length_eq_zero (show v.length = 0 by omega)
    rfl
  | k + 1, v, h => by
    match v, h with
    | x :: y :: z :: u :: v', h =>
      simp only [List.length_cons] at h
      simp only [Mf.runsOf, List.length_cons, Mf.runsOf_len k v' (by omega)]
theorem Mf.runsOf_mem : ∀ (v : List Nat) (r : Run), r ∈ Mf.runsOf v → ∃ a b c d, a ∈ v ∧ b ∈ v ∧ c ∈ v ∧ d ∈ v ∧ r = ⟨(a : Nat), (b : Nat), (c : Nat), (d : Nat)⟩
  | a :: b :: c :: d :: l, r, h => by
    simp only [Mf.runsOf, List.mem_cons] at h
    rcases h with rfl | h
    · exact ⟨a, b, c, d, by simp, by simp, by simp, by simp, rfl⟩
    · obtain ⟨a', b', c', d', h1, h2, h3, h4, h5⟩ := Mf.runsOf_mem l r h
      exact ⟨a', b', c', d', by simp [h1], by simp [h2], by simp [h3], by simp [h4], h5⟩
  | [], r, h => by simp [Mf.runsOf] at h
  | [_], r, h => by simp [Mf.runsOf] at h
  | [_, _], r, h => by simp [Mf.runsOf] at h
  | [_, _, _], r, h => by simp [Mf.runsOf] at h

/-- What reading a manifest gives: a refusal's code, the manifest. -/
structure Mf.Dec where
  code : Nat
  man : Man
/-- Six numbers, how many runs, the runs' numbers. -/
def Mf.rdH (p : List UInt8) : Mf.Tk := Mf.take p 1152921504606846976 0 0 6
def Mf.rdN (p : List UInt8) : Mf.Tk := Mf.take p 24 (Mf.rdH p).code (Mf.rdH p).at_ 1
def Mf.rdV (p : List UInt8) : Mf.Tk := Mf.take p 1152921504606846976 0 (Mf.rdN p).at_ (4 * (Mf.rdN p).vals.getD 0 0)
/-- Out of a payload. -/
noncomputable def Mf.decP (p : List UInt8) : Mf.Dec :=
  if ¬ (Mf.rdN p).code = 0 then ⟨(Mf.rdN p).code, Mf.zero⟩
  else if ¬ (Mf.rdV p).code = 0 then ⟨(Mf.rdV p).code, Mf.zero⟩
  else if ¬ (Mf.rdV p).at_ = p.length then ⟨37, Mf.zero⟩
  else if ¬ Mf.check (Mf.manOf (Mf.rdH p).vals (Mf.rdV p).vals) = 0 then ⟨Mf.check (Mf.manOf (Mf.rdH p).vals (Mf.rdV p).vals), Mf.zero⟩
  else ⟨0, Mf.manOf (Mf.rdH p).vals (Mf.rdV p).vals⟩
/-- Out of bytes. -/
noncomputable def Mf.decode (l : List UInt8) : Mf.Dec :=
  if ¬ (Sl.parse l).code = 0 then ⟨(Sl.parse l).code, Mf.zero⟩
  else if ¬ (Sl.parse l).len = l.length then ⟨37, Mf.zero⟩
  else if ¬ (Sl.parse l).kind = 3 then ⟨35, Mf.zero⟩
  else Mf.decP (Sl.parse l).pay
theorem Mf.check_le (M : Man) : Mf.check M ≤ 81 := by
  unfold Mf.check
  split
  · unfold Mf.opts
    repeat' split
    all_goals omega
  · split <;> omega
theorem Mf.take_fine0 {l : List UInt8} {most c a k : Nat} (h : (Mf.take l most c a k).code = 0) : c = 0 := Mf.take_fine h 0 (Nat.zero_le _)
theorem Mf.rdH_code {p : List UInt8} (h : (Mf.rdN p).code = 0) : (Mf.rdH p).code = 0 := by
  unfold Mf.rdN at h
  exact Mf.take_fine0 h
/-- What is known when the numbers could be read. -/
theorem Mf.rd_facts {p : List UInt8} (h : (Mf.rdN p).code = 0) : ∃ n, (Mf.rdN p).vals = [n] ∧ n ≤ 24 ∧ (Mf.rdH p).vals.length = 6 ∧ (∀ v ∈ (Mf.rdH p).vals, v ≤ 1152921504606846976) ∧ (Mf.rdH p).at_ ≤ p.length ∧ (Mf.rdN p).at_ ≤ p.length := by
  obtain ⟨a1, a2, a3, a4⟩ := Mf.take_ok (l := p) (most := 1152921504606846976) (c := 0) (a := 0) (Nat.zero_le _) (k := 6) (Mf.rdH_code h)
  obtain ⟨b1, b2, b3, b4⟩ := Mf.take_ok (l := p) (most := 24) (c := (Mf.rdH p).code) (a := (Mf.rdH p).at_) a4 (k := 1) h
  have e : Mf.take p 24 (Mf.rdH p).code (Mf.rdH p).at_ 1 = Mf.rdN p := rfl
  rw [e] at b1 b2 b4
  obtain ⟨n, hn⟩ := List.length_eq_one_iff.1 b1
  exact ⟨n, hn, b2 n (by rw [hn]; simp), a1, a2, a4, b4⟩
end Go.Proofs.YtdhnkcfmjibibaaGreatDoor
