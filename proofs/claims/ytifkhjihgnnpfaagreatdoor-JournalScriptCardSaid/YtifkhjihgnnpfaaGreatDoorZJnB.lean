/- Contracts of journal.payload and of the document's payload. Conditions: each theorem's own hypotheses. -/
import Derived.Test.YtifkhjihgnnpfaaGreatDoorZSealK
import Derived.Test.YtifkhjihgnnpfaaGreatDoorJnP
namespace Go.Proofs.YtifkhjihgnnpfaaGreatDoor
set_option linter.unusedVariables false
open Go.RowKit

/-- An update as a value. -/
def updV (U : Jn.Upd) : Value := .tuple #[.agg #[.int .i64 U.seq, .int .i64 U.kind, .int .i64 U.id, str U.code], .int .i64 U.err]
/-- A refusal. -/
def noV (e : Nat) : Value := .tuple #[.agg #[.int .i64 0, .int .i64 0, .int .i64 0, .string ⟨#[]⟩], .int .i64 e]
theorem noV_eq (e : Nat) : noV e = updV (Jn.no e) := rfl

theorem var_tell (s : ByteArray) (k c v m p : Nat) (w : World) (hs : s.size ≤ 9223372036854775807) (hk : k ≤ s.size) (hR : Sl.var (s.data.toList.drop k) = ⟨c, v, m⟩) (hp : (if c = 0 then k + m else 0) = p) :
    Calls Tryz.prog 89 #[.string s, .int .i64 k] w fun e w' => e = .returned (.tuple #[.int .u64 v, .int .i64 p, .int .i64 c]) ∧ w = w' := by
  subst hp; exact var_any s k _ w hs hk hR
theorem refVar_tell (s : ByteArray) (k c v m p : Nat) (w : World) (hs : s.size ≤ 9223372036854775807) (hk : k ≤ s.size) (hR : Sl.var (s.data.toList.drop k) = ⟨c, v, m⟩) (hp : (if c = 0 then k + m else 0) = p) :
    Calls Tryz.prog 112 #[.string s, .int .i64 k] w fun e w' => e = .returned (.tuple #[.int .u64 v, .int .i64 p, .int .i64 c]) ∧ w = w' := by
  subst hp; exact refVar_any s k _ w hs hk hR

theorem pay_kind (s : ByteArray) (k l : Nat) (w : World) (h1 : ((k : Int) != 1) = true) (h2 : ((k : Int) != 2) = true) :
    Calls Tryz.prog 56 #[.int .i64 k, .string s, .int .i64 l] w fun e w' => e = .returned (noV 35) ∧ Below w.heap.size w w' := by
  go_enter Tryz.func56, Tryz.ntmps56
  go_wp2_with fail
  exact bodyPost_ret (v := noV 35) (by unfold noV; simp [results, Tryz.results56, go_sem]) rfl ⟨rfl, (Below.refl _ _).alloc (Nat.le_refl _) _⟩
theorem refPay_kind (s : ByteArray) (k l : Nat) (w : World) (h1 : ((k : Int) != 1) = true) (h2 : ((k : Int) != 2) = true) :
    Calls Tryz.prog 92 #[.int .i64 k, .string s, .int .i64 l] w fun e w' => e = .returned (noV 35) ∧ Below w.heap.size w w' := by
  go_enter Tryz.func92, Tryz.ntmps92
  go_wp2_with fail
  exact bodyPost_ret (v := noV 35) (by unfold noV; simp [results, Tryz.results92, go_sem]) rfl ⟨rfl, (Below.refl _ _).alloc (Nat.le_refl _) _⟩

set_option maxRecDepth 100000 in
theorem pay_code1 (s : ByteArray) (l : Nat) (w : World) (hs : s.size ≤ 9223372036854775807) (hl : l ≤ 1024) (c v m p : Nat) (hR : Sl.var (s.data.toList.drop 0) = ⟨c, v, m⟩) (hp : (if c = 0 then 0 + m else 0) = p) (hv : v < 18446744073709551616) (hc : c ≤ 32) (hpl : p ≤ s.size) (h0 : ¬ c = 0) :
    Calls Tryz.prog 56 #[.int .i64 1, .string s, .int .i64 l] w fun e w' => e = .returned (noV c) ∧ Below w.heap.size w w' := by
  have ht : ((c : Int) != 0) = true := by rw [bne_iff_ne]; omega
  have HR := Lib.hid hR
  have HP := Lib.hid hp
  clear hR hp
  go_enter Tryz.func56, Tryz.ntmps56
  go_wp2_with fail
  refine (var_tell s 0 c v m p _ hs (Nat.zero_le _) HR.out HP.out).mono ?_
  rintro e w' ⟨rfl, rfl⟩
  go_wp2_with fail
  exact bodyPost_ret (v := noV c) (by unfold noV; simp [results, Tryz.results56, go_sem]) rfl ⟨rfl, (Below.refl _ _).alloc (Nat.le_refl _) _⟩

set_option maxRecDepth 100000 in
theorem pay_low1 (s : ByteArray) (l : Nat) (w : World) (hs : s.size ≤ 9223372036854775807) (hl : l ≤ 1024) (c v m p : Nat) (hR : Sl.var (s.data.toList.drop 0) = ⟨c, v, m⟩) (hp : (if c = 0 then 0 + m else 0) = p) (hv : v < 18446744073709551616) (hc : c ≤ 32) (hpl : p ≤ s.size) (h0 : c = 0) (h1 : v < 1) :
    Calls Tryz.prog 56 #[.int .i64 1, .string s, .int .i64 l] w fun e w' => e = .returned (noV 51) ∧ Below w.heap.size w w' := by
  have ht : ((c : Int) != 0) = false := by rw [bne_eq_false_iff_eq]; omega
  have hv1 : decide ((v : Int) < 1) = true := by rw [decide_eq_true_iff]; omega
  have HR := Lib.hid hR
  have HP := Lib.hid hp
  clear hR hp
  go_enter Tryz.func56, Tryz.ntmps56
  go_wp2_with fail
  refine (var_tell s 0 c v m p _ hs (Nat.zero_le _) HR.out HP.out).mono ?_
  rintro e w' ⟨rfl, rfl⟩
  go_wp2_with fail
  exact bodyPost_ret (v := noV 51) (by unfold noV; simp [results, Tryz.results56, go_sem]) rfl ⟨rfl, (Below.refl _ _).alloc (Nat.le_refl _) _⟩

set_option maxRecDepth 100000 in
theorem pay_high1 (s : ByteArray) (l : Nat) (w : World) (hs : s.size ≤ 9223372036854775807) (hl : l ≤ 1024) (c v m p : Nat) (hR : Sl.var (s.data.toList.drop 0) = ⟨c, v, m⟩) (hp : (if c = 0 then 0 + m else 0) = p) (hv : v < 18446744073709551616) (hc : c ≤ 32) (hpl : p ≤ s.size) (h0 : c = 0) (h1 : 1152921504606846976 < v) :
    Calls Tryz.prog 56 #[.int .i64 1, .string s, .int .i64 l] w fun e w' => e = .returned (noV 51) ∧ Below w.heap.size w w' := by
  have ht : ((c : Int) != 0) = false := by rw [bne_eq_false_iff_eq]; omega
  have hv1 : decide ((v : Int) < 1) = false := by rw [decide_eq_false_iff_not]; omega
  have hv2 : decide ((1152921504606846976 : Int) < (v : Int)) = true := by rw [decide_eq_true_iff]; omega
  have HR := Lib.hid hR
  have HP := Lib.hid hp
  clear hR hp
  go_enter Tryz.func56, Tryz.ntmps56
  go_wp2_with fail
  refine (var_tell s 0 c v m p _ hs (Nat.zero_le _) HR.out HP.out).mono ?_
  rintro e w' ⟨rfl, rfl⟩
  go_wp2_with fail
  exact bodyPost_ret (v := noV 51) (by unfold noV; simp [results, Tryz.results56, go_sem]) rfl ⟨rfl, (Below.refl _ _).alloc (Nat.le_refl _) _⟩

set_option maxRecDepth 100000 in
theorem pay_code21 (s : ByteArray) (l : Nat) (w : World) (hs : s.size ≤ 9223372036854775807) (hl : l ≤ 1024) (c v m p : Nat) (hR : Sl.var (s.data.toList.drop 0) = ⟨c, v, m⟩) (hp : (if c = 0 then 0 + m else 0) = p) (hv : v < 18446744073709551616) (hc : c ≤ 32) (hpl : p ≤ s.size) (c' v' m' p' : Nat) (hR' : Sl.var (s.data.toList.drop p) = ⟨c', v', m'⟩) (hp' : (if c' = 0 then p + m' else 0) = p') (hv' : v' < 18446744073709551616) (hc' : c' ≤ 32) (hpl' : p' ≤ s.size) (h0 : c = 0) (h1 : 1 ≤ v) (h2 : v ≤ 1152921504606846976) (h3 : ¬ c' = 0) :
    Calls Tryz.prog 56 #[.int .i64 1, .string s, .int .i64 l] w fun e w' => e = .returned (noV c') ∧ Below w.heap.size w w' := by
  have ht : ((c : Int) != 0) = false := by rw [bne_eq_false_iff_eq]; omega
  have hv1 : decide ((v : Int) < 1) = false := by rw [decide_eq_false_iff_not]; omega
  have hv2 : decide ((1152921504606846976 : Int) < (v : Int)) = false := by rw [decide_eq_false_iff_not]; omega
  have ht' : ((c' : Int) != 0) = true := by rw [bne_iff_ne]; omega
  have HR := Lib.hid hR
  have HP := Lib.hid hp
  have HR2 := Lib.hid hR'
  have HP2 := Lib.hid hp'
  clear hR hp hR' hp'
  go_enter Tryz.func56, Tryz.ntmps56
  go_wp2_with fail
  refine (var_tell s 0 c v m p _ hs (Nat.zero_le _) HR.out HP.out).mono ?_
  rintro e w' ⟨rfl, rfl⟩
  go_wp2_with fail
  refine (var_tell s p c' v' m' p' _ hs hpl HR2.out HP2.out).mono ?_
  rintro e w' ⟨rfl, rfl⟩
  go_wp2_with fail
  exact bodyPost_ret (v := noV c') (by unfold noV; simp [results, Tryz.results56, go_sem]) rfl ⟨rfl, (Below.refl _ _).alloc (Nat.le_refl _) _⟩

set_option maxRecDepth 100000 in
theorem pay_id1 (s : ByteArray) (l : Nat) (w : World) (hs : s.size ≤ 9223372036854775807) (hl : l ≤ 1024) (c v m p : Nat) (hR : Sl.var (s.data.toList.drop 0) = ⟨c, v, m⟩) (hp : (if c = 0 then 0 + m else 0) = p) (hv : v < 18446744073709551616) (hc : c ≤ 32) (hpl : p ≤ s.size) (c' v' m' p' : Nat) (hR' : Sl.var (s.data.toList.drop p) = ⟨c', v', m'⟩) (hp' : (if c' = 0 then p + m' else 0) = p') (hv' : v' < 18446744073709551616) (hc' : c' ≤ 32) (hpl' : p' ≤ s.size) (h0 : c = 0) (h1 : 1 ≤ v) (h2 : v ≤ 1152921504606846976) (h3 : c' = 0) (h4 : 281474976710656 < v') :
    Calls Tryz.prog 56 #[.int .i64 1, .string s, .int .i64 l] w fun e w' => e = .returned (noV 60) ∧ Below w.heap.size w w' := by
  have ht : ((c : Int) != 0) = false := by rw [bne_eq_false_iff_eq]; omega
  have hv1 : decide ((v : Int) < 1) = false := by rw [decide_eq_false_iff_not]; omega
  have hv2 : decide ((1152921504606846976 : Int) < (v : Int)) = false := by rw [decide_eq_false_iff_not]; omega
  have ht' : ((c' : Int) != 0) = false := by rw [bne_eq_false_iff_eq]; omega
  have hw : decide ((281474976710656 : Int) < (v' : Int)) = true := by rw [decide_eq_true_iff]; omega
  have HR := Lib.hid hR
  have HP := Lib.hid hp
  have HR2 := Lib.hid hR'
  have HP2 := Lib.hid hp'
  clear hR hp hR' hp'
  go_enter Tryz.func56, Tryz.ntmps56
  go_wp2_with fail
  refine (var_tell s 0 c v m p _ hs (Nat.zero_le _) HR.out HP.out).mono ?_
  rintro e w' ⟨rfl, rfl⟩
  go_wp2_with fail
  refine (var_tell s p c' v' m' p' _ hs hpl HR2.out HP2.out).mono ?_
  rintro e w' ⟨rfl, rfl⟩
  go_wp2_with fail
  exact bodyPost_ret (v := noV 60) (by unfold noV; simp [results, Tryz.results56, go_sem]) rfl ⟨rfl, (Below.refl _ _).alloc (Nat.le_refl _) _⟩

set_option maxRecDepth 100000 in
theorem pay_len1 (s : ByteArray) (l : Nat) (w : World) (hs : s.size ≤ 9223372036854775807) (hl : l ≤ 1024) (c v m p : Nat) (hR : Sl.var (s.data.toList.drop 0) = ⟨c, v, m⟩) (hp : (if c = 0 then 0 + m else 0) = p) (hv : v < 18446744073709551616) (hc : c ≤ 32) (hpl : p ≤ s.size) (c' v' m' p' : Nat) (hR' : Sl.var (s.data.toList.drop p) = ⟨c', v', m'⟩) (hp' : (if c' = 0 then p + m' else 0) = p') (hv' : v' < 18446744073709551616) (hc' : c' ≤ 32) (hpl' : p' ≤ s.size) (h0 : c = 0) (h1 : 1 ≤ v) (h2 : v ≤ 1152921504606846976) (h3 : c' = 0) (h4 : v' ≤ 281474976710656) (C : ByteArray) (hC : s.extract p' s.size = C) (hCs : C.size + p' = s.size) (h5 : ¬ C.size = l / 8) :
    Calls Tryz.prog 56 #[.int .i64 1, .string s, .int .i64 l] w fun e w' => e = .returned (noV 11) ∧ Below w.heap.size w w' := by
  have ht : ((c : Int) != 0) = false := by rw [bne_eq_false_iff_eq]; omega
  have hv1 : decide ((v : Int) < 1) = false := by rw [decide_eq_false_iff_not]; omega
  have hv2 : decide ((1152921504606846976 : Int) < (v : Int)) = false := by rw [decide_eq_false_iff_not]; omega
  have ht' : ((c' : Int) != 0) = false := by rw [bne_eq_false_iff_eq]; omega
  have hw : decide ((281474976710656 : Int) < (v' : Int)) = false := by rw [decide_eq_false_iff_not]; omega
  have hq : (l : Int).tdiv 8 = ((l / 8 : Nat) : Int) := by rw [Int.tdiv_eq_ediv_of_nonneg (by omega)]; rfl
  have hz : ((C.size : Int) != ((l / 8 : Nat) : Int)) = true := by rw [bne_iff_ne]; omega
  have HR := Lib.hid hR
  have HP := Lib.hid hp
  have HR2 := Lib.hid hR'
  have HP2 := Lib.hid hp'
  clear hR hp hR' hp'
  go_enter Tryz.func56, Tryz.ntmps56
  go_wp2_with fail
  refine (var_tell s 0 c v m p _ hs (Nat.zero_le _) HR.out HP.out).mono ?_
  rintro e w' ⟨rfl, rfl⟩
  go_wp2_with fail
  refine (var_tell s p c' v' m' p' _ hs hpl HR2.out HP2.out).mono ?_
  rintro e w' ⟨rfl, rfl⟩
  go_wp2_with fail
  exact bodyPost_ret (v := noV 11) (by unfold noV; simp [results, Tryz.results56, go_sem]) rfl ⟨rfl, (Below.refl _ _).alloc (Nat.le_refl _) _⟩

set_option maxRecDepth 100000 in
theorem pay_good1 (s : ByteArray) (l : Nat) (w : World) (hs : s.size ≤ 9223372036854775807) (hl : l ≤ 1024) (c v m p : Nat) (hR : Sl.var (s.data.toList.drop 0) = ⟨c, v, m⟩) (hp : (if c = 0 then 0 + m else 0) = p) (hv : v < 18446744073709551616) (hc : c ≤ 32) (hpl : p ≤ s.size) (c' v' m' p' : Nat) (hR' : Sl.var (s.data.toList.drop p) = ⟨c', v', m'⟩) (hp' : (if c' = 0 then p + m' else 0) = p') (hv' : v' < 18446744073709551616) (hc' : c' ≤ 32) (hpl' : p' ≤ s.size) (h0 : c = 0) (h1 : 1 ≤ v) (h2 : v ≤ 1152921504606846976) (h3 : c' = 0) (h4 : v' ≤ 281474976710656) (C : ByteArray) (hC : s.extract p' s.size = C) (hCs : C.size + p' = s.size) (h5 : C.size = l / 8) :
    Calls Tryz.prog 56 #[.int .i64 1, .string s, .int .i64 l] w fun e w' => e = .returned (.tuple #[.agg #[.int .i64 v, .int .i64 1, .int .i64 v', .string C], .int .i64 0]) ∧ Below w.heap.size w w' := by
  have ht : ((c : Int) != 0) = false := by rw [bne_eq_false_iff_eq]; omega
  have hv1 : decide ((v : Int) < 1) = false := by rw [decide_eq_false_iff_not]; omega
  have hv2 : decide ((1152921504606846976 : Int) < (v : Int)) = false := by rw [decide_eq_false_iff_not]; omega
  have ht' : ((c' : Int) != 0) = false := by rw [bne_eq_false_iff_eq]; omega
  have hw : decide ((281474976710656 : Int) < (v' : Int)) = false := by rw [decide_eq_false_iff_not]; omega
  have hq : (l : Int).tdiv 8 = ((l / 8 : Nat) : Int) := by rw [Int.tdiv_eq_ediv_of_nonneg (by omega)]; rfl
  have hz : ((C.size : Int) != ((l / 8 : Nat) : Int)) = false := by rw [bne_eq_false_iff_eq]; omega
  have HR := Lib.hid hR
  have HP := Lib.hid hp
  have HR2 := Lib.hid hR'
  have HP2 := Lib.hid hp'
  clear hR hp hR' hp'
  go_enter Tryz.func56, Tryz.ntmps56
  go_wp2_with fail
  refine (var_tell s 0 c v m p _ hs (Nat.zero_le _) HR.out HP.out).mono ?_
  rintro e w' ⟨rfl, rfl⟩
  go_wp2_with fail
  refine (var_tell s p c' v' m' p' _ hs hpl HR2.out HP2.out).mono ?_
  rintro e w' ⟨rfl, rfl⟩
  go_wp2_with fail
  exact bodyPost_ret (v := .tuple #[.agg #[.int .i64 v, .int .i64 1, .int .i64 v', .string C], .int .i64 0]) (by simp [results, Tryz.results56, go_sem]) rfl ⟨rfl, (Below.refl _ _).alloc (Nat.le_refl _) _⟩

set_option maxRecDepth 100000 in
theorem pay_code2 (s : ByteArray) (l : Nat) (w : World) (hs : s.size ≤ 9223372036854775807) (hl : l ≤ 1024) (c v m p : Nat) (hR : Sl.var (s.data.toList.drop 0) = ⟨c, v, m⟩) (hp : (if c = 0 then 0 + m else 0) = p) (hv : v < 18446744073709551616) (hc : c ≤ 32) (hpl : p ≤ s.size) (h0 : ¬ c = 0) :
    Calls Tryz.prog 56 #[.int .i64 2, .string s, .int .i64 l] w fun e w' => e = .returned (noV c) ∧ Below w.heap.size w w' := by
  have ht : ((c : Int) != 0) = true := by rw [bne_iff_ne]; omega
  have HR := Lib.hid hR
  have HP := Lib.hid hp
  clear hR hp
  go_enter Tryz.func56, Tryz.ntmps56
  go_wp2_with fail
  refine (var_tell s 0 c v m p _ hs (Nat.zero_le _) HR.out HP.out).mono ?_
  rintro e w' ⟨rfl, rfl⟩
  go_wp2_with fail
  exact bodyPost_ret (v := noV c) (by unfold noV; simp [results, Tryz.results56, go_sem]) rfl ⟨rfl, (Below.refl _ _).alloc (Nat.le_refl _) _⟩

set_option maxRecDepth 100000 in
theorem pay_low2 (s : ByteArray) (l : Nat) (w : World) (hs : s.size ≤ 9223372036854775807) (hl : l ≤ 1024) (c v m p : Nat) (hR : Sl.var (s.data.toList.drop 0) = ⟨c, v, m⟩) (hp : (if c = 0 then 0 + m else 0) = p) (hv : v < 18446744073709551616) (hc : c ≤ 32) (hpl : p ≤ s.size) (h0 : c = 0) (h1 : v < 1) :
    Calls Tryz.prog 56 #[.int .i64 2, .string s, .int .i64 l] w fun e w' => e = .returned (noV 51) ∧ Below w.heap.size w w' := by
  have ht : ((c : Int) != 0) = false := by rw [bne_eq_false_iff_eq]; omega
  have hv1 : decide ((v : Int) < 1) = true := by rw [decide_eq_true_iff]; omega
  have HR := Lib.hid hR
  have HP := Lib.hid hp
  clear hR hp
  go_enter Tryz.func56, Tryz.ntmps56
  go_wp2_with fail
  refine (var_tell s 0 c v m p _ hs (Nat.zero_le _) HR.out HP.out).mono ?_
  rintro e w' ⟨rfl, rfl⟩
  go_wp2_with fail
  exact bodyPost_ret (v := noV 51) (by unfold noV; simp [results, Tryz.results56, go_sem]) rfl ⟨rfl, (Below.refl _ _).alloc (Nat.le_refl _) _⟩

set_option maxRecDepth 100000 in
theorem pay_high2 (s : ByteArray) (l : Nat) (w : World) (hs : s.size ≤ 9223372036854775807) (hl : l ≤ 1024) (c v m p : Nat) (hR : Sl.var (s.data.toList.drop 0) = ⟨c, v, m⟩) (hp : (if c = 0 then 0 + m else 0) = p) (hv : v < 18446744073709551616) (hc : c ≤ 32) (hpl : p ≤ s.size) (h0 : c = 0) (h1 : 1152921504606846976 < v) :
    Calls Tryz.prog 56 #[.int .i64 2, .string s, .int .i64 l] w fun e w' => e = .returned (noV 51) ∧ Below w.heap.size w w' := by
  have ht : ((c : Int) != 0) = false := by rw [bne_eq_false_iff_eq]; omega
  have hv1 : decide ((v : Int) < 1) = false := by rw [decide_eq_false_iff_not]; omega
  have hv2 : decide ((1152921504606846976 : Int) < (v : Int)) = true := by rw [decide_eq_true_iff]; omega
  have HR := Lib.hid hR
  have HP := Lib.hid hp
  clear hR hp
  go_enter Tryz.func56, Tryz.ntmps56
  go_wp2_with fail
  refine (var_tell s 0 c v m p _ hs (Nat.zero_le _) HR.out HP.out).mono ?_
  rintro e w' ⟨rfl, rfl⟩
  go_wp2_with fail
  exact bodyPost_ret (v := noV 51) (by unfold noV; simp [results, Tryz.results56, go_sem]) rfl ⟨rfl, (Below.refl _ _).alloc (Nat.le_refl _) _⟩

set_option maxRecDepth 100000 in
theorem pay_code22 (s : ByteArray) (l : Nat) (w : World) (hs : s.size ≤ 9223372036854775807) (hl : l ≤ 1024) (c v m p : Nat) (hR : Sl.var (s.data.toList.drop 0) = ⟨c, v, m⟩) (hp : (if c = 0 then 0 + m else 0) = p) (hv : v < 18446744073709551616) (hc : c ≤ 32) (hpl : p ≤ s.size) (c' v' m' p' : Nat) (hR' : Sl.var (s.data.toList.drop p) = ⟨c', v', m'⟩) (hp' : (if c' = 0 then p + m' else 0) = p') (hv' : v' < 18446744073709551616) (hc' : c' ≤ 32) (hpl' : p' ≤ s.size) (h0 : c = 0) (h1 : 1 ≤ v) (h2 : v ≤ 1152921504606846976) (h3 : ¬ c' = 0) :
    Calls Tryz.prog 56 #[.int .i64 2, .string s, .int .i64 l] w fun e w' => e = .returned (noV c') ∧ Below w.heap.size w w' := by
  have ht : ((c : Int) != 0) = false := by rw [bne_eq_false_iff_eq]; omega
  have hv1 : decide ((v : Int) < 1) = false := by rw [decide_eq_false_iff_not]; omega
  have hv2 : decide ((1152921504606846976 : Int) < (v : Int)) = false := by rw [decide_eq_false_iff_not]; omega
  have ht' : ((c' : Int) != 0) = true := by rw [bne_iff_ne]; omega
  have HR := Lib.hid hR
  have HP := Lib.hid hp
  have HR2 := Lib.hid hR'
  have HP2 := Lib.hid hp'
  clear hR hp hR' hp'
  go_enter Tryz.func56, Tryz.ntmps56
  go_wp2_with fail
  refine (var_tell s 0 c v m p _ hs (Nat.zero_le _) HR.out HP.out).mono ?_
  rintro e w' ⟨rfl, rfl⟩
  go_wp2_with fail
  refine (var_tell s p c' v' m' p' _ hs hpl HR2.out HP2.out).mono ?_
  rintro e w' ⟨rfl, rfl⟩
  go_wp2_with fail
  exact bodyPost_ret (v := noV c') (by unfold noV; simp [results, Tryz.results56, go_sem]) rfl ⟨rfl, (Below.refl _ _).alloc (Nat.le_refl _) _⟩

set_option maxRecDepth 100000 in
theorem pay_id2 (s : ByteArray) (l : Nat) (w : World) (hs : s.size ≤ 9223372036854775807) (hl : l ≤ 1024) (c v m p : Nat) (hR : Sl.var (s.data.toList.drop 0) = ⟨c, v, m⟩) (hp : (if c = 0 then 0 + m else 0) = p) (hv : v < 18446744073709551616) (hc : c ≤ 32) (hpl : p ≤ s.size) (c' v' m' p' : Nat) (hR' : Sl.var (s.data.toList.drop p) = ⟨c', v', m'⟩) (hp' : (if c' = 0 then p + m' else 0) = p') (hv' : v' < 18446744073709551616) (hc' : c' ≤ 32) (hpl' : p' ≤ s.size) (h0 : c = 0) (h1 : 1 ≤ v) (h2 : v ≤ 1152921504606846976) (h3 : c' = 0) (h4 : 281474976710656 < v') :
    Calls Tryz.prog 56 #[.int .i64 2, .string s, .int .i64 l] w fun e w' => e = .returned (noV 60) ∧ Below w.heap.size w w' := by
  have ht : ((c : Int) != 0) = false := by rw [bne_eq_false_iff_eq]; omega
  have hv1 : decide ((v : Int) < 1) = false := by rw [decide_eq_false_iff_not]; omega
  have hv2 : decide ((1152921504606846976 : Int) < (v : Int)) = false := by rw [decide_eq_false_iff_not]; omega
  have ht' : ((c' : Int) != 0) = false := by rw [bne_eq_false_iff_eq]; omega
  have hw : decide ((281474976710656 : Int) < (v' : Int)) = true := by rw [decide_eq_true_iff]; omega
  have HR := Lib.hid hR
  have HP := Lib.hid hp
  have HR2 := Lib.hid hR'
  have HP2 := Lib.hid hp'
  clear hR hp hR' hp'
  go_enter Tryz.func56, Tryz.ntmps56
  go_wp2_with fail
  refine (var_tell s 0 c v m p _ hs (Nat.zero_le _) HR.out HP.out).mono ?_
  rintro e w' ⟨rfl, rfl⟩
  go_wp2_with fail
  refine (var_tell s p c' v' m' p' _ hs hpl HR2.out HP2.out).mono ?_
  rintro e w' ⟨rfl, rfl⟩
  go_wp2_with fail
  exact bodyPost_ret (v := noV 60) (by unfold noV; simp [results, Tryz.results56, go_sem]) rfl ⟨rfl, (Below.refl _ _).alloc (Nat.le_refl _) _⟩

set_option maxRecDepth 100000 in
theorem pay_len2 (s : ByteArray) (l : Nat) (w : World) (hs : s.size ≤ 9223372036854775807) (hl : l ≤ 1024) (c v m p : Nat) (hR : Sl.var (s.data.toList.drop 0) = ⟨c, v, m⟩) (hp : (if c = 0 then 0 + m else 0) = p) (hv : v < 18446744073709551616) (hc : c ≤ 32) (hpl : p ≤ s.size) (c' v' m' p' : Nat) (hR' : Sl.var (s.data.toList.drop p) = ⟨c', v', m'⟩) (hp' : (if c' = 0 then p + m' else 0) = p') (hv' : v' < 18446744073709551616) (hc' : c' ≤ 32) (hpl' : p' ≤ s.size) (h0 : c = 0) (h1 : 1 ≤ v) (h2 : v ≤ 1152921504606846976) (h3 : c' = 0) (h4 : v' ≤ 281474976710656) (C : ByteArray) (hC : s.extract p' s.size = C) (hCs : C.size + p' = s.size) (h5 : ¬ C.size = 0) :
    Calls Tryz.prog 56 #[.int .i64 2, .string s, .int .i64 l] w fun e w' => e = .returned (noV 11) ∧ Below w.heap.size w w' := by
  have ht : ((c : Int) != 0) = false := by rw [bne_eq_false_iff_eq]; omega
  have hv1 : decide ((v : Int) < 1) = false := by rw [decide_eq_false_iff_not]; omega
  have hv2 : decide ((1152921504606846976 : Int) < (v : Int)) = false := by rw [decide_eq_false_iff_not]; omega
  have ht' : ((c' : Int) != 0) = false := by rw [bne_eq_false_iff_eq]; omega
  have hw : decide ((281474976710656 : Int) < (v' : Int)) = false := by rw [decide_eq_false_iff_not]; omega
  have hz := ne_of C (by omega)
  have HR := Lib.hid hR
  have HP := Lib.hid hp
  have HR2 := Lib.hid hR'
  have HP2 := Lib.hid hp'
  clear hR hp hR' hp'
  go_enter Tryz.func56, Tryz.ntmps56
  go_wp2_with fail
  refine (var_tell s 0 c v m p _ hs (Nat.zero_le _) HR.out HP.out).mono ?_
  rintro e w' ⟨rfl, rfl⟩
  go_wp2_with fail
  refine (var_tell s p c' v' m' p' _ hs hpl HR2.out HP2.out).mono ?_
  rintro e w' ⟨rfl, rfl⟩
  go_wp2_with fail
  exact bodyPost_ret (v := noV 11) (by unfold noV; simp [results, Tryz.results56, go_sem]) rfl ⟨rfl, (Below.refl _ _).alloc (Nat.le_refl _) _⟩

set_option maxRecDepth 100000 in
theorem pay_good2 (s : ByteArray) (l : Nat) (w : World) (hs : s.size ≤ 9223372036854775807) (hl : l ≤ 1024) (c v m p : Nat) (hR : Sl.var (s.data.toList.drop 0) = ⟨c, v, m⟩) (hp : (if c = 0 then 0 + m else 0) = p) (hv : v < 18446744073709551616) (hc : c ≤ 32) (hpl : p ≤ s.size) (c' v' m' p' : Nat) (hR' : Sl.var (s.data.toList.drop p) = ⟨c', v', m'⟩) (hp' : (if c' = 0 then p + m' else 0) = p') (hv' : v' < 18446744073709551616) (hc' : c' ≤ 32) (hpl' : p' ≤ s.size) (h0 : c = 0) (h1 : 1 ≤ v) (h2 : v ≤ 1152921504606846976) (h3 : c' = 0) (h4 : v' ≤ 281474976710656) (C : ByteArray) (hC : s.extract p' s.size = C) (hCs : C.size + p' = s.size) (h5 : C.size = 0) :
    Calls Tryz.prog 56 #[.int .i64 2, .string s, .int .i64 l] w fun e w' => e = .returned (.tuple #[.agg #[.int .i64 v, .int .i64 2, .int .i64 v', .string C], .int .i64 0]) ∧ Below w.heap.size w w' := by
  have ht : ((c : Int) != 0) = false := by rw [bne_eq_false_iff_eq]; omega
  have hv1 : decide ((v : Int) < 1) = false := by rw [decide_eq_false_iff_not]; omega
  have hv2 : decide ((1152921504606846976 : Int) < (v : Int)) = false := by rw [decide_eq_false_iff_not]; omega
  have ht' : ((c' : Int) != 0) = false := by rw [bne_eq_false_iff_eq]; omega
  have hw : decide ((281474976710656 : Int) < (v' : Int)) = false := by rw [decide_eq_false_iff_not]; omega
  have hz : C.toList.isEmpty = true := by
    rw [ByteArray.toList_eq, List.isEmpty_iff]
    apply List.eq_nil_of_length_eq_zero
    rw [Array.length_toList]; exact h5
  have HR := Lib.hid hR
  have HP := Lib.hid hp
  have HR2 := Lib.hid hR'
  have HP2 := Lib.hid hp'
  clear hR hp hR' hp'
  go_enter Tryz.func56, Tryz.ntmps56
  go_wp2_with fail
  refine (var_tell s 0 c v m p _ hs (Nat.zero_le _) HR.out HP.out).mono ?_
  rintro e w' ⟨rfl, rfl⟩
  go_wp2_with fail
  refine (var_tell s p c' v' m' p' _ hs hpl HR2.out HP2.out).mono ?_
  rintro e w' ⟨rfl, rfl⟩
  go_wp2_with fail
  exact bodyPost_ret (v := .tuple #[.agg #[.int .i64 v, .int .i64 2, .int .i64 v', .string C], .int .i64 0]) (by simp [results, Tryz.results56, go_sem]) rfl ⟨rfl, (Below.refl _ _).alloc (Nat.le_refl _) _⟩

set_option maxRecDepth 100000 in
theorem refPay_code1 (s : ByteArray) (l : Nat) (w : World) (hs : s.size ≤ 9223372036854775807) (hl : l ≤ 1024) (c v m p : Nat) (hR : Sl.var (s.data.toList.drop 0) = ⟨c, v, m⟩) (hp : (if c = 0 then 0 + m else 0) = p) (hv : v < 18446744073709551616) (hc : c ≤ 32) (hpl : p ≤ s.size) (h0 : ¬ c = 0) :
    Calls Tryz.prog 92 #[.int .i64 1, .string s, .int .i64 l] w fun e w' => e = .returned (noV c) ∧ Below w.heap.size w w' := by
  have ht : ((c : Int) != 0) = true := by rw [bne_iff_ne]; omega
  have HR := Lib.hid hR
  have HP := Lib.hid hp
  clear hR hp
  go_enter Tryz.func92, Tryz.ntmps92
  go_wp2_with fail
  refine (refVar_tell s 0 c v m p _ hs (Nat.zero_le _) HR.out HP.out).mono ?_
  rintro e w' ⟨rfl, rfl⟩
  go_wp2_with fail
  exact bodyPost_ret (v := noV c) (by unfold noV; simp [results, Tryz.results92, go_sem]) rfl ⟨rfl, (Below.refl _ _).alloc (Nat.le_refl _) _⟩

set_option maxRecDepth 100000 in
theorem refPay_low1 (s : ByteArray) (l : Nat) (w : World) (hs : s.size ≤ 9223372036854775807) (hl : l ≤ 1024) (c v m p : Nat) (hR : Sl.var (s.data.toList.drop 0) = ⟨c, v, m⟩) (hp : (if c = 0 then 0 + m else 0) = p) (hv : v < 18446744073709551616) (hc : c ≤ 32) (hpl : p ≤ s.size) (h0 : c = 0) (h1 : v < 1) :
    Calls Tryz.prog 92 #[.int .i64 1, .string s, .int .i64 l] w fun e w' => e = .returned (noV 51) ∧ Below w.heap.size w w' := by
  have ht : ((c : Int) != 0) = false := by rw [bne_eq_false_iff_eq]; omega
  have hv1 : decide ((v : Int) < 1) = true := by rw [decide_eq_true_iff]; omega
  have HR := Lib.hid hR
  have HP := Lib.hid hp
  clear hR hp
  go_enter Tryz.func92, Tryz.ntmps92
  go_wp2_with fail
  refine (refVar_tell s 0 c v m p _ hs (Nat.zero_le _) HR.out HP.out).mono ?_
  rintro e w' ⟨rfl, rfl⟩
  go_wp2_with fail
  exact bodyPost_ret (v := noV 51) (by unfold noV; simp [results, Tryz.results92, go_sem]) rfl ⟨rfl, (Below.refl _ _).alloc (Nat.le_refl _) _⟩

set_option maxRecDepth 100000 in
theorem refPay_high1 (s : ByteArray) (l : Nat) (w : World) (hs : s.size ≤ 9223372036854775807) (hl : l ≤ 1024) (c v m p : Nat) (hR : Sl.var (s.data.toList.drop 0) = ⟨c, v, m⟩) (hp : (if c = 0 then 0 + m else 0) = p) (hv : v < 18446744073709551616) (hc : c ≤ 32) (hpl : p ≤ s.size) (h0 : c = 0) (h1 : 1152921504606846976 < v) :
    Calls Tryz.prog 92 #[.int .i64 1, .string s, .int .i64 l] w fun e w' => e = .returned (noV 51) ∧ Below w.heap.size w w' := by
  have ht : ((c : Int) != 0) = false := by rw [bne_eq_false_iff_eq]; omega
  have hv1 : decide ((v : Int) < 1) = false := by rw [decide_eq_false_iff_not]; omega
  have hv2 : decide ((1152921504606846976 : Int) < (v : Int)) = true := by rw [decide_eq_true_iff]; omega
  have HR := Lib.hid hR
  have HP := Lib.hid hp
  clear hR hp
  go_enter Tryz.func92, Tryz.ntmps92
  go_wp2_with fail
  refine (refVar_tell s 0 c v m p _ hs (Nat.zero_le _) HR.out HP.out).mono ?_
  rintro e w' ⟨rfl, rfl⟩
  go_wp2_with fail
  exact bodyPost_ret (v := noV 51) (by unfold noV; simp [results, Tryz.results92, go_sem]) rfl ⟨rfl, (Below.refl _ _).alloc (Nat.le_refl _) _⟩

set_option maxRecDepth 100000 in
theorem refPay_code21 (s : ByteArray) (l : Nat) (w : World) (hs : s.size ≤ 9223372036854775807) (hl : l ≤ 1024) (c v m p : Nat) (hR : Sl.var (s.data.toList.drop 0) = ⟨c, v, m⟩) (hp : (if c = 0 then 0 + m else 0) = p) (hv : v < 18446744073709551616) (hc : c ≤ 32) (hpl : p ≤ s.size) (c' v' m' p' : Nat) (hR' : Sl.var (s.data.toList.drop p) = ⟨c', v', m'⟩) (hp' : (if c' = 0 then p + m' else 0) = p') (hv' : v' < 18446744073709551616) (hc' : c' ≤ 32) (hpl' : p' ≤ s.size) (h0 : c = 0) (h1 : 1 ≤ v) (h2 : v ≤ 1152921504606846976) (h3 : ¬ c' = 0) :
    Calls Tryz.prog 92 #[.int .i64 1, .string s, .int .i64 l] w fun e w' => e = .returned (noV c') ∧ Below w.heap.size w w' := by
  have ht : ((c : Int) != 0) = false := by rw [bne_eq_false_iff_eq]; omega
  have hv1 : decide ((v : Int) < 1) = false := by rw [decide_eq_false_iff_not]; omega
  have hv2 : decide ((1152921504606846976 : Int) < (v : Int)) = false := by rw [decide_eq_false_iff_not]; omega
  have ht' : ((c' : Int) != 0) = true := by rw [bne_iff_ne]; omega
  have HR := Lib.hid hR
  have HP := Lib.hid hp
  have HR2 := Lib.hid hR'
  have HP2 := Lib.hid hp'
  clear hR hp hR' hp'
  go_enter Tryz.func92, Tryz.ntmps92
  go_wp2_with fail
  refine (refVar_tell s 0 c v m p _ hs (Nat.zero_le _) HR.out HP.out).mono ?_
  rintro e w' ⟨rfl, rfl⟩
  go_wp2_with fail
  refine (refVar_tell s p c' v' m' p' _ hs hpl HR2.out HP2.out).mono ?_
  rintro e w' ⟨rfl, rfl⟩
  go_wp2_with fail
  exact bodyPost_ret (v := noV c') (by unfold noV; simp [results, Tryz.results92, go_sem]) rfl ⟨rfl, (Below.refl _ _).alloc (Nat.le_refl _) _⟩

set_option maxRecDepth 100000 in
theorem refPay_id1 (s : ByteArray) (l : Nat) (w : World) (hs : s.size ≤ 9223372036854775807) (hl : l ≤ 1024) (c v m p : Nat) (hR : Sl.var (s.data.toList.drop 0) = ⟨c, v, m⟩) (hp : (if c = 0 then 0 + m else 0) = p) (hv : v < 18446744073709551616) (hc : c ≤ 32) (hpl : p ≤ s.size) (c' v' m' p' : Nat) (hR' : Sl.var (s.data.toList.drop p) = ⟨c', v', m'⟩) (hp' : (if c' = 0 then p + m' else 0) = p') (hv' : v' < 18446744073709551616) (hc' : c' ≤ 32) (hpl' : p' ≤ s.size) (h0 : c = 0) (h1 : 1 ≤ v) (h2 : v ≤ 1152921504606846976) (h3 : c' = 0) (h4 : 281474976710656 < v') :
    Calls Tryz.prog 92 #[.int .i64 1, .string s, .int .i64 l] w fun e w' => e = .returned (noV 60) ∧ Below w.heap.size w w' := by
  have ht : ((c : Int) != 0) = false := by rw [bne_eq_false_iff_eq]; omega
  have hv1 : decide ((v : Int) < 1) = false := by rw [decide_eq_false_iff_not]; omega
  have hv2 : decide ((1152921504606846976 : Int) < (v : Int)) = false := by rw [decide_eq_false_iff_not]; omega
  have ht' : ((c' : Int) != 0) = false := by rw [bne_eq_false_iff_eq]; omega
  have hw : decide ((281474976710656 : Int) < (v' : Int)) = true := by rw [decide_eq_true_iff]; omega
  have HR := Lib.hid hR
  have HP := Lib.hid hp
  have HR2 := Lib.hid hR'
  have HP2 := Lib.hid hp'
  clear hR hp hR' hp'
  go_enter Tryz.func92, Tryz.ntmps92
  go_wp2_with fail
  refine (refVar_tell s 0 c v m p _ hs (Nat.zero_le _) HR.out HP.out).mono ?_
  rintro e w' ⟨rfl, rfl⟩
  go_wp2_with fail
  refine (refVar_tell s p c' v' m' p' _ hs hpl HR2.out HP2.out).mono ?_
  rintro e w' ⟨rfl, rfl⟩
  go_wp2_with fail
  exact bodyPost_ret (v := noV 60) (by unfold noV; simp [results, Tryz.results92, go_sem]) rfl ⟨rfl, (Below.refl _ _).alloc (Nat.le_refl _) _⟩

set_option maxRecDepth 100000 in
theorem refPay_len1 (s : ByteArray) (l : Nat) (w : World) (hs : s.size ≤ 9223372036854775807) (hl : l ≤ 1024) (c v m p : Nat) (hR : Sl.var (s.data.toList.drop 0) = ⟨c, v, m⟩) (hp : (if c = 0 then 0 + m else 0) = p) (hv : v < 18446744073709551616) (hc : c ≤ 32) (hpl : p ≤ s.size) (c' v' m' p' : Nat) (hR' : Sl.var (s.data.toList.drop p) = ⟨c', v', m'⟩) (hp' : (if c' = 0 then p + m' else 0) = p') (hv' : v' < 18446744073709551616) (hc' : c' ≤ 32) (hpl' : p' ≤ s.size) (h0 : c = 0) (h1 : 1 ≤ v) (h2 : v ≤ 1152921504606846976) (h3 : c' = 0) (h4 : v' ≤ 281474976710656) (C : ByteArray) (hC : s.extract p' s.size = C) (hCs : C.size + p' = s.size) (h5 : ¬ C.size = l / 8) :
    Calls Tryz.prog 92 #[.int .i64 1, .string s, .int .i64 l] w fun e w' => e = .returned (noV 11) ∧ Below w.heap.size w w' := by
  have ht : ((c : Int) != 0) = false := by rw [bne_eq_false_iff_eq]; omega
  have hv1 : decide ((v : Int) < 1) = false := by rw [decide_eq_false_iff_not]; omega
  have hv2 : decide ((1152921504606846976 : Int) < (v : Int)) = false := by rw [decide_eq_false_iff_not]; omega
  have ht' : ((c' : Int) != 0) = false := by rw [bne_eq_false_iff_eq]; omega
  have hw : decide ((281474976710656 : Int) < (v' : Int)) = false := by rw [decide_eq_false_iff_not]; omega
  have hq : (l : Int).tdiv 8 = ((l / 8 : Nat) : Int) := by rw [Int.tdiv_eq_ediv_of_nonneg (by omega)]; rfl
  have hz : ((C.size : Int) != ((l / 8 : Nat) : Int)) = true := by rw [bne_iff_ne]; omega
  have HR := Lib.hid hR
  have HP := Lib.hid hp
  have HR2 := Lib.hid hR'
  have HP2 := Lib.hid hp'
  clear hR hp hR' hp'
  go_enter Tryz.func92, Tryz.ntmps92
  go_wp2_with fail
  refine (refVar_tell s 0 c v m p _ hs (Nat.zero_le _) HR.out HP.out).mono ?_
  rintro e w' ⟨rfl, rfl⟩
  go_wp2_with fail
  refine (refVar_tell s p c' v' m' p' _ hs hpl HR2.out HP2.out).mono ?_
  rintro e w' ⟨rfl, rfl⟩
  go_wp2_with fail
  exact bodyPost_ret (v := noV 11) (by unfold noV; simp [results, Tryz.results92, go_sem]) rfl ⟨rfl, (Below.refl _ _).alloc (Nat.le_refl _) _⟩

set_option maxRecDepth 100000 in
theorem refPay_good1 (s : ByteArray) (l : Nat) (w : World) (hs : s.size ≤ 9223372036854775807) (hl : l ≤ 1024) (c v m p : Nat) (hR : Sl.var (s.data.toList.drop 0) = ⟨c, v, m⟩) (hp : (if c = 0 then 0 + m else 0) = p) (hv : v < 18446744073709551616) (hc : c ≤ 32) (hpl : p ≤ s.size) (c' v' m' p' : Nat) (hR' : Sl.var (s.data.toList.drop p) = ⟨c', v', m'⟩) (hp' : (if c' = 0 then p + m' else 0) = p') (hv' : v' < 18446744073709551616) (hc' : c' ≤ 32) (hpl' : p' ≤ s.size) (h0 : c = 0) (h1 : 1 ≤ v) (h2 : v ≤ 1152921504606846976) (h3 : c' = 0) (h4 : v' ≤ 281474976710656) (C : ByteArray) (hC : s.extract p' s.size = C) (hCs : C.size + p' = s.size) (h5 : C.size = l / 8) :
    Calls Tryz.prog 92 #[.int .i64 1, .string s, .int .i64 l] w fun e w' => e = .returned (.tuple #[.agg #[.int .i64 v, .int .i64 1, .int .i64 v', .string C], .int .i64 0]) ∧ Below w.heap.size w w' := by
  have ht : ((c : Int) != 0) = false := by rw [bne_eq_false_iff_eq]; omega
  have hv1 : decide ((v : Int) < 1) = false := by rw [decide_eq_false_iff_not]; omega
  have hv2 : decide ((1152921504606846976 : Int) < (v : Int)) = false := by rw [decide_eq_false_iff_not]; omega
  have ht' : ((c' : Int) != 0) = false := by rw [bne_eq_false_iff_eq]; omega
  have hw : decide ((281474976710656 : Int) < (v' : Int)) = false := by rw [decide_eq_false_iff_not]; omega
  have hq : (l : Int).tdiv 8 = ((l / 8 : Nat) : Int) := by rw [Int.tdiv_eq_ediv_of_nonneg (by omega)]; rfl
  have hz : ((C.size : Int) != ((l / 8 : Nat) : Int)) = false := by rw [bne_eq_false_iff_eq]; omega
  have HR := Lib.hid hR
  have HP := Lib.hid hp
  have HR2 := Lib.hid hR'
  have HP2 := Lib.hid hp'
  clear hR hp hR' hp'
  go_enter Tryz.func92, Tryz.ntmps92
  go_wp2_with fail
  refine (refVar_tell s 0 c v m p _ hs (Nat.zero_le _) HR.out HP.out).mono ?_
  rintro e w' ⟨rfl, rfl⟩
  go_wp2_with fail
  refine (refVar_tell s p c' v' m' p' _ hs hpl HR2.out HP2.out).mono ?_
  rintro e w' ⟨rfl, rfl⟩
  go_wp2_with fail
  exact bodyPost_ret (v := .tuple #[.agg #[.int .i64 v, .int .i64 1, .int .i64 v', .string C], .int .i64 0]) (by simp [results, Tryz.results92, go_sem]) rfl ⟨rfl, (Below.refl _ _).alloc (Nat.le_refl _) _⟩

set_option maxRecDepth 100000 in
theorem refPay_code2 (s : ByteArray) (l : Nat) (w : World) (hs : s.size ≤ 9223372036854775807) (hl : l ≤ 1024) (c v m p : Nat) (hR : Sl.var (s.data.toList.drop 0) = ⟨c, v, m⟩) (hp : (if c = 0 then 0 + m else 0) = p) (hv : v < 18446744073709551616) (hc : c ≤ 32) (hpl : p ≤ s.size) (h0 : ¬ c = 0) :
    Calls Tryz.prog 92 #[.int .i64 2, .string s, .int .i64 l] w fun e w' => e = .returned (noV c) ∧ Below w.heap.size w w' := by
  have ht : ((c : Int) != 0) = true := by rw [bne_iff_ne]; omega
  have HR := Lib.hid hR
  have HP := Lib.hid hp
  clear hR hp
  go_enter Tryz.func92, Tryz.ntmps92
  go_wp2_with fail
  refine (refVar_tell s 0 c v m p _ hs (Nat.zero_le _) HR.out HP.out).mono ?_
  rintro e w' ⟨rfl, rfl⟩
  go_wp2_with fail
  exact bodyPost_ret (v := noV c) (by unfold noV; simp [results, Tryz.results92, go_sem]) rfl ⟨rfl, (Below.refl _ _).alloc (Nat.le_refl _) _⟩

set_option maxRecDepth 100000 in
theorem refPay_low2 (s : ByteArray) (l : Nat) (w : World) (hs : s.size ≤ 9223372036854775807) (hl : l ≤ 1024) (c v m p : Nat) (hR : Sl.var (s.data.toList.drop 0) = ⟨c, v, m⟩) (hp : (if c = 0 then 0 + m else 0) = p) (hv : v < 18446744073709551616) (hc : c ≤ 32) (hpl : p ≤ s.size) (h0 : c = 0) (h1 : v < 1) :
    Calls Tryz.prog 92 #[.int .i64 2, .string s, .int .i64 l] w fun e w' => e = .returned (noV 51) ∧ Below w.heap.size w w' := by
  have ht : ((c : Int) != 0) = false := by rw [bne_eq_false_iff_eq]; omega
  have hv1 : decide ((v : Int) < 1) = true := by rw [decide_eq_true_iff]; omega
  have HR := Lib.hid hR
  have HP := Lib.hid hp
  clear hR hp
  go_enter Tryz.func92, Tryz.ntmps92
  go_wp2_with fail
  refine (refVar_tell s 0 c v m p _ hs (Nat.zero_le _) HR.out HP.out).mono ?_
  rintro e w' ⟨rfl, rfl⟩
  go_wp2_with fail
  exact bodyPost_ret (v := noV 51) (by unfold noV; simp [results, Tryz.results92, go_sem]) rfl ⟨rfl, (Below.refl _ _).alloc (Nat.le_refl _) _⟩

set_option maxRecDepth 100000 in
theorem refPay_high2 (s : ByteArray) (l : Nat) (w : World) (hs : s.size ≤ 9223372036854775807) (hl : l ≤ 1024) (c v m p : Nat) (hR : Sl.var (s.data.toList.drop 0) = ⟨c, v, m⟩) (hp : (if c = 0 then 0 + m else 0) = p) (hv : v < 18446744073709551616) (hc : c ≤ 32) (hpl : p ≤ s.size) (h0 : c = 0) (h1 : 1152921504606846976 < v) :
    Calls Tryz.prog 92 #[.int .i64 2, .string s, .int .i64 l] w fun e w' => e = .returned (noV 51) ∧ Below w.heap.size w w' := by
  have ht : ((c : Int) != 0) = false := by rw [bne_eq_false_iff_eq]; omega
  have hv1 : decide ((v : Int) < 1) = false := by rw [decide_eq_false_iff_not]; omega
  have hv2 : decide ((1152921504606846976 : Int) < (v : Int)) = true := by rw [decide_eq_true_iff]; omega
  have HR := Lib.hid hR
  have HP := Lib.hid hp
  clear hR hp
  go_enter Tryz.func92, Tryz.ntmps92
  go_wp2_with fail
  refine (refVar_tell s 0 c v m p _ hs (Nat.zero_le _) HR.out HP.out).mono ?_
  rintro e w' ⟨rfl, rfl⟩
  go_wp2_with fail
  exact bodyPost_ret (v := noV 51) (by unfold noV; simp [results, Tryz.results92, go_sem]) rfl ⟨rfl, (Below.refl _ _).alloc (Nat.le_refl _) _⟩

set_option maxRecDepth 100000 in
theorem refPay_code22 (s : ByteArray) (l : Nat) (w : World) (hs : s.size ≤ 9223372036854775807) (hl : l ≤ 1024) (c v m p : Nat) (hR : Sl.var (s.data.toList.drop 0) = ⟨c, v, m⟩) (hp : (if c = 0 then 0 + m else 0) = p) (hv : v < 18446744073709551616) (hc : c ≤ 32) (hpl : p ≤ s.size) (c' v' m' p' : Nat) (hR' : Sl.var (s.data.toList.drop p) = ⟨c', v', m'⟩) (hp' : (if c' = 0 then p + m' else 0) = p') (hv' : v' < 18446744073709551616) (hc' : c' ≤ 32) (hpl' : p' ≤ s.size) (h0 : c = 0) (h1 : 1 ≤ v) (h2 : v ≤ 1152921504606846976) (h3 : ¬ c' = 0) :
    Calls Tryz.prog 92 #[.int .i64 2, .string s, .int .i64 l] w fun e w' => e = .returned (noV c') ∧ Below w.heap.size w w' := by
  have ht : ((c : Int) != 0) = false := by rw [bne_eq_false_iff_eq]; omega
  have hv1 : decide ((v : Int) < 1) = false := by rw [decide_eq_false_iff_not]; omega
  have hv2 : decide ((1152921504606846976 : Int) < (v : Int)) = false := by rw [decide_eq_false_iff_not]; omega
  have ht' : ((c' : Int) != 0) = true := by rw [bne_iff_ne]; omega
  have HR := Lib.hid hR
  have HP := Lib.hid hp
  have HR2 := Lib.hid hR'
  have HP2 := Lib.hid hp'
  clear hR hp hR' hp'
  go_enter Tryz.func92, Tryz.ntmps92
  go_wp2_with fail
  refine (refVar_tell s 0 c v m p _ hs (Nat.zero_le _) HR.out HP.out).mono ?_
  rintro e w' ⟨rfl, rfl⟩
  go_wp2_with fail
  refine (refVar_tell s p c' v' m' p' _ hs hpl HR2.out HP2.out).mono ?_
  rintro e w' ⟨rfl, rfl⟩
  go_wp2_with fail
  exact bodyPost_ret (v := noV c') (by unfold noV; simp [results, Tryz.results92, go_sem]) rfl ⟨rfl, (Below.refl _ _).alloc (Nat.le_refl _) _⟩

set_option maxRecDepth 100000 in
theorem refPay_id2 (s : ByteArray) (l : Nat) (w : World) (hs : s.size ≤ 9223372036854775807) (hl : l ≤ 1024) (c v m p : Nat) (hR : Sl.var (s.data.toList.drop 0) = ⟨c, v, m⟩) (hp : (if c = 0 then 0 + m else 0) = p) (hv : v < 18446744073709551616) (hc : c ≤ 32) (hpl : p ≤ s.size) (c' v' m' p' : Nat) (hR' : Sl.var (s.data.toList.drop p) = ⟨c', v', m'⟩) (hp' : (if c' = 0 then p + m' else 0) = p') (hv' : v' < 18446744073709551616) (hc' : c' ≤ 32) (hpl' : p' ≤ s.size) (h0 : c = 0) (h1 : 1 ≤ v) (h2 : v ≤ 1152921504606846976) (h3 : c' = 0) (h4 : 281474976710656 < v') :
    Calls Tryz.prog 92 #[.int .i64 2, .string s, .int .i64 l] w fun e w' => e = .returned (noV 60) ∧ Below w.heap.size w w' := by
  have ht : ((c : Int) != 0) = false := by rw [bne_eq_false_iff_eq]; omega
  have hv1 : decide ((v : Int) < 1) = false := by rw [decide_eq_false_iff_not]; omega
  have hv2 : decide ((1152921504606846976 : Int) < (v : Int)) = false := by rw [decide_eq_false_iff_not]; omega
  have ht' : ((c' : Int) != 0) = false := by rw [bne_eq_false_iff_eq]; omega
  have hw : decide ((281474976710656 : Int) < (v' : Int)) = true := by rw [decide_eq_true_iff]; omega
  have HR := Lib.hid hR
  have HP := Lib.hid hp
  have HR2 := Lib.hid hR'
  have HP2 := Lib.hid hp'
  clear hR hp hR' hp'
  go_enter Tryz.func92, Tryz.ntmps92
  go_wp2_with fail
  refine (refVar_tell s 0 c v m p _ hs (Nat.zero_le _) HR.out HP.out).mono ?_
  rintro e w' ⟨rfl, rfl⟩
  go_wp2_with fail
  refine (refVar_tell s p c' v' m' p' _ hs hpl HR2.out HP2.out).mono ?_
  rintro e w' ⟨rfl, rfl⟩
  go_wp2_with fail
  exact bodyPost_ret (v := noV 60) (by unfold noV; simp [results, Tryz.results92, go_sem]) rfl ⟨rfl, (Below.refl _ _).alloc (Nat.le_refl _) _⟩

set_option maxRecDepth 100000 in
theorem refPay_len2 (s : ByteArray) (l : Nat) (w : World) (hs : s.size ≤ 9223372036854775807) (hl : l ≤ 1024) (c v m p : Nat) (hR : Sl.var (s.data.toList.drop 0) = ⟨c, v, m⟩) (hp : (if c = 0 then 0 + m else 0) = p) (hv : v < 18446744073709551616) (hc : c ≤ 32) (hpl : p ≤ s.size) (c' v' m' p' : Nat) (hR' : Sl.var (s.data.toList.drop p) = ⟨c', v', m'⟩) (hp' : (if c' = 0 then p + m' else 0) = p') (hv' : v' < 18446744073709551616) (hc' : c' ≤ 32) (hpl' : p' ≤ s.size) (h0 : c = 0) (h1 : 1 ≤ v) (h2 : v ≤ 1152921504606846976) (h3 : c' = 0) (h4 : v' ≤ 281474976710656) (C : ByteArray) (hC : s.extract p' s.size = C) (hCs : C.size + p' = s.size) (h5 : ¬ C.size = 0) :
    Calls Tryz.prog 92 #[.int .i64 2, .string s, .int .i64 l] w fun e w' => e = .returned (noV 11) ∧ Below w.heap.size w w' := by
  have ht : ((c : Int) != 0) = false := by rw [bne_eq_false_iff_eq]; omega
  have hv1 : decide ((v : Int) < 1) = false := by rw [decide_eq_false_iff_not]; omega
  have hv2 : decide ((1152921504606846976 : Int) < (v : Int)) = false := by rw [decide_eq_false_iff_not]; omega
  have ht' : ((c' : Int) != 0) = false := by rw [bne_eq_false_iff_eq]; omega
  have hw : decide ((281474976710656 : Int) < (v' : Int)) = false := by rw [decide_eq_false_iff_not]; omega
  have hz := ne_of C (by omega)
  have HR := Lib.hid hR
  have HP := Lib.hid hp
  have HR2 := Lib.hid hR'
  have HP2 := Lib.hid hp'
  clear hR hp hR' hp'
  go_enter Tryz.func92, Tryz.ntmps92
  go_wp2_with fail
  refine (refVar_tell s 0 c v m p _ hs (Nat.zero_le _) HR.out HP.out).mono ?_
  rintro e w' ⟨rfl, rfl⟩
  go_wp2_with fail
  refine (refVar_tell s p c' v' m' p' _ hs hpl HR2.out HP2.out).mono ?_
  rintro e w' ⟨rfl, rfl⟩
  go_wp2_with fail
  exact bodyPost_ret (v := noV 11) (by unfold noV; simp [results, Tryz.results92, go_sem]) rfl ⟨rfl, (Below.refl _ _).alloc (Nat.le_refl _) _⟩

set_option maxRecDepth 100000 in
theorem refPay_good2 (s : ByteArray) (l : Nat) (w : World) (hs : s.size ≤ 9223372036854775807) (hl : l ≤ 1024) (c v m p : Nat) (hR : Sl.var (s.data.toList.drop 0) = ⟨c, v, m⟩) (hp : (if c = 0 then 0 + m else 0) = p) (hv : v < 18446744073709551616) (hc : c ≤ 32) (hpl : p ≤ s.size) (c' v' m' p' : Nat) (hR' : Sl.var (s.data.toList.drop p) = ⟨c', v', m'⟩) (hp' : (if c' = 0 then p + m' else 0) = p') (hv' : v' < 18446744073709551616) (hc' : c' ≤ 32) (hpl' : p' ≤ s.size) (h0 : c = 0) (h1 : 1 ≤ v) (h2 : v ≤ 1152921504606846976) (h3 : c' = 0) (h4 : v' ≤ 281474976710656) (C : ByteArray) (hC : s.extract p' s.size = C) (hCs : C.size + p' = s.size) (h5 : C.size = 0) :
    Calls Tryz.prog 92 #[.int .i64 2, .string s, .int .i64 l] w fun e w' => e = .returned (.tuple #[.agg #[.int .i64 v, .int .i64 2, .int .i64 v', .string C], .int .i64 0]) ∧ Below w.heap.size w w' := by
  have ht : ((c : Int) != 0) = false := by rw [bne_eq_false_iff_eq]; omega
  have hv1 : decide ((v : Int) < 1) = false := by rw [decide_eq_false_iff_not]; omega
  have hv2 : decide ((1152921504606846976 : Int) < (v : Int)) = false := by rw [decide_eq_false_iff_not]; omega
  have ht' : ((c' : Int) != 0) = false := by rw [bne_eq_false_iff_eq]; omega
  have hw : decide ((281474976710656 : Int) < (v' : Int)) = false := by rw [decide_eq_false_iff_not]; omega
  have hz : C.toList.isEmpty = true := by
    rw [ByteArray.toList_eq, List.isEmpty_iff]
    apply List.eq_nil_of_length_eq_zero
    rw [Array.length_toList]; exact h5
  have HR := Lib.hid hR
  have HP := Lib.hid hp
  have HR2 := Lib.hid hR'
  have HP2 := Lib.hid hp'
  clear hR hp hR' hp'
  go_enter Tryz.func92, Tryz.ntmps92
  go_wp2_with fail
  refine (refVar_tell s 0 c v m p _ hs (Nat.zero_le _) HR.out HP.out).mono ?_
  rintro e w' ⟨rfl, rfl⟩
  go_wp2_with fail
  refine (refVar_tell s p c' v' m' p' _ hs hpl HR2.out HP2.out).mono ?_
  rintro e w' ⟨rfl, rfl⟩
  go_wp2_with fail
  exact bodyPost_ret (v := .tuple #[.agg #[.int .i64 v, .int .i64 2, .int .i64 v', .string C], .int .i64 0]) (by simp [results, Tryz.results92, go_sem]) rfl ⟨rfl, (Below.refl _ _).alloc (Nat.le_refl _) _⟩
end Go.Proofs.YtifkhjihgnnpfaaGreatDoor
/- Contracts of journal.payload, wide, Read and of the document's payload, Width, Read. Conditions: each theorem's own hypotheses. -/
namespace Go.Proofs.YtifkhjihgnnpfaaGreatDoor
set_option linter.unusedVariables false
open Go.RowKit

theorem varAt_val : ∀ f i v l R, f + i = 10 → v < 2 ^ (7 * i) → Sl.varAt f i v l = R → R.val < 18446744073709551616
  | 0, _, _, _, R, _, _, h => by subst h; exact (by decide : 0 < 18446744073709551616)
  | _ + 1, _, _, [], R, _, _, h => by subst h; exact (by decide : 0 < 18446744073709551616)
  | f + 1, i, v, c :: l, R, hf, hv, h => by
    unfold Sl.varAt at h
    split at h
    · subst h; exact (by decide : 0 < 18446744073709551616)
    rename_i h9
    have hcl := c.toNat_lt
    have hm : c.toNat % 128 < 128 := Nat.mod_lt _ (by decide)
    have h9' : i = 9 → c.toNat % 128 ≤ 1 := by intro e; have : ¬ 1 < c.toNat := fun hh => h9 ⟨e, hh⟩; omega
    have hs := shl_fits (i := i) (d := c.toNat % 128) (v := v) (by omega) hm h9' hv
    split at h
    · split at h
      · subst h; exact (by decide : 0 < 18446744073709551616)
      · subst h; exact hs.2.1
    · rename_i hbig
      by_cases e : i = 9
      · exfalso; apply h9; exact ⟨e, by omega⟩
      · exact varAt_val f (i + 1) _ l R (by omega) (hs.2.2.2 (by omega)) h

theorem var_val (l : List UInt8) (R : Sl.Got) (h : Sl.var l = R) : R.val < 18446744073709551616 := varAt_val 10 0 0 l R rfl (by decide) h

/-- What a payload's reading rests on, laid in one. -/
theorem pay_cases (P : Jn.Upd → Prop) (s : ByteArray) (k l : Nat)
    (hk : ¬ (k = 1 ∨ k = 2) → P (Jn.no 35))
    (hr : (k = 1 ∨ k = 2) → ∀ c v m, Sl.var (s.data.toList.drop 0) = ⟨c, v, m⟩ → ∀ p, (if c = 0 then 0 + m else 0) = p → v < 18446744073709551616 → c ≤ 32 → p ≤ s.size →
      (¬ c = 0 → P (Jn.no c)) ∧ (c = 0 → v < 1 → P (Jn.no 51)) ∧ (c = 0 → 1152921504606846976 < v → P (Jn.no 51)) ∧
      (c = 0 → 1 ≤ v → v ≤ 1152921504606846976 → ∀ c' v' m', Sl.var (s.data.toList.drop p) = ⟨c', v', m'⟩ → ∀ p', (if c' = 0 then p + m' else 0) = p' → v' < 18446744073709551616 → c' ≤ 32 → p' ≤ s.size →
        (¬ c' = 0 → P (Jn.no c')) ∧ (c' = 0 → 281474976710656 < v' → P (Jn.no 60)) ∧
        (c' = 0 → v' ≤ 281474976710656 → ∀ C : ByteArray, s.extract p' s.size = C → C.size + p' = s.size →
          (k = 1 → ¬ C.size = l / 8 → P (Jn.no 11)) ∧ (k = 2 → ¬ C.size = 0 → P (Jn.no 11)) ∧
          (k = 1 → C.size = l / 8 → P ⟨v, 1, v', C.data.toList, 0⟩) ∧ (k = 2 → C.size = 0 → P ⟨v, 2, v', C.data.toList, 0⟩)))) :
    P (Jn.pay k s.data.toList l) := by
  unfold Jn.pay
  by_cases h1 : k = 1 ∨ k = 2
  rotate_left
  · rw [if_pos h1]; exact hk h1
  rw [if_neg (not_not_intro h1)]
  have hll : s.data.toList.length = s.size := Array.length_toList
  obtain ⟨R, hR⟩ : ∃ R, Sl.var s.data.toList = R := ⟨_, rfl⟩
  rw [hR]
  have hv := var_val _ _ hR
  have hc := Jn.var_code _ _ hR
  have hln := Jn.var_len _ _ hR
  obtain ⟨c, v, m⟩ := R
  simp only at hv hc hln ⊢
  obtain ⟨p, hp⟩ : ∃ p, (if c = 0 then 0 + m else 0) = p := ⟨_, rfl⟩
  obtain ⟨a1, a2, a3, a4⟩ := hr h1 c v m hR p hp hv hc (by rw [← hp]; split <;> omega)
  by_cases h2 : c = 0
  rotate_left
  · rw [if_pos h2]; exact a1 h2
  rw [if_neg (not_not_intro h2)]
  rw [if_pos h2, Nat.zero_add] at hp
  subst hp
  by_cases h3 : v < 1
  · rw [if_pos (Or.inl h3)]; exact a2 h2 h3
  by_cases h4 : 1152921504606846976 < v
  · rw [if_pos (Or.inr h4)]; exact a3 h2 h4
  rw [if_neg (fun h => h.elim h3 h4)]
  have hml := hln h2
  obtain ⟨R, hR'⟩ : ∃ R, Sl.var (s.data.toList.drop m) = R := ⟨_, rfl⟩
  rw [hR']
  have hv' := var_val _ _ hR'
  have hc' := Jn.var_code _ _ hR'
  have hln' := Jn.var_len _ _ hR'
  obtain ⟨c', v', m'⟩ := R
  simp only at hv' hc' hln' ⊢
  rw [List.length_drop] at hln'
  obtain ⟨p', hp'⟩ : ∃ p', (if c' = 0 then m + m' else 0) = p' := ⟨_, rfl⟩
  obtain ⟨b1, b2, b3⟩ := a4 h2 (by omega) (by omega) c' v' m' hR' p' hp' hv' hc' (by rw [← hp']; split <;> omega)
  by_cases h5 : c' = 0
  rotate_left
  · rw [if_pos h5]; exact b1 h5
  rw [if_neg (not_not_intro h5)]
  rw [if_pos h5] at hp'
  subst hp'
  have hml' := hln' h5
  by_cases h6 : 281474976710656 < v'
  · rw [if_pos h6]; exact b2 h5 h6
  rw [if_neg h6]
  obtain ⟨C, hC⟩ : ∃ C, s.extract (m + m') s.size = C := ⟨_, rfl⟩
  have hCd : C.data.toList = s.data.toList.drop (m + m') := by rw [← hC]; exact rest_data s _
  have hCs : C.size = s.size - (m + m') := by rw [size_data C, hCd, List.length_drop, hll]
  obtain ⟨g1, g2, g3, g4⟩ := b3 h5 (by omega) C hC (by omega)
  rw [hll, ← hCs, ← hCd]
  rcases h1 with h1 | h1
  · by_cases h7 : C.size = l / 8
    · rw [if_neg (fun h => h.elim (fun h => h.2 h7) (fun h => by omega)), h1]; exact g3 h1 h7
    · rw [if_pos (Or.inl ⟨h1, h7⟩)]; exact g1 h1 h7
  · by_cases h7 : C.size = 0
    · rw [if_neg (fun h => h.elim (fun h => by omega) (fun h => h.2 h7)), h1]; exact g4 h1 h7
    · rw [if_pos (Or.inr ⟨h1, h7⟩)]; exact g2 h1 h7

theorem payload_any (s : ByteArray) (k l : Nat) (w : World) (hs : s.size ≤ 9223372036854775807) (hl : l ≤ 1024) :
    Calls Tryz.prog 56 #[.int .i64 k, .string s, .int .i64 l] w fun e w' => e = .returned (updV (Jn.pay k s.data.toList l)) ∧ Below w.heap.size w w' := by
  refine pay_cases (fun U => Calls Tryz.prog 56 #[.int .i64 k, .string s, .int .i64 l] w fun e w' => e = .returned (updV U) ∧ Below w.heap.size w w') s k l ?_ ?_
  · intro h
    exact pay_kind s k l w (by rw [bne_iff_ne]; omega) (by rw [bne_iff_ne]; omega)
  · intro h12 c v m hR p hp hv hc hpl
    rcases h12 with rfl | rfl
    · refine ⟨fun h => pay_code1 s l w hs hl c v m p hR hp hv hc hpl h, fun h h1 => pay_low1 s l w hs hl c v m p hR hp hv hc hpl h h1, fun h h1 => pay_high1 s l w hs hl c v m p hR hp hv hc hpl h h1, ?_⟩
      intro h h1 h2 c' v' m' hR' p' hp' hv' hc' hpl'
      refine ⟨fun h3 => pay_code21 s l w hs hl c v m p hR hp hv hc hpl c' v' m' p' hR' hp' hv' hc' hpl' h h1 h2 h3, fun h3 h4 => pay_id1 s l w hs hl c v m p hR hp hv hc hpl c' v' m' p' hR' hp' hv' hc' hpl' h h1 h2 h3 h4, ?_⟩
      intro h3 h4 C hC hCs
      refine ⟨fun _ h5 => pay_len1 s l w hs hl c v m p hR hp hv hc hpl c' v' m' p' hR' hp' hv' hc' hpl' h h1 h2 h3 h4 C hC hCs h5, fun h => absurd h (by decide), fun _ h5 => ?_, fun h => absurd h (by decide)⟩
      refine (pay_good1 s l w hs hl c v m p hR hp hv hc hpl c' v' m' p' hR' hp' hv' hc' hpl' h h1 h2 h3 h4 C hC hCs h5).mono fun e w' ⟨he, hB⟩ => ⟨?_, hB⟩
      rw [he, str_eq (b := C) rfl]; rfl
    · refine ⟨fun h => pay_code2 s l w hs hl c v m p hR hp hv hc hpl h, fun h h1 => pay_low2 s l w hs hl c v m p hR hp hv hc hpl h h1, fun h h1 => pay_high2 s l w hs hl c v m p hR hp hv hc hpl h h1, ?_⟩
      intro h h1 h2 c' v' m' hR' p' hp' hv' hc' hpl'
      refine ⟨fun h3 => pay_code22 s l w hs hl c v m p hR hp hv hc hpl c' v' m' p' hR' hp' hv' hc' hpl' h h1 h2 h3, fun h3 h4 => pay_id2 s l w hs hl c v m p hR hp hv hc hpl c' v' m' p' hR' hp' hv' hc' hpl' h h1 h2 h3 h4, ?_⟩
      intro h3 h4 C hC hCs
      refine ⟨fun h => absurd h (by decide), fun _ h5 => pay_len2 s l w hs hl c v m p hR hp hv hc hpl c' v' m' p' hR' hp' hv' hc' hpl' h h1 h2 h3 h4 C hC hCs h5, fun h => absurd h (by decide), fun _ h5 => ?_⟩
      refine (pay_good2 s l w hs hl c v m p hR hp hv hc hpl c' v' m' p' hR' hp' hv' hc' hpl' h h1 h2 h3 h4 C hC hCs h5).mono fun e w' ⟨he, hB⟩ => ⟨?_, hB⟩
      rw [he, str_eq (b := C) rfl]; rfl

theorem refPayload_any (s : ByteArray) (k l : Nat) (w : World) (hs : s.size ≤ 9223372036854775807) (hl : l ≤ 1024) :
    Calls Tryz.prog 92 #[.int .i64 k, .string s, .int .i64 l] w fun e w' => e = .returned (updV (Jn.pay k s.data.toList l)) ∧ Below w.heap.size w w' := by
  refine pay_cases (fun U => Calls Tryz.prog 92 #[.int .i64 k, .string s, .int .i64 l] w fun e w' => e = .returned (updV U) ∧ Below w.heap.size w w') s k l ?_ ?_
  · intro h
    exact refPay_kind s k l w (by rw [bne_iff_ne]; omega) (by rw [bne_iff_ne]; omega)
  · intro h12 c v m hR p hp hv hc hpl
    rcases h12 with rfl | rfl
    · refine ⟨fun h => refPay_code1 s l w hs hl c v m p hR hp hv hc hpl h, fun h h1 => refPay_low1 s l w hs hl c v m p hR hp hv hc hpl h h1, fun h h1 => refPay_high1 s l w hs hl c v m p hR hp hv hc hpl h h1, ?_⟩
      intro h h1 h2 c' v' m' hR' p' hp' hv' hc' hpl'
      refine ⟨fun h3 => refPay_code21 s l w hs hl c v m p hR hp hv hc hpl c' v' m' p' hR' hp' hv' hc' hpl' h h1 h2 h3, fun h3 h4 => refPay_id1 s l w hs hl c v m p hR hp hv hc hpl c' v' m' p' hR' hp' hv' hc' hpl' h h1 h2 h3 h4, ?_⟩
      intro h3 h4 C hC hCs
      refine ⟨fun _ h5 => refPay_len1 s l w hs hl c v m p hR hp hv hc hpl c' v' m' p' hR' hp' hv' hc' hpl' h h1 h2 h3 h4 C hC hCs h5, fun h => absurd h (by decide), fun _ h5 => ?_, fun h => absurd h (by decide)⟩
      refine (refPay_good1 s l w hs hl c v m p hR hp hv hc hpl c' v' m' p' hR' hp' hv' hc' hpl' h h1 h2 h3 h4 C hC hCs h5).mono fun e w' ⟨he, hB⟩ => ⟨?_, hB⟩
      rw [he, str_eq (b := C) rfl]; rfl
    · refine ⟨fun h => refPay_code2 s l w hs hl c v m p hR hp hv hc hpl h, fun h h1 => refPay_low2 s l w hs hl c v m p hR hp hv hc hpl h h1, fun h h1 => refPay_high2 s l w hs hl c v m p hR hp hv hc hpl h h1, ?_⟩
      intro h h1 h2 c' v' m' hR' p' hp' hv' hc' hpl'
      refine ⟨fun h3 => refPay_code22 s l w hs hl c v m p hR hp hv hc hpl c' v' m' p' hR' hp' hv' hc' hpl' h h1 h2 h3, fun h3 h4 => refPay_id2 s l w hs hl c v m p hR hp hv hc hpl c' v' m' p' hR' hp' hv' hc' hpl' h h1 h2 h3 h4, ?_⟩
      intro h3 h4 C hC hCs
      refine ⟨fun h => absurd h (by decide), fun _ h5 => refPay_len2 s l w hs hl c v m p hR hp hv hc hpl c' v' m' p' hR' hp' hv' hc' hpl' h h1 h2 h3 h4 C hC hCs h5, fun h => absurd h (by decide), fun _ h5 => ?_⟩
      refine (refPay_good2 s l w hs hl c v m p hR hp hv hc hpl c' v' m' p' hR' hp' hv' hc' hpl' h h1 h2 h3 h4 C hC hCs h5).mono fun e w' ⟨he, hB⟩ => ⟨?_, hB⟩
      rw [he, str_eq (b := C) rfl]; rfl


theorem wide_low (l : Int) (w : World) (h : l < 64) :
    Calls Tryz.prog 80 #[.int .i64 l] w fun e w' => e = .returned (.bool false) ∧ w = w' := by
  go_enter Tryz.func80, Tryz.ntmps80
  go_wp2_with fail
  go_ret
  exact ⟨rfl, rfl⟩
theorem wide_high (l : Int) (w : World) (h : 1024 < l) :
    Calls Tryz.prog 80 #[.int .i64 l] w fun e w' => e = .returned (.bool false) ∧ w = w' := by
  have h2 : decide (l < 64) = false := by rw [decide_eq_false_iff_not]; omega
  go_enter Tryz.func80, Tryz.ntmps80
  go_wp2_with fail
  go_ret
  exact ⟨rfl, rfl⟩
theorem wide_mid (n : Nat) (w : World) (h : 64 ≤ n) (h2 : n ≤ 1024) (b : Bool) (hb : ((((n % 64 : Nat) : Int) == 0)) = b) :
    Calls Tryz.prog 80 #[.int .i64 n] w fun e w' => e = .returned (.bool b) ∧ w = w' := by
  have hq : (n : Int).tmod 64 = ((n % 64 : Nat) : Int) := by rw [Int.tmod_eq_emod_of_nonneg (by omega)]; rfl
  go_enter Tryz.func80, Tryz.ntmps80
  go_wp2_with fail
  go_ret
  exact ⟨by simp_all, rfl⟩

theorem refWide_low (l : Int) (w : World) (h : l < 64) :
    Calls Tryz.prog 82 #[.int .i64 l] w fun e w' => e = .returned (.bool false) ∧ w = w' := by
  go_enter Tryz.func82, Tryz.ntmps82
  go_wp2_with fail
  go_ret
  exact ⟨rfl, rfl⟩
theorem refWide_high (l : Int) (w : World) (h : 1024 < l) :
    Calls Tryz.prog 82 #[.int .i64 l] w fun e w' => e = .returned (.bool false) ∧ w = w' := by
  have h2 : decide (l < 64) = false := by rw [decide_eq_false_iff_not]; omega
  go_enter Tryz.func82, Tryz.ntmps82
  go_wp2_with fail
  go_ret
  exact ⟨rfl, rfl⟩
theorem refWide_mid (n : Nat) (w : World) (h : 64 ≤ n) (h2 : n ≤ 1024) (b : Bool) (hb : ((((n % 64 : Nat) : Int) == 0)) = b) :
    Calls Tryz.prog 82 #[.int .i64 n] w fun e w' => e = .returned (.bool b) ∧ w = w' := by
  have hq : (n : Int).tmod 64 = ((n % 64 : Nat) : Int) := by rw [Int.tmod_eq_emod_of_nonneg (by omega)]; rfl
  go_enter Tryz.func82, Tryz.ntmps82
  go_wp2_with fail
  go_ret
  exact ⟨by simp_all, rfl⟩
end Go.Proofs.YtifkhjihgnnpfaaGreatDoor
