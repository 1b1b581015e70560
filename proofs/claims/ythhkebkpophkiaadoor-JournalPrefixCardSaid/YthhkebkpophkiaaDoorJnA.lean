/- Contracts of journal.payload and of the document's payload. Conditions: each theorem's own hypotheses. -/
import Derived.Test.YthhkebkpophkiaaDoorSealK
import Derived.Test.YthhkebkpophkiaaDoorJnP
namespace Go.Proofs.YthhkebkpophkiaaDoor
set_option linter.unusedVariables false
open Go.RowKit

/-- An update as a value. -/
def updV (U : Jn.Upd) : Value := .tuple #[.agg #[.int .i64 U.seq, .int .i64 U.kind, .int .i64 U.id, str U.code], .int .i64 U.err]
/-- A refusal. -/
def noV (e : Nat) : Value := .tuple #[.agg #[.int .i64 0, .int .i64 0, .int .i64 0, .string ⟨#[]⟩], .int .i64 e]
theorem noV_eq (e : Nat) : noV e = updV (Jn.no e) := rfl

theorem var_tell (s : ByteArray) (k c v m p : Nat) (w : World) (hs : s.size ≤ 9223372036854775807) (hk : k ≤ s.size) (hR : Sl.var (s.data.toList.drop k) = ⟨c, v, m⟩) (hp : (if c = 0 then k + m else 0) = p) :
    Calls Tryd.prog 74 #[.string s, .int .i64 k] w fun e w' => e = .returned (.tuple #[.int .u64 v, .int .i64 p, .int .i64 c]) ∧ w = w' := by
  subst hp; exact var_any s k _ w hs hk hR
theorem refVar_tell (s : ByteArray) (k c v m p : Nat) (w : World) (hs : s.size ≤ 9223372036854775807) (hk : k ≤ s.size) (hR : Sl.var (s.data.toList.drop k) = ⟨c, v, m⟩) (hp : (if c = 0 then k + m else 0) = p) :
    Calls Tryd.prog 89 #[.string s, .int .i64 k] w fun e w' => e = .returned (.tuple #[.int .u64 v, .int .i64 p, .int .i64 c]) ∧ w = w' := by
  subst hp; exact refVar_any s k _ w hs hk hR

theorem pay_kind (s : ByteArray) (k l : Nat) (w : World) (h1 : ((k : Int) != 1) = true) (h2 : ((k : Int) != 2) = true) :
    Calls Tryd.prog 47 #[.int .i64 k, .string s, .int .i64 l] w fun e w' => e = .returned (noV 35) ∧ Below w.heap.size w w' := by
  go_enter Tryd.func47, Tryd.ntmps47
  go_wp2_with fail
  exact bodyPost_ret (v := noV 35) (by unfold noV; simp [results, Tryd.results47, go_sem]) rfl ⟨rfl, (Below.refl _ _).alloc (Nat.le_refl _) _⟩
theorem refPay_kind (s : ByteArray) (k l : Nat) (w : World) (h1 : ((k : Int) != 1) = true) (h2 : ((k : Int) != 2) = true) :
    Calls Tryd.prog 77 #[.int .i64 k, .string s, .int .i64 l] w fun e w' => e = .returned (noV 35) ∧ Below w.heap.size w w' := by
  go_enter Tryd.func77, Tryd.ntmps77
  go_wp2_with fail
  exact bodyPost_ret (v := noV 35) (by unfold noV; simp [results, Tryd.results77, go_sem]) rfl ⟨rfl, (Below.refl _ _).alloc (Nat.le_refl _) _⟩

set_option maxRecDepth 100000 in
theorem pay_code1 (s : ByteArray) (l : Nat) (w : World) (hs : s.size ≤ 9223372036854775807) (hl : l ≤ 1024) (c v m p : Nat) (hR : Sl.var (s.data.toList.drop 0) = ⟨c, v, m⟩) (hp : (if c = 0 then 0 + m else 0) = p) (hv : v < 18446744073709551616) (hc : c ≤ 32) (hpl : p ≤ s.size) (h0 : ¬ c = 0) :
    Calls Tryd.prog 47 #[.int .i64 1, .string s, .int .i64 l] w fun e w' => e = .returned (noV c) ∧ Below w.heap.size w w' := by
  have ht : ((c : Int) != 0) = true := by rw [bne_iff_ne]; omega
  have HR := Lib.hid hR
  have HP := Lib.hid hp
  clear hR hp
  go_enter Tryd.func47, Tryd.ntmps47
  go_wp2_with fail
  refine (var_tell s 0 c v m p _ hs (Nat.zero_le _) HR.out HP.out).mono ?_
  rintro e w' ⟨rfl, rfl⟩
  go_wp2_with fail
  exact bodyPost_ret (v := noV c) (by unfold noV; simp [results, Tryd.results47, go_sem]) rfl ⟨rfl, (Below.refl _ _).alloc (Nat.le_refl _) _⟩

set_option maxRecDepth 100000 in
theorem pay_low1 (s : ByteArray) (l : Nat) (w : World) (hs : s.size ≤ 9223372036854775807) (hl : l ≤ 1024) (c v m p : Nat) (hR : Sl.var (s.data.toList.drop 0) = ⟨c, v, m⟩) (hp : (if c = 0 then 0 + m else 0) = p) (hv : v < 18446744073709551616) (hc : c ≤ 32) (hpl : p ≤ s.size) (h0 : c = 0) (h1 : v < 1) :
    Calls Tryd.prog 47 #[.int .i64 1, .string s, .int .i64 l] w fun e w' => e = .returned (noV 51) ∧ Below w.heap.size w w' := by
  have ht : ((c : Int) != 0) = false := by rw [bne_eq_false_iff_eq]; omega
  have hv1 : decide ((v : Int) < 1) = true := by rw [decide_eq_true_iff]; omega
  have HR := Lib.hid hR
  have HP := Lib.hid hp
  clear hR hp
  go_enter Tryd.func47, Tryd.ntmps47
  go_wp2_with fail
  refine (var_tell s 0 c v m p _ hs (Nat.zero_le _) HR.out HP.out).mono ?_
  rintro e w' ⟨rfl, rfl⟩
  go_wp2_with fail
  exact bodyPost_ret (v := noV 51) (by unfold noV; simp [results, Tryd.results47, go_sem]) rfl ⟨rfl, (Below.refl _ _).alloc (Nat.le_refl _) _⟩

set_option maxRecDepth 100000 in
theorem pay_high1 (s : ByteArray) (l : Nat) (w : World) (hs : s.size ≤ 9223372036854775807) (hl : l ≤ 1024) (c v m p : Nat) (hR : Sl.var (s.data.toList.drop 0) = ⟨c, v, m⟩) (hp : (if c = 0 then 0 + m else 0) = p) (hv : v < 18446744073709551616) (hc : c ≤ 32) (hpl : p ≤ s.size) (h0 : c = 0) (h1 : 1152921504606846976 < v) :
    Calls Tryd.prog 47 #[.int .i64 1, .string s, .int .i64 l] w fun e w' => e = .returned (noV 51) ∧ Below w.heap.size w w' := by
  have ht : ((c : Int) != 0) = false := by rw [bne_eq_false_iff_eq]; omega
  have hv1 : decide ((v : Int) < 1) = false := by rw [decide_eq_false_iff_not]; omega
  have hv2 : decide ((1152921504606846976 : Int) < (v : Int)) = true := by rw [decide_eq_true_iff]; omega
  have HR := Lib.hid hR
  have HP := Lib.hid hp
  clear hR hp
  go_enter Tryd.func47, Tryd.ntmps47
  go_wp2_with fail
  refine (var_tell s 0 c v m p _ hs (Nat.zero_le _) HR.out HP.out).mono ?_
  rintro e w' ⟨rfl, rfl⟩
  go_wp2_with fail
  exact bodyPost_ret (v := noV 51) (by unfold noV; simp [results, Tryd.results47, go_sem]) rfl ⟨rfl, (Below.refl _ _).alloc (Nat.le_refl _) _⟩

set_option maxRecDepth 100000 in
theorem pay_code21 (s : ByteArray) (l : Nat) (w : World) (hs : s.size ≤ 9223372036854775807) (hl : l ≤ 1024) (c v m p : Nat) (hR : Sl.var (s.data.toList.drop 0) = ⟨c, v, m⟩) (hp : (if c = 0 then 0 + m else 0) = p) (hv : v < 18446744073709551616) (hc : c ≤ 32) (hpl : p ≤ s.size) (c' v' m' p' : Nat) (hR' : Sl.var (s.data.toList.drop p) = ⟨c', v', m'⟩) (hp' : (if c' = 0 then p + m' else 0) = p') (hv' : v' < 18446744073709551616) (hc' : c' ≤ 32) (hpl' : p' ≤ s.size) (h0 : c = 0) (h1 : 1 ≤ v) (h2 : v ≤ 1152921504606846976) (h3 : ¬ c' = 0) :
    Calls Tryd.prog 47 #[.int .i64 1, .string s, .int .i64 l] w fun e w' => e = .returned (noV c') ∧ Below w.heap.size w w' := by
  have ht : ((c : Int) != 0) = false := by rw [bne_eq_false_iff_eq]; omega
  have hv1 : decide ((v : Int) < 1) = false := by rw [decide_eq_false_iff_not]; omega
  have hv2 : decide ((1152921504606846976 : Int) < (v : Int)) = false := by rw [decide_eq_false_iff_not]; omega
  have ht' : ((c' : Int) != 0) = true := by rw [bne_iff_ne]; omega
  have HR := Lib.hid hR
  have HP := Lib.hid hp
  have HR2 := Lib.hid hR'
  have HP2 := Lib.hid hp'
  clear hR hp hR' hp'
  go_enter Tryd.func47, Tryd.ntmps47
  go_wp2_with fail
  refine (var_tell s 0 c v m p _ hs (Nat.zero_le _) HR.out HP.out).mono ?_
  rintro e w' ⟨rfl, rfl⟩
  go_wp2_with fail
  refine (var_tell s p c' v' m' p' _ hs hpl HR2.out HP2.out).mono ?_
  rintro e w' ⟨rfl, rfl⟩
  go_wp2_with fail
  exact bodyPost_ret (v := noV c') (by unfold noV; simp [results, Tryd.results47, go_sem]) rfl ⟨rfl, (Below.refl _ _).alloc (Nat.le_refl _) _⟩

set_option maxRecDepth 100000 in
theorem pay_id1 (s : ByteArray) (l : Nat) (w : World) (hs : s.size ≤ 9223372036854775807) (hl : l ≤ 1024) (c v m p : Nat) (hR : Sl.var (s.data.toList.drop 0) = ⟨c, v, m⟩) (hp : (if c = 0 then 0 + m else 0) = p) (hv : v < 18446744073709551616) (hc : c ≤ 32) (hpl : p ≤ s.size) (c' v' m' p' : Nat) (hR' : Sl.var (s.data.toList.drop p) = ⟨c', v', m'⟩) (hp' : (if c' = 0 then p + m' else 0) = p') (hv' : v' < 18446744073709551616) (hc' : c' ≤ 32) (hpl' : p' ≤ s.size) (h0 : c = 0) (h1 : 1 ≤ v) (h2 : v ≤ 1152921504606846976) (h3 : c' = 0) (h4 : 281474976710656 < v') :
    Calls Tryd.prog 47 #[.int .i64 1, .string s, .int .i64 l] w fun e w' => e = .returned (noV 60) ∧ Below w.heap.size w w' := by
  have ht : ((c : Int) != 0) = false := by rw [bne_eq_false_iff_eq]; omega
  have hv1 : decide ((v : Int) < 1) = false := by rw [decide_eq_false_iff_not]; omega
  have hv2 : decide ((1152921504606846976 : Int) < (v : Int)) = false := by rw [decide_eq_false_iff_not]; omega
  have ht' : ((c' : Int) != 0) = false := by rw [bne_eq_false_iff_eq]; omega
  have hw : decide ((281474976710656 : Int) < (v' : Int)) = true := by rw [decide_eq_true_iff]; omega
  have HR := Lib.hid hR
  have HP := Lib.hid hp
  have HR2 := Lib.hid hR'
  have HP2 := Lib.hid hp'
  clear hR hp hR' hp'
  go_enter Tryd.func47, Tryd.ntmps47
  go_wp2_with fail
  refine (var_tell s 0 c v m p _ hs (Nat.zero_le _) HR.out HP.out).mono ?_
  rintro e w' ⟨rfl, rfl⟩
  go_wp2_with fail
  refine (var_tell s p c' v' m' p' _ hs hpl HR2.out HP2.out).mono ?_
  rintro e w' ⟨rfl, rfl⟩
  go_wp2_with fail
  exact bodyPost_ret (v := noV 60) (by unfold noV; simp [results, Tryd.results47, go_sem]) rfl ⟨rfl, (Below.refl _ _).alloc (Nat.le_refl _) _⟩

set_option maxRecDepth 100000 in
theorem pay_len1 (s : ByteArray) (l : Nat) (w : World) (hs : s.size ≤ 9223372036854775807) (hl : l ≤ 1024) (c v m p : Nat) (hR : Sl.var (s.data.toList.drop 0) = ⟨c, v, m⟩) (hp : (if c = 0 then 0 + m else 0) = p) (hv : v < 18446744073709551616) (hc : c ≤ 32) (hpl : p ≤ s.size) (c' v' m' p' : Nat) (hR' : Sl.var (s.data.toList.drop p) = ⟨c', v', m'⟩) (hp' : (if c' = 0 then p + m' else 0) = p') (hv' : v' < 18446744073709551616) (hc' : c' ≤ 32) (hpl' : p' ≤ s.size) (h0 : c = 0) (h1 : 1 ≤ v) (h2 : v ≤ 1152921504606846976) (h3 : c' = 0) (h4 : v' ≤ 281474976710656) (C : ByteArray) (hC : s.extract p' s.size = C) (hCs : C.size + p' = s.size) (h5 : ¬ C.size = l / 8) :
    Calls Tryd.prog 47 #[.int .i64 1, .string s, .int .i64 l] w fun e w' => e = .returned (noV 11) ∧ Below w.heap.size w w' := by
  have ht : ((c : Int) != 0) = false := by rw [bne_eq_false_iff_eq]; omega
  have hv1 : decide ((v : Int) < 1) = false := by rw [decide_eq_false_iff_not]; omega
  have hv2 : decide ((1152921504606846976 : Int) < (v : Int)) = false := by rw [decide_eq_false_iff_not]; omega
  have ht' : ((c' : Int) != 0) = false := by rw [bne_eq_false_iff_eq]; omega
  have hw : decide ((281474976710656 : Int) < (v' : Int)) = false := by rw [decide_eq_false_iff_not]; omega
  have hq : (l : Int).tdiv 8 = ((l / 8 : Nat) : Int) := by rw [Int.tdiv_eq_ediv_of_nonneg (by omega)]; rfl
  have hz : ((C.size : Int) != ((l / 8 : Nat) : Int)) = true := by rw [bne_iff_ne]; omega
  have HR := Lib.hid hR
  have HP := Lib.hid hp
  have HR2 := Lib.hid hR'
  have HP2 := Lib.hid hp'
  clear hR hp hR' hp'
  go_enter Tryd.func47, Tryd.ntmps47
  go_wp2_with fail
  refine (var_tell s 0 c v m p _ hs (Nat.zero_le _) HR.out HP.out).mono ?_
  rintro e w' ⟨rfl, rfl⟩
  go_wp2_with fail
  refine (var_tell s p c' v' m' p' _ hs hpl HR2.out HP2.out).mono ?_
  rintro e w' ⟨rfl, rfl⟩
  go_wp2_with fail
  exact bodyPost_ret (v := noV 11) (by unfold noV; simp [results, Tryd.results47, go_sem]) rfl ⟨rfl, (Below.refl _ _).alloc (Nat.le_refl _) _⟩

set_option maxRecDepth 100000 in
theorem pay_good1 (s : ByteArray) (l : Nat) (w : World) (hs : s.size ≤ 9223372036854775807) (hl : l ≤ 1024) (c v m p : Nat) (hR : Sl.var (s.data.toList.drop 0) = ⟨c, v, m⟩) (hp : (if c = 0 then 0 + m else 0) = p) (hv : v < 18446744073709551616) (hc : c ≤ 32) (hpl : p ≤ s.size) (c' v' m' p' : Nat) (hR' : Sl.var (s.data.toList.drop p) = ⟨c', v', m'⟩) (hp' : (if c' = 0 then p + m' else 0) = p') (hv' : v' < 18446744073709551616) (hc' : c' ≤ 32) (hpl' : p' ≤ s.size) (h0 : c = 0) (h1 : 1 ≤ v) (h2 : v ≤ 1152921504606846976) (h3 : c' = 0) (h4 : v' ≤ 281474976710656) (C : ByteArray) (hC : s.extract p' s.size = C) (hCs : C.size + p' = s.size) (h5 : C.size = l / 8) :
    Calls Tryd.prog 47 #[.int .i64 1, .string s, .int .i64 l] w fun e w' => e = .returned (.tuple #[.agg #[.int .i64 v, .int .i64 1, .int .i64 v', .string C], .int .i64 0]) ∧ Below w.heap.size w w' := by
  have ht : ((c : Int) != 0) = false := by rw [bne_eq_false_iff_eq]; omega
  have hv1 : decide ((v : Int) < 1) = false := by rw [decide_eq_false_iff_not]; omega
  have hv2 : decide ((1152921504606846976 : Int) < (v : Int)) = false := by rw [decide_eq_false_iff_not]; omega
  have ht' : ((c' : Int) != 0) = false := by rw [bne_eq_false_iff_eq]; omega
  have hw : decide ((281474976710656 : Int) < (v' : Int)) = false := by rw [decide_eq_false_iff_not]; omega
  have hq : (l : Int).tdiv 8 = ((l / 8 : Nat) : Int) := by rw [Int.tdiv_eq_ediv_of_nonneg (by omega)]; rfl
  have hz : ((C.size : Int) != ((l / 8 : Nat) : Int)) = false := by rw [bne_eq_false_iff_eq]; omega
  have HR := Lib.hid hR
  have HP := Lib.hid hp
  have HR2 := Lib.hid hR'
  have HP2 := Lib.hid hp'
  clear hR hp hR' hp'
  go_enter Tryd.func47, Tryd.ntmps47
  go_wp2_with fail
  refine (var_tell s 0 c v m p _ hs (Nat.zero_le _) HR.out HP.out).mono ?_
  rintro e w' ⟨rfl, rfl⟩
  go_wp2_with fail
  refine (var_tell s p c' v' m' p' _ hs hpl HR2.out HP2.out).mono ?_
  rintro e w' ⟨rfl, rfl⟩
  go_wp2_with fail
  exact bodyPost_ret (v := .tuple #[.agg #[.int .i64 v, .int .i64 1, .int .i64 v', .string C], .int .i64 0]) (by simp [results, Tryd.results47, go_sem]) rfl ⟨rfl, (Below.refl _ _).alloc (Nat.le_refl _) _⟩

set_option maxRecDepth 100000 in
theorem pay_code2 (s : ByteArray) (l : Nat) (w : World) (hs : s.size ≤ 9223372036854775807) (hl : l ≤ 1024) (c v m p : Nat) (hR : Sl.var (s.data.toList.drop 0) = ⟨c, v, m⟩) (hp : (if c = 0 then 0 + m else 0) = p) (hv : v < 18446744073709551616) (hc : c ≤ 32) (hpl : p ≤ s.size) (h0 : ¬ c = 0) :
    Calls Tryd.prog 47 #[.int .i64 2, .string s, .int .i64 l] w fun e w' => e = .returned (noV c) ∧ Below w.heap.size w w' := by
  have ht : ((c : Int) != 0) = true := by rw [bne_iff_ne]; omega
  have HR := Lib.hid hR
  have HP := Lib.hid hp
  clear hR hp
  go_enter Tryd.func47, Tryd.ntmps47
  go_wp2_with fail
  refine (var_tell s 0 c v m p _ hs (Nat.zero_le _) HR.out HP.out).mono ?_
  rintro e w' ⟨rfl, rfl⟩
  go_wp2_with fail
  exact bodyPost_ret (v := noV c) (by unfold noV; simp [results, Tryd.results47, go_sem]) rfl ⟨rfl, (Below.refl _ _).alloc (Nat.le_refl _) _⟩

set_option maxRecDepth 100000 in
theorem pay_low2 (s : ByteArray) (l : Nat) (w : World) (hs : s.size ≤ 9223372036854775807) (hl : l ≤ 1024) (c v m p : Nat) (hR : Sl.var (s.data.toList.drop 0) = ⟨c, v, m⟩) (hp : (if c = 0 then 0 + m else 0) = p) (hv : v < 18446744073709551616) (hc : c ≤ 32) (hpl : p ≤ s.size) (h0 : c = 0) (h1 : v < 1) :
    Calls Tryd.prog 47 #[.int .i64 2, .string s, .int .i64 l] w fun e w' => e = .returned (noV 51) ∧ Below w.heap.size w w' := by
  have ht : ((c : Int) != 0) = false := by rw [bne_eq_false_iff_eq]; omega
  have hv1 : decide ((v : Int) < 1) = true := by rw [decide_eq_true_iff]; omega
  have HR := Lib.hid hR
  have HP := Lib.hid hp
  clear hR hp
  go_enter Tryd.func47, Tryd.ntmps47
  go_wp2_with fail
  refine (var_tell s 0 c v m p _ hs (Nat.zero_le _) HR.out HP.out).mono ?_
  rintro e w' ⟨rfl, rfl⟩
  go_wp2_with fail
  exact bodyPost_ret (v := noV 51) (by unfold noV; simp [results, Tryd.results47, go_sem]) rfl ⟨rfl, (Below.refl _ _).alloc (Nat.le_refl _) _⟩

set_option maxRecDepth 100000 in
theorem pay_high2 (s : ByteArray) (l : Nat) (w : World) (hs : s.size ≤ 9223372036854775807) (hl : l ≤ 1024) (c v m p : Nat) (hR : Sl.var (s.data.toList.drop 0) = ⟨c, v, m⟩) (hp : (if c = 0 then 0 + m else 0) = p) (hv : v < 18446744073709551616) (hc : c ≤ 32) (hpl : p ≤ s.size) (h0 : c = 0) (h1 : 1152921504606846976 < v) :
    Calls Tryd.prog 47 #[.int .i64 2, .string s, .int .i64 l] w fun e w' => e = .returned (noV 51) ∧ Below w.heap.size w w' := by
  have ht : ((c : Int) != 0) = false := by rw [bne_eq_false_iff_eq]; omega
  have hv1 : decide ((v : Int) < 1) = false := by rw [decide_eq_false_iff_not]; omega
  have hv2 : decide ((1152921504606846976 : Int) < (v : Int)) = true := by rw [decide_eq_true_iff]; omega
  have HR := Lib.hid hR
  have HP := Lib.hid hp
  clear hR hp
  go_enter Tryd.func47, Tryd.ntmps47
  go_wp2_with fail
  refine (var_tell s 0 c v m p _ hs (Nat.zero_le _) HR.out HP.out).mono ?_
  rintro e w' ⟨rfl, rfl⟩
  go_wp2_with fail
  exact bodyPost_ret (v := noV 51) (by unfold noV; simp [results, Tryd.results47, go_sem]) rfl ⟨rfl, (Below.refl _ _).alloc (Nat.le_refl _) _⟩

set_option maxRecDepth 100000 in
theorem pay_code22 (s : ByteArray) (l : Nat) (w : World) (hs : s.size ≤ 9223372036854775807) (hl : l ≤ 1024) (c v m p : Nat) (hR : Sl.var (s.data.toList.drop 0) = ⟨c, v, m⟩) (hp : (if c = 0 then 0 + m else 0) = p) (hv : v < 18446744073709551616) (hc : c ≤ 32) (hpl : p ≤ s.size) (c' v' m' p' : Nat) (hR' : Sl.var (s.data.toList.drop p) = ⟨c', v', m'⟩) (hp' : (if c' = 0 then p + m' else 0) = p') (hv' : v' < 18446744073709551616) (hc' : c' ≤ 32) (hpl' : p' ≤ s.size) (h0 : c = 0) (h1 : 1 ≤ v) (h2 : v ≤ 1152921504606846976) (h3 : ¬ c' = 0) :
    Calls Tryd.prog 47 #[.int .i64 2, .string s, .int .i64 l] w fun e w' => e = .returned (noV c') ∧ Below w.heap.size w w' := by
  have ht : ((c : Int) != 0) = false := by rw [bne_eq_false_iff_eq]; omega
  have hv1 : decide ((v : Int) < 1) = false := by rw [decide_eq_false_iff_not]; omega
  have hv2 : decide ((1152921504606846976 : Int) < (v : Int)) = false := by rw [decide_eq_false_iff_not]; omega
  have ht' : ((c' : Int) != 0) = true := by rw [bne_iff_ne]; omega
  have HR := Lib.hid hR
  have HP := Lib.hid hp
  have HR2 := Lib.hid hR'
  have HP2 := Lib.hid hp'
  clear hR hp hR' hp'
  go_enter Tryd.func47, Tryd.ntmps47
  go_wp2_with fail
  refine (var_tell s 0 c v m p _ hs (Nat.zero_le _) HR.out HP.out).mono ?_
  rintro e w' ⟨rfl, rfl⟩
  go_wp2_with fail
  refine (var_tell s p c' v' m' p' _ hs hpl HR2.out HP2.out).mono ?_
  rintro e w' ⟨rfl, rfl⟩
  go_wp2_with fail
  exact bodyPost_ret (v := noV c') (by unfold noV; simp [results, Tryd.results47, go_sem]) rfl ⟨rfl, (Below.refl _ _).alloc (Nat.le_refl _) _⟩

set_option maxRecDepth 100000 in
theorem pay_id2 (s : ByteArray) (l : Nat) (w : World) (hs : s.size ≤ 9223372036854775807) (hl : l ≤ 1024) (c v m p : Nat) (hR : Sl.var (s.data.toList.drop 0) = ⟨c, v, m⟩) (hp : (if c = 0 then 0 + m else 0) = p) (hv : v < 18446744073709551616) (hc : c ≤ 32) (hpl : p ≤ s.size) (c' v' m' p' : Nat) (hR' : Sl.var (s.data.toList.drop p) = ⟨c', v', m'⟩) (hp' : (if c' = 0 then p + m' else 0) = p') (hv' : v' < 18446744073709551616) (hc' : c' ≤ 32) (hpl' : p' ≤ s.size) (h0 : c = 0) (h1 : 1 ≤ v) (h2 : v ≤ 1152921504606846976) (h3 : c' = 0) (h4 : 281474976710656 < v') :
    Calls Tryd.prog 47 #[.int .i64 2, .string s, .int .i64 l] w fun e w' => e = .returned (noV 60) ∧ Below w.heap.size w w' := by
  have ht : ((c : Int) != 0) = false := by rw [bne_eq_false_iff_eq]; omega
  have hv1 : decide ((v : Int) < 1) = false := by rw [decide_eq_false_iff_not]; omega
  have hv2 : decide ((1152921504606846976 : Int) < (v : Int)) = false := by rw [decide_eq_false_iff_not]; omega
  have ht' : ((c' : Int) != 0) = false := by rw [bne_eq_false_iff_eq]; omega
  have hw : decide ((281474976710656 : Int) < (v' : Int)) = true := by rw [decide_eq_true_iff]; omega
  have HR := Lib.hid hR
  have HP := Lib.hid hp
  have HR2 := Lib.hid hR'
  have HP2 := Lib.hid hp'
  clear hR hp hR' hp'
  go_enter Tryd.func47, Tryd.ntmps47
  go_wp2_with fail
  refine (var_tell s 0 c v m p _ hs (Nat.zero_le _) HR.out HP.out).mono ?_
  rintro e w' ⟨rfl, rfl⟩
  go_wp2_with fail
  refine (var_tell s p c' v' m' p' _ hs hpl HR2.out HP2.out).mono ?_
  rintro e w' ⟨rfl, rfl⟩
  go_wp2_with fail
  exact bodyPost_ret (v := noV 60) (by unfold noV; simp [results, Tryd.results47, go_sem]) rfl ⟨rfl, (Below.refl _ _).alloc (Nat.le_refl _) _⟩

set_option maxRecDepth 100000 in
theorem pay_len2 (s : ByteArray) (l : Nat) (w : World) (hs : s.size ≤ 9223372036854775807) (hl : l ≤ 1024) (c v m p : Nat) (hR : Sl.var (s.data.toList.drop 0) = ⟨c, v, m⟩) (hp : (if c = 0 then 0 + m else 0) = p) (hv : v < 18446744073709551616) (hc : c ≤ 32) (hpl : p ≤ s.size) (c' v' m' p' : Nat) (hR' : Sl.var (s.data.toList.drop p) = ⟨c', v', m'⟩) (hp' : (if c' = 0 then p + m' else 0) = p') (hv' : v' < 18446744073709551616) (hc' : c' ≤ 32) (hpl' : p' ≤ s.size) (h0 : c = 0) (h1 : 1 ≤ v) (h2 : v ≤ 1152921504606846976) (h3 : c' = 0) (h4 : v' ≤ 281474976710656) (C : ByteArray) (hC : s.extract p' s.size = C) (hCs : C.size + p' = s.size) (h5 : ¬ C.size = 0) :
    Calls Tryd.prog 47 #[.int .i64 2, .string s, .int .i64 l] w fun e w' => e = .returned (noV 11) ∧ Below w.heap.size w w' := by
  have ht : ((c : Int) != 0) = false := by rw [bne_eq_false_iff_eq]; omega
  have hv1 : decide ((v : Int) < 1) = false := by rw [decide_eq_false_iff_not]; omega
  have hv2 : decide ((1152921504606846976 : Int) < (v : Int)) = false := by rw [decide_eq_false_iff_not]; omega
  have ht' : ((c' : Int) != 0) = false := by rw [bne_eq_false_iff_eq]; omega
  have hw : decide ((281474976710656 : Int) < (v' : Int)) = false := by rw [decide_eq_false_iff_not]; omega
  have hz := ne_of C (by omega)
  have HR := Lib.hid hR
  have HP := Lib.hid hp
  have HR2 := Lib.hid hR'
  have HP2 := Lib.hid hp'
  clear hR hp hR' hp'
  go_enter Tryd.func47, Tryd.ntmps47
  go_wp2_with fail
  refine (var_tell s 0 c v m p _ hs (Nat.zero_le _) HR.out HP.out).mono ?_
  rintro e w' ⟨rfl, rfl⟩
  go_wp2_with fail
  refine (var_tell s p c' v' m' p' _ hs hpl HR2.out HP2.out).mono ?_
  rintro e w' ⟨rfl, rfl⟩
  go_wp2_with fail
  exact bodyPost_ret (v := noV 11) (by unfold noV; simp [results, Tryd.results47, go_sem]) rfl ⟨rfl, (Below.refl _ _).alloc (Nat.le_refl _) _⟩

set_option maxRecDepth 100000 in
theorem pay_good2 (s : ByteArray) (l : Nat) (w : World) (hs : s.size ≤ 9223372036854775807) (hl : l ≤ 1024) (c v m p : Nat) (hR : Sl.var (s.data.toList.drop 0) = ⟨c, v, m⟩) (hp : (if c = 0 then 0 + m else 0) = p) (hv : v < 18446744073709551616) (hc : c ≤ 32) (hpl : p ≤ s.size) (c' v' m' p' : Nat) (hR' : Sl.var (s.data.toList.drop p) = ⟨c', v', m'⟩) (hp' : (if c' = 0 then p + m' else 0) = p') (hv' : v' < 18446744073709551616) (hc' : c' ≤ 32) (hpl' : p' ≤ s.size) (h0 : c = 0) (h1 : 1 ≤ v) (h2 : v ≤ 1152921504606846976) (h3 : c' = 0) (h4 : v' ≤ 281474976710656) (C : ByteArray) (hC : s.extract p' s.size = C) (hCs : C.size + p' = s.size) (h5 : C.size = 0) :
    Calls Tryd.prog 47 #[.int .i64 2, .string s, .int .i64 l] w fun e w' => e = .returned (.tuple #[.agg #[.int .i64 v, .int .i64 2, .int .i64 v', .string C], .int .i64 0]) ∧ Below w.heap.size w w' := by
  have ht : ((c : Int) != 0) = false := by rw [bne_eq_false_iff_eq]; omega
  have hv1 : decide ((v : Int) < 1) = false := by rw [decide_eq_false_iff_not]; omega
  have hv2 : decide ((1152921504606846976 : Int) < (v : Int)) = false := by rw [decide_eq_false_iff_not]; omega
  have ht' : ((c' : Int) != 0) = false := by rw [bne_eq_false_iff_eq]; omega
  have hw : decide ((281474976710656 : Int) < (v' : Int)) = false := by rw [decide_eq_false_iff_not]; omega
  have hz : C.toList.isEmpty = true := by
    rw [ByteArray.toList_eq, List.isEmpty_iff]
    apply List.eq_nil_of_length_eq_zero
    rw [Array.length_toList]; exact h5
  have HR := Lib.hid hR
  have HP := Lib.hid hp
  have HR2 := Lib.hid hR'
  have HP2 := Lib.hid hp'
  clear hR hp hR' hp'
  go_enter Tryd.func47, Tryd.ntmps47
  go_wp2_with fail
  refine (var_tell s 0 c v m p _ hs (Nat.zero_le _) HR.out HP.out).mono ?_
  rintro e w' ⟨rfl, rfl⟩
  go_wp2_with fail
  refine (var_tell s p c' v' m' p' _ hs hpl HR2.out HP2.out).mono ?_
  rintro e w' ⟨rfl, rfl⟩
  go_wp2_with fail
  exact bodyPost_ret (v := .tuple #[.agg #[.int .i64 v, .int .i64 2, .int .i64 v', .string C], .int .i64 0]) (by simp [results, Tryd.results47, go_sem]) rfl ⟨rfl, (Below.refl _ _).alloc (Nat.le_refl _) _⟩

set_option maxRecDepth 100000 in
theorem refPay_code1 (s : ByteArray) (l : Nat) (w : World) (hs : s.size ≤ 9223372036854775807) (hl : l ≤ 1024) (c v m p : Nat) (hR : Sl.var (s.data.toList.drop 0) = ⟨c, v, m⟩) (hp : (if c = 0 then 0 + m else 0) = p) (hv : v < 18446744073709551616) (hc : c ≤ 32) (hpl : p ≤ s.size) (h0 : ¬ c = 0) :
    Calls Tryd.prog 77 #[.int .i64 1, .string s, .int .i64 l] w fun e w' => e = .returned (noV c) ∧ Below w.heap.size w w' := by
  have ht : ((c : Int) != 0) = true := by rw [bne_iff_ne]; omega
  have HR := Lib.hid hR
  have HP := Lib.hid hp
  clear hR hp
  go_enter Tryd.func77, Tryd.ntmps77
  go_wp2_with fail
  refine (refVar_tell s 0 c v m p _ hs (Nat.zero_le _) HR.out HP.out).mono ?_
  rintro e w' ⟨rfl, rfl⟩
  go_wp2_with fail
  exact bodyPost_ret (v := noV c) (by unfold noV; simp [results, Tryd.results77, go_sem]) rfl ⟨rfl, (Below.refl _ _).alloc (Nat.le_refl _) _⟩

set_option maxRecDepth 100000 in
theorem refPay_low1 (s : ByteArray) (l : Nat) (w : World) (hs : s.size ≤ 9223372036854775807) (hl : l ≤ 1024) (c v m p : Nat) (hR : Sl.var (s.data.toList.drop 0) = ⟨c, v, m⟩) (hp : (if c = 0 then 0 + m else 0) = p) (hv : v < 18446744073709551616) (hc : c ≤ 32) (hpl : p ≤ s.size) (h0 : c = 0) (h1 : v < 1) :
    Calls Tryd.prog 77 #[.int .i64 1, .string s, .int .i64 l] w fun e w' => e = .returned (noV 51) ∧ Below w.heap.size w w' := by
  have ht : ((c : Int) != 0) = false := by rw [bne_eq_false_iff_eq]; omega
  have hv1 : decide ((v : Int) < 1) = true := by rw [decide_eq_true_iff]; omega
  have HR := Lib.hid hR
  have HP := Lib.hid hp
  clear hR hp
  go_enter Tryd.func77, Tryd.ntmps77
  go_wp2_with fail
  refine (refVar_tell s 0 c v m p _ hs (Nat.zero_le _) HR.out HP.out).mono ?_
  rintro e w' ⟨rfl, rfl⟩
  go_wp2_with fail
  exact bodyPost_ret (v := noV 51) (by unfold noV; simp [results, Tryd.results77, go_sem]) rfl ⟨rfl, (Below.refl _ _).alloc (Nat.le_refl _) _⟩

set_option maxRecDepth 100000 in
theorem refPay_high1 (s : ByteArray) (l : Nat) (w : World) (hs : s.size ≤ 9223372036854775807) (hl : l ≤ 1024) (c v m p : Nat) (hR : Sl.var (s.data.toList.drop 0) = ⟨c, v, m⟩) (hp : (if c = 0 then 0 + m else 0) = p) (hv : v < 18446744073709551616) (hc : c ≤ 32) (hpl : p ≤ s.size) (h0 : c = 0) (h1 : 1152921504606846976 < v) :
    Calls Tryd.prog 77 #[.int .i64 1, .string s, .int .i64 l] w fun e w' => e = .returned (noV 51) ∧ Below w.heap.size w w' := by
  have ht : ((c : Int) != 0) = false := by rw [bne_eq_false_iff_eq]; omega
  have hv1 : decide ((v : Int) < 1) = false := by rw [decide_eq_false_iff_not]; omega
  have hv2 : decide ((1152921504606846976 : Int) < (v : Int)) = true := by rw [decide_eq_true_iff]; omega
  have HR := Lib.hid hR
  have HP := Lib.hid hp
  clear hR hp
  go_enter Tryd.func77, Tryd.ntmps77
  go_wp2_with fail
  refine (refVar_tell s 0 c v m p _ hs (Nat.zero_le _) HR.out HP.out).mono ?_
  rintro e w' ⟨rfl, rfl⟩
  go_wp2_with fail
  exact bodyPost_ret (v := noV 51) (by unfold noV; simp [results, Tryd.results77, go_sem]) rfl ⟨rfl, (Below.refl _ _).alloc (Nat.le_refl _) _⟩

set_option maxRecDepth 100000 in
theorem refPay_code21 (s : ByteArray) (l : Nat) (w : World) (hs : s.size ≤ 9223372036854775807) (hl : l ≤ 1024) (c v m p : Nat) (hR : Sl.var (s.data.toList.drop 0) = ⟨c, v, m⟩) (hp : (if c = 0 then 0 + m else 0) = p) (hv : v < 18446744073709551616) (hc : c ≤ 32) (hpl : p ≤ s.size) (c' v' m' p' : Nat) (hR' : Sl.var (s.data.toList.drop p) = ⟨c', v', m'⟩) (hp' : (if c' = 0 then p + m' else 0) = p') (hv' : v' < 18446744073709551616) (hc' : c' ≤ 32) (hpl' : p' ≤ s.size) (h0 : c = 0) (h1 : 1 ≤ v) (h2 : v ≤ 1152921504606846976) (h3 : ¬ c' = 0) :
    Calls Tryd.prog 77 #[.int .i64 1, .string s, .int .i64 l] w fun e w' => e = .returned (noV c') ∧ Below w.heap.size w w' := by
  have ht : ((c : Int) != 0) = false := by rw [bne_eq_false_iff_eq]; omega
  have hv1 : decide ((v : Int) < 1) = false := by rw [decide_eq_false_iff_not]; omega
  have hv2 : decide ((1152921504606846976 : Int) < (v : Int)) = false := by rw [decide_eq_false_iff_not]; omega
  have ht' : ((c' : Int) != 0) = true := by rw [bne_iff_ne]; omega
  have HR := Lib.hid hR
  have HP := Lib.hid hp
  have HR2 := Lib.hid hR'
  have HP2 := Lib.hid hp'
  clear hR hp hR' hp'
  go_enter Tryd.func77, Tryd.ntmps77
  go_wp2_with fail
  refine (refVar_tell s 0 c v m p _ hs (Nat.zero_le _) HR.out HP.out).mono ?_
  rintro e w' ⟨rfl, rfl⟩
  go_wp2_with fail
  refine (refVar_tell s p c' v' m' p' _ hs hpl HR2.out HP2.out).mono ?_
  rintro e w' ⟨rfl, rfl⟩
  go_wp2_with fail
  exact bodyPost_ret (v := noV c') (by unfold noV; simp [results, Tryd.results77, go_sem]) rfl ⟨rfl, (Below.refl _ _).alloc (Nat.le_refl _) _⟩

set_option maxRecDepth 100000 in
theorem refPay_id1 (s : ByteArray) (l : Nat) (w : World) (hs : s.size ≤ 9223372036854775807) (hl : l ≤ 1024) (c v m p : Nat) (hR : Sl.var (s.data.toList.drop 0) = ⟨c, v, m⟩) (hp : (if c = 0 then 0 + m else 0) = p) (hv : v < 18446744073709551616) (hc : c ≤ 32) (hpl : p ≤ s.size) (c' v' m' p' : Nat) (hR' : Sl.var (s.data.toList.drop p) = ⟨c', v', m'⟩) (hp' : (if c' = 0 then p + m' else 0) = p') (hv' : v' < 18446744073709551616) (hc' : c' ≤ 32) (hpl' : p' ≤ s.size) (h0 : c = 0) (h1 : 1 ≤ v) (h2 : v ≤ 1152921504606846976) (h3 : c' = 0) (h4 : 281474976710656 < v') :
    Calls Tryd.prog 77 #[.int .i64 1, .string s, .int .i64 l] w fun e w' => e = .returned (noV 60) ∧ Below w.heap.size w w' := by
  have ht : ((c : Int) != 0) = false := by rw [bne_eq_false_iff_eq]; omega
  have hv1 : decide ((v : Int) < 1) = false := by rw [decide_eq_false_iff_not]; omega
  have hv2 : decide ((1152921504606846976 : Int) < (v : Int)) = false := by rw [decide_eq_false_iff_not]; omega
  have ht' : ((c' : Int) != 0) = false := by rw [bne_eq_false_iff_eq]; omega
  have hw : decide ((281474976710656 : Int) < (v' : Int)) = true := by rw [decide_eq_true_iff]; omega
  have HR := Lib.hid hR
  have HP := Lib.hid hp
  have HR2 := Lib.hid hR'
  have HP2 := Lib.hid hp'
  clear hR hp hR' hp'
  go_enter Tryd.func77, Tryd.ntmps77
  go_wp2_with fail
  refine (refVar_tell s 0 c v m p _ hs (Nat.zero_le _) HR.out HP.out).mono ?_
  rintro e w' ⟨rfl, rfl⟩
  go_wp2_with fail
  refine (refVar_tell s p c' v' m' p' _ hs hpl HR2.out HP2.out).mono ?_
  rintro e w' ⟨rfl, rfl⟩
  go_wp2_with fail
  exact bodyPost_ret (v := noV 60) (by unfold noV; simp [results, Tryd.results77, go_sem]) rfl ⟨rfl, (Below.refl _ _).alloc (Nat.le_refl _) _⟩

set_option maxRecDepth 100000 in
theorem refPay_len1 (s : ByteArray) (l : Nat) (w : World) (hs : s.size ≤ 9223372036854775807) (hl : l ≤ 1024) (c v m p : Nat) (hR : Sl.var (s.data.toList.drop 0) = ⟨c, v, m⟩) (hp : (if c = 0 then 0 + m else 0) = p) (hv : v < 18446744073709551616) (hc : c ≤ 32) (hpl : p ≤ s.size) (c' v' m' p' : Nat) (hR' : Sl.var (s.data.toList.drop p) = ⟨c', v', m'⟩) (hp' : (if c' = 0 then p + m' else 0) = p') (hv' : v' < 18446744073709551616) (hc' : c' ≤ 32) (hpl' : p' ≤ s.size) (h0 : c = 0) (h1 : 1 ≤ v) (h2 : v ≤ 1152921504606846976) (h3 : c' = 0) (h4 : v' ≤ 281474976710656) (C : ByteArray) (hC : s.extract p' s.size = C) (hCs : C.size + p' = s.size) (h5 : ¬ C.size = l / 8) :
    Calls Tryd.prog 77 #[.int .i64 1, .string s, .int .i64 l] w fun e w' => e = .returned (noV 11) ∧ Below w.heap.size w w' := by
  have ht : ((c : Int) != 0) = false := by rw [bne_eq_false_iff_eq]; omega
  have hv1 : decide ((v : Int) < 1) = false := by rw [decide_eq_false_iff_not]; omega
  have hv2 : decide ((1152921504606846976 : Int) < (v : Int)) = false := by rw [decide_eq_false_iff_not]; omega
  have ht' : ((c' : Int) != 0) = false := by rw [bne_eq_false_iff_eq]; omega
  have hw : decide ((281474976710656 : Int) < (v' : Int)) = false := by rw [decide_eq_false_iff_not]; omega
  have hq : (l : Int).tdiv 8 = ((l / 8 : Nat) : Int) := by rw [Int.tdiv_eq_ediv_of_nonneg (by omega)]; rfl
  have hz : ((C.size : Int) != ((l / 8 : Nat) : Int)) = true := by rw [bne_iff_ne]; omega
  have HR := Lib.hid hR
  have HP := Lib.hid hp
  have HR2 := Lib.hid hR'
  have HP2 := Lib.hid hp'
  clear hR hp hR' hp'
  go_enter Tryd.func77, Tryd.ntmps77
  go_wp2_with fail
  refine (refVar_tell s 0 c v m p _ hs (Nat.zero_le _) HR.out HP.out).mono ?_
  rintro e w' ⟨rfl, rfl⟩
  go_wp2_with fail
  refine (refVar_tell s p c' v' m' p' _ hs hpl HR2.out HP2.out).mono ?_
  rintro e w' ⟨rfl, rfl⟩
  go_wp2_with fail
  exact bodyPost_ret (v := noV 11) (by unfold noV; simp [results, Tryd.results77, go_sem]) rfl ⟨rfl, (Below.refl _ _).alloc (Nat.le_refl _) _⟩

set_option maxRecDepth 100000 in
theorem refPay_good1 (s : ByteArray) (l : Nat) (w : World) (hs : s.size ≤ 9223372036854775807) (hl : l ≤ 1024) (c v m p : Nat) (hR : Sl.var (s.data.toList.drop 0) = ⟨c, v, m⟩) (hp : (if c = 0 then 0 + m else 0) = p) (hv : v < 18446744073709551616) (hc : c ≤ 32) (hpl : p ≤ s.size) (c' v' m' p' : Nat) (hR' : Sl.var (s.data.toList.drop p) = ⟨c', v', m'⟩) (hp' : (if c' = 0 then p + m' else 0) = p') (hv' : v' < 18446744073709551616) (hc' : c' ≤ 32) (hpl' : p' ≤ s.size) (h0 : c = 0) (h1 : 1 ≤ v) (h2 : v ≤ 1152921504606846976) (h3 : c' = 0) (h4 : v' ≤ 281474976710656) (C : ByteArray) (hC : s.extract p' s.size = C) (hCs : C.size + p' = s.size) (h5 : C.size = l / 8) :
    Calls Tryd.prog 77 #[.int .i64 1, .string s, .int .i64 l] w fun e w' => e = .returned (.tuple #[.agg #[.int .i64 v, .int .i64 1, .int .i64 v', .string C], .int .i64 0]) ∧ Below w.heap.size w w' := by
  have ht : ((c : Int) != 0) = false := by rw [bne_eq_false_iff_eq]; omega
  have hv1 : decide ((v : Int) < 1) = false := by rw [decide_eq_false_iff_not]; omega
  have hv2 : decide ((1152921504606846976 : Int) < (v : Int)) = false := by rw [decide_eq_false_iff_not]; omega
  have ht' : ((c' : Int) != 0) = false := by rw [bne_eq_false_iff_eq]; omega
  have hw : decide ((281474976710656 : Int) < (v' : Int)) = false := by rw [decide_eq_false_iff_not]; omega
  have hq : (l : Int).tdiv 8 = ((l / 8 : Nat) : Int) := by rw [Int.tdiv_eq_ediv_of_nonneg (by omega)]; rfl
  have hz : ((C.size : Int) != ((l / 8 : Nat) : Int)) = false := by rw [bne_eq_false_iff_eq]; omega
  have HR := Lib.hid hR
  have HP := Lib.hid hp
  have HR2 := Lib.hid hR'
  have HP2 := Lib.hid hp'
  clear hR hp hR' hp'
  go_enter Tryd.func77, Tryd.ntmps77
  go_wp2_with fail
  refine (refVar_tell s 0 c v m p _ hs (Nat.zero_le _) HR.out HP.out).mono ?_
  rintro e w' ⟨rfl, rfl⟩
  go_wp2_with fail
  refine (refVar_tell s p c' v' m' p' _ hs hpl HR2.out HP2.out).mono ?_
  rintro e w' ⟨rfl, rfl⟩
  go_wp2_with fail
  exact bodyPost_ret (v := .tuple #[.agg #[.int .i64 v, .int .i64 1, .int .i64 v', .string C], .int .i64 0]) (by simp [results, Tryd.results77, go_sem]) rfl ⟨rfl, (Below.refl _ _).alloc (Nat.le_refl _) _⟩

set_option maxRecDepth 100000 in
theorem refPay_code2 (s : ByteArray) (l : Nat) (w : World) (hs : s.size ≤ 9223372036854775807) (hl : l ≤ 1024) (c v m p : Nat) (hR : Sl.var (s.data.toList.drop 0) = ⟨c, v, m⟩) (hp : (if c = 0 then 0 + m else 0) = p) (hv : v < 18446744073709551616) (hc : c ≤ 32) (hpl : p ≤ s.size) (h0 : ¬ c = 0) :
    Calls Tryd.prog 77 #[.int .i64 2, .string s, .int .i64 l] w fun e w' => e = .returned (noV c) ∧ Below w.heap.size w w' := by
  have ht : ((c : Int) != 0) = true := by rw [bne_iff_ne]; omega
  have HR := Lib.hid hR
  have HP := Lib.hid hp
  clear hR hp
  go_enter Tryd.func77, Tryd.ntmps77
  go_wp2_with fail
  refine (refVar_tell s 0 c v m p _ hs (Nat.zero_le _) HR.out HP.out).mono ?_
  rintro e w' ⟨rfl, rfl⟩
  go_wp2_with fail
  exact bodyPost_ret (v := noV c) (by unfold noV; simp [results, Tryd.results77, go_sem]) rfl ⟨rfl, (Below.refl _ _).alloc (Nat.le_refl _) _⟩

set_option maxRecDepth 100000 in
theorem refPay_low2 (s : ByteArray) (l : Nat) (w : World) (hs : s.size ≤ 9223372036854775807) (hl : l ≤ 1024) (c v m p : Nat) (hR : Sl.var (s.data.toList.drop 0) = ⟨c, v, m⟩) (hp : (if c = 0 then 0 + m else 0) = p) (hv : v < 18446744073709551616) (hc : c ≤ 32) (hpl : p ≤ s.size) (h0 : c = 0) (h1 : v < 1) :
    Calls Tryd.prog 77 #[.int .i64 2, .string s, .int .i64 l] w fun e w' => e = .returned (noV 51) ∧ Below w.heap.size w w' := by
  have ht : ((c : Int) != 0) = false := by rw [bne_eq_false_iff_eq]; omega
  have hv1 : decide ((v : Int) < 1) = true := by rw [decide_eq_true_iff]; omega
  have HR := Lib.hid hR
  have HP := Lib.hid hp
  clear hR hp
  go_enter Tryd.func77, Tryd.ntmps77
  go_wp2_with fail
  refine (refVar_tell s 0 c v m p _ hs (Nat.zero_le _) HR.out HP.out).mono ?_
  rintro e w' ⟨rfl, rfl⟩
  go_wp2_with fail
  exact bodyPost_ret (v := noV 51) (by unfold noV; simp [results, Tryd.results77, go_sem]) rfl ⟨rfl, (Below.refl _ _).alloc (Nat.le_refl _) _⟩

set_option maxRecDepth 100000 in
theorem refPay_high2 (s : ByteArray) (l : Nat) (w : World) (hs : s.size ≤ 9223372036854775807) (hl : l ≤ 1024) (c v m p : Nat) (hR : Sl.var (s.data.toList.drop 0) = ⟨c, v, m⟩) (hp : (if c = 0 then 0 + m else 0) = p) (hv : v < 18446744073709551616) (hc : c ≤ 32) (hpl : p ≤ s.size) (h0 : c = 0) (h1 : 1152921504606846976 < v) :
    Calls Tryd.prog 77 #[.int .i64 2, .string s, .int .i64 l] w fun e w' => e = .returned (noV 51) ∧ Below w.heap.size w w' := by
  have ht : ((c : Int) != 0) = false := by rw [bne_eq_false_iff_eq]; omega
  have hv1 : decide ((v : Int) < 1) = false := by rw [decide_eq_false_iff_not]; omega
  have hv2 : decide ((1152921504606846976 : Int) < (v : Int)) = true := by rw [decide_eq_true_iff]; omega
  have HR := Lib.hid hR
  have HP := Lib.hid hp
  clear hR hp
  go_enter Tryd.func77, Tryd.ntmps77
  go_wp2_with fail
  refine (refVar_tell s 0 c v m p _ hs (Nat.zero_le _) HR.out HP.out).mono ?_
  rintro e w' ⟨rfl, rfl⟩
  go_wp2_with fail
  exact bodyPost_ret (v := noV 51) (by unfold noV; simp [results, Tryd.results77, go_sem]) rfl ⟨rfl, (Below.refl _ _).alloc (Nat.le_refl _) _⟩

set_option maxRecDepth 100000 in
theorem refPay_code22 (s : ByteArray) (l : Nat) (w : World) (hs : s.size ≤ 9223372036854775807) (hl : l ≤ 1024) (c v m p : Nat) (hR : Sl.var (s.data.toList.drop 0) = ⟨c, v, m⟩) (hp : (if c = 0 then 0 + m else 0) = p) (hv : v < 18446744073709551616) (hc : c ≤ 32) (hpl : p ≤ s.size) (c' v' m' p' : Nat) (hR' : Sl.var (s.data.toList.drop p) = ⟨c', v', m'⟩) (hp' : (if c' = 0 then p + m' else 0) = p') (hv' : v' < 18446744073709551616) (hc' : c' ≤ 32) (hpl' : p' ≤ s.size) (h0 : c = 0) (h1 : 1 ≤ v) (h2 : v ≤ 1152921504606846976) (h3 : ¬ c' = 0) :
    Calls Tryd.prog 77 #[.int .i64 2, .string s, .int .i64 l] w fun e w' => e = .returned (noV c') ∧ Below w.heap.size w w' := by
  have ht : ((c : Int) != 0) = false := by rw [bne_eq_false_iff_eq]; omega
  have hv1 : decide ((v : Int) < 1) = false := by rw [decide_eq_false_iff_not]; omega
  have hv2 : decide ((1152921504606846976 : Int) < (v : Int)) = false := by rw [decide_eq_false_iff_not]; omega
  have ht' : ((c' : Int) != 0) = true := by rw [bne_iff_ne]; omega
  have HR := Lib.hid hR
  have HP := Lib.hid hp
  have HR2 := Lib.hid hR'
  have HP2 := Lib.hid hp'
  clear hR hp hR' hp'
  go_enter Tryd.func77, Tryd.ntmps77
  go_wp2_with fail
  refine (refVar_tell s 0 c v m p _ hs (Nat.zero_le _) HR.out HP.out).mono ?_
  rintro e w' ⟨rfl, rfl⟩
  go_wp2_with fail
  refine (refVar_tell s p c' v' m' p' _ hs hpl HR2.out HP2.out).mono ?_
  rintro e w' ⟨rfl, rfl⟩
  go_wp2_with fail
  exact bodyPost_ret (v := noV c') (by unfold noV; simp [results, Tryd.results77, go_sem]) rfl ⟨rfl, (Below.refl _ _).alloc (Nat.le_refl _) _⟩

set_option maxRecDepth 100000 in
theorem refPay_id2 (s : ByteArray) (l : Nat) (w : World) (hs : s.size ≤ 9223372036854775807) (hl : l ≤ 1024) (c v m p : Nat) (hR : Sl.var (s.data.toList.drop 0) = ⟨c, v, m⟩) (hp : (if c = 0 then 0 + m else 0) = p) (hv : v < 18446744073709551616) (hc : c ≤ 32) (hpl : p ≤ s.size) (c' v' m' p' : Nat) (hR' : Sl.var (s.data.toList.drop p) = ⟨c', v', m'⟩) (hp' : (if c' = 0 then p + m' else 0) = p') (hv' : v' < 18446744073709551616) (hc' : c' ≤ 32) (hpl' : p' ≤ s.size) (h0 : c = 0) (h1 : 1 ≤ v) (h2 : v ≤ 1152921504606846976) (h3 : c' = 0) (h4 : 281474976710656 < v') :
    Calls Tryd.prog 77 #[.int .i64 2, .string s, .int .i64 l] w fun e w' => e = .returned (noV 60) ∧ Below w.heap.size w w' := by
  have ht : ((c : Int) != 0) = false := by rw [bne_eq_false_iff_eq]; omega
  have hv1 : decide ((v : Int) < 1) = false := by rw [decide_eq_false_iff_not]; omega
  have hv2 : decide ((1152921504606846976 : Int) < (v : Int)) = false := by rw [decide_eq_false_iff_not]; omega
  have ht' : ((c' : Int) != 0) = false := by rw [bne_eq_false_iff_eq]; omega
  have hw : decide ((281474976710656 : Int) < (v' : Int)) = true := by rw [decide_eq_true_iff]; omega
  have HR := Lib.hid hR
  have HP := Lib.hid hp
  have HR2 := Lib.hid hR'
  have HP2 := Lib.hid hp'
  clear hR hp hR' hp'
  go_enter Tryd.func77, Tryd.ntmps77
  go_wp2_with fail
  refine (refVar_tell s 0 c v m p _ hs (Nat.zero_le _) HR.out HP.out).mono ?_
  rintro e w' ⟨rfl, rfl⟩
  go_wp2_with fail
  refine (refVar_tell s p c' v' m' p' _ hs hpl HR2.out HP2.out).mono ?_
  rintro e w' ⟨rfl, rfl⟩
  go_wp2_with fail
  exact bodyPost_ret (v := noV 60) (by unfold noV; simp [results, Tryd.results77, go_sem]) rfl ⟨rfl, (Below.refl _ _).alloc (Nat.le_refl _) _⟩

set_option maxRecDepth 100000 in
theorem refPay_len2 (s : ByteArray) (l : Nat) (w : World) (hs : s.size ≤ 9223372036854775807) (hl : l ≤ 1024) (c v m p : Nat) (hR : Sl.var (s.data.toList.drop 0) = ⟨c, v, m⟩) (hp : (if c = 0 then 0 + m else 0) = p) (hv : v < 18446744073709551616) (hc : c ≤ 32) (hpl : p ≤ s.size) (c' v' m' p' : Nat) (hR' : Sl.var (s.data.toList.drop p) = ⟨c', v', m'⟩) (hp' : (if c' = 0 then p + m' else 0) = p') (hv' : v' < 18446744073709551616) (hc' : c' ≤ 32) (hpl' : p' ≤ s.size) (h0 : c = 0) (h1 : 1 ≤ v) (h2 : v ≤ 1152921504606846976) (h3 : c' = 0) (h4 : v' ≤ 281474976710656) (C : ByteArray) (hC : s.extract p' s.size = C) (hCs : C.size + p' = s.size) (h5 : ¬ C.size = 0) :
    Calls Tryd.prog 77 #[.int .i64 2, .string s, .int .i64 l] w fun e w' => e = .returned (noV 11) ∧ Below w.heap.size w w' := by
  have ht : ((c : Int) != 0) = false := by rw [bne_eq_false_iff_eq]; omega
  have hv1 : decide ((v : Int) < 1) = false := by rw [decide_eq_false_iff_not]; omega
  have hv2 : decide ((1152921504606846976 : Int) < (v : Int)) = false := by rw [decide_eq_false_iff_not]; omega
  have ht' : ((c' : Int) != 0) = false := by rw [bne_eq_false_iff_eq]; omega
  have hw : decide ((281474976710656 : Int) < (v' : Int)) = false := by rw [decide_eq_false_iff_not]; omega
  have hz := ne_of C (by omega)
  have HR := Lib.hid hR
  have HP := Lib.hid hp
  have HR2 := Lib.hid hR'
  have HP2 := Lib.hid hp'
  clear hR hp hR' hp'
  go_enter Tryd.func77, Tryd.ntmps77
  go_wp2_with fail
  refine (refVar_tell s 0 c v m p _ hs (Nat.zero_le _) HR.out HP.out).mono ?_
  rintro e w' ⟨rfl, rfl⟩
  go_wp2_with fail
  refine (refVar_tell s p c' v' m' p' _ hs hpl HR2.out HP2.out).mono ?_
  rintro e w' ⟨rfl, rfl⟩
  go_wp2_with fail
  exact bodyPost_ret (v := noV 11) (by unfold noV; simp [results, Tryd.results77, go_sem]) rfl ⟨rfl, (Below.refl _ _).alloc (Nat.le_refl _) _⟩

set_option maxRecDepth 100000 in
theorem refPay_good2 (s : ByteArray) (l : Nat) (w : World) (hs : s.size ≤ 9223372036854775807) (hl : l ≤ 1024) (c v m p : Nat) (hR : Sl.var (s.data.toList.drop 0) = ⟨c, v, m⟩) (hp : (if c = 0 then 0 + m else 0) = p) (hv : v < 18446744073709551616) (hc : c ≤ 32) (hpl : p ≤ s.size) (c' v' m' p' : Nat) (hR' : Sl.var (s.data.toList.drop p) = ⟨c', v', m'⟩) (hp' : (if c' = 0 then p + m' else 0) = p') (hv' : v' < 18446744073709551616) (hc' : c' ≤ 32) (hpl' : p' ≤ s.size) (h0 : c = 0) (h1 : 1 ≤ v) (h2 : v ≤ 1152921504606846976) (h3 : c' = 0) (h4 : v' ≤ 281474976710656) (C : ByteArray) (hC : s.extract p' s.size = C) (hCs : C.size + p' = s.size) (h5 : C.size = 0) :
    Calls Tryd.prog 77 #[.int .i64 2, .string s, .int .i64 l] w fun e w' => e = .returned (.tuple #[.agg #[.int .i64 v, .int .i64 2, .int .i64 v', .string C], .int .i64 0]) ∧ Below w.heap.size w w' := by
  have ht : ((c : Int) != 0) = false := by rw [bne_eq_false_iff_eq]; omega
  have hv1 : decide ((v : Int) < 1) = false := by rw [decide_eq_false_iff_not]; omega
  have hv2 : decide ((1152921504606846976 : Int) < (v : Int)) = false := by rw [decide_eq_false_iff_not]; omega
  have ht' : ((c' : Int) != 0) = false := by rw [bne_eq_false_iff_eq]; omega
  have hw : decide ((281474976710656 : Int) < (v' : Int)) = false := by rw [decide_eq_false_iff_not]; omega
  have hz : C.toList.isEmpty = true := by
    rw [ByteArray.toList_eq, List.isEmpty_iff]
    apply List.eq_nil_of_length_eq_zero
    rw [Array.length_toList]; exact h5
  have HR := Lib.hid hR
  have HP := Lib.hid hp
  have HR2 := Lib.hid hR'
  have HP2 := Lib.hid hp'
  clear hR hp hR' hp'
  go_enter Tryd.func77, Tryd.ntmps77
  go_wp2_with fail
  refine (refVar_tell s 0 c v m p _ hs (Nat.zero_le _) HR.out HP.out).mono ?_
  rintro e w' ⟨rfl, rfl⟩
  go_wp2_with fail
  refine (refVar_tell s p c' v' m' p' _ hs hpl HR2.out HP2.out).mono ?_
  rintro e w' ⟨rfl, rfl⟩
  go_wp2_with fail
  exact bodyPost_ret (v := .tuple #[.agg #[.int .i64 v, .int .i64 2, .int .i64 v', .string C], .int .i64 0]) (by simp [results, Tryd.results77, go_sem]) rfl ⟨rfl, (Below.refl _ _).alloc (Nat.le_refl _) _⟩
end Go.Proofs.YthhkebkpophkiaaDoor
