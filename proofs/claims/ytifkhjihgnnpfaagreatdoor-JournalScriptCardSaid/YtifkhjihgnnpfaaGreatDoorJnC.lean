/- Contracts of journal.Read and of the document's Read. Conditions: each theorem's own hypotheses. -/
import Derived.Test.YtifkhjihgnnpfaaGreatDoorZJnB
import Derived.Test.YtifkhjihgnnpfaaGreatDoorPv
namespace Go.Proofs.YtifkhjihgnnpfaaGreatDoor
set_option linter.unusedVariables false
open Go.RowKit

theorem parse_pay_len (l : List UInt8) (R : Sl.Parsed) (h : Sl.parse l = R) : R.pay.length ≤ l.length ∧ R.code ≤ 36 := by
  unfold Sl.parse at h
  repeat' split at h
  all_goals subst h
  all_goals simp only [List.length_nil, List.length_take, List.length_drop]
  all_goals omega

theorem parse_tell (s P : ByteArray) (k c kd m p : Nat) (pl : List UInt8) (w : World) (hs : s.size ≤ 9223372036854775807) (hk : k ≤ s.size) (hT : TabS w) (hR : Sl.parse (s.data.toList.drop k) = ⟨c, kd, pl, m⟩) (hP : str pl = .string P) (hp : (if c = 0 then k + m else 0) = p) :
    Calls Tryz.prog 88 #[.string s, .int .i64 k] w fun e w' => e = .returned (.tuple #[.int .i64 kd, .string P, .int .i64 p, .int .i64 c]) ∧ Below w.heap.size w w' := by
  subst hp; rw [← hP]; exact parse_any s k _ w hs hk hT hR
theorem refParse_tell (s P : ByteArray) (k c kd m p : Nat) (pl : List UInt8) (w : World) (hs : s.size ≤ 9223372036854775807) (hk : k ≤ s.size) (_ : TabS w) (hR : Sl.parse (s.data.toList.drop k) = ⟨c, kd, pl, m⟩) (hP : str pl = .string P) (hp : (if c = 0 then k + m else 0) = p) :
    Calls Tryz.prog 91 #[.string s, .int .i64 k] w fun e w' => e = .returned (.tuple #[.int .i64 kd, .string P, .int .i64 p, .int .i64 c]) ∧ Below w.heap.size w w' := by
  subst hp; rw [← hP]; exact refParse_any s k _ w hs hk hR
theorem payload_tell (s C : ByteArray) (k l q kk i e : Nat) (cd : List UInt8) (w : World) (hs : s.size ≤ 9223372036854775807) (hl : l ≤ 1024) (hU : Jn.pay k s.data.toList l = ⟨q, kk, i, cd, e⟩) (hC : str cd = .string C) :
    Calls Tryz.prog 56 #[.int .i64 k, .string s, .int .i64 l] w fun r w' => r = .returned (.tuple #[.agg #[.int .i64 q, .int .i64 kk, .int .i64 i, .string C], .int .i64 e]) ∧ Below w.heap.size w w' := by
  rw [← hC]; have := payload_any s k l w hs hl; rw [hU] at this; exact this
theorem refPayload_tell (s C : ByteArray) (k l q kk i e : Nat) (cd : List UInt8) (w : World) (hs : s.size ≤ 9223372036854775807) (hl : l ≤ 1024) (hU : Jn.pay k s.data.toList l = ⟨q, kk, i, cd, e⟩) (hC : str cd = .string C) :
    Calls Tryz.prog 92 #[.int .i64 k, .string s, .int .i64 l] w fun r w' => r = .returned (.tuple #[.agg #[.int .i64 q, .int .i64 kk, .int .i64 i, .string C], .int .i64 e]) ∧ Below w.heap.size w w' := by
  rw [← hC]; have := refPayload_any s k l w hs hl; rw [hU] at this; exact this

end Go.Proofs.YtifkhjihgnnpfaaGreatDoor
/- Contracts of both Reads in one: what the plain function Jn.read says. Conditions: each theorem's own hypotheses. -/
namespace Go.Proofs.YtifkhjihgnnpfaaGreatDoor
set_option linter.unusedVariables false
open Go.RowKit

/-- Reading an update in a width. -/
def Jn.read (b : List UInt8) (n : Int) : Jn.Upd :=
  if n < 64 ∨ 1024 < n ∨ ¬ n.toNat % 64 = 0 then Jn.no 10
  else if ¬ (Sl.parse b).code = 0 then Jn.no (Sl.parse b).code
  else if ¬ (Sl.parse b).len = b.length then Jn.no 37
  else Jn.pay (Sl.parse b).kind (Sl.parse b).pay n.toNat

end Go.Proofs.YtifkhjihgnnpfaaGreatDoor
/- Updates there and back: the plain laws of Jn.read. No conditions but each theorem's own. -/
namespace Go.Proofs.YtifkhjihgnnpfaaGreatDoor
open Go.RowKit
set_option linter.unusedVariables false

theorem pay_back (q k i w : Nat) (cd : List UInt8) (h1 : 1 ≤ q) (h2 : q ≤ 1152921504606846976) (h3 : i ≤ 281474976710656) (hk : k = 1 ∨ k = 2) :
    Jn.pay k (Sl.putVar q ++ Sl.putVar i ++ cd) w = if k = 1 ∧ ¬ cd.length = w / 8 ∨ k = 2 ∧ ¬ cd.length = 0 then Jn.no 11 else ⟨q, k, i, cd, 0⟩ := by
  unfold Jn.pay
  have v1 : Sl.var (Sl.putVar q ++ Sl.putVar i ++ cd) = ⟨0, q, (Sl.putVar q).length⟩ := by rw [List.append_assoc]; exact Sl.var_putVar q _ (by omega)
  have d1 : (Sl.putVar q ++ Sl.putVar i ++ cd).drop (Sl.putVar q).length = Sl.putVar i ++ cd := by rw [List.append_assoc, List.drop_left' rfl]
  have v2 : Sl.var (Sl.putVar i ++ cd) = ⟨0, i, (Sl.putVar i).length⟩ := Sl.var_putVar i _ (by omega)
  have d2 : (Sl.putVar q ++ Sl.putVar i ++ cd).drop ((Sl.putVar q).length + (Sl.putVar i).length) = cd := by rw [List.drop_left']; rw [List.length_append]
  have l : (Sl.putVar q ++ Sl.putVar i ++ cd).length - ((Sl.putVar q).length + (Sl.putVar i).length) = cd.length := by rw [List.length_append, List.length_append]; omega
  rw [if_neg (not_not_intro hk), v1]
  simp only
  rw [d1, v2]
  simp only
  rw [d2, l, if_neg (not_not_intro trivial), if_neg (by omega), if_neg (not_not_intro trivial), if_neg (by omega)]

theorem read_back (q k i : Nat) (w : Int) (cd : List UInt8) (h1 : 1 ≤ q) (h2 : q ≤ 1152921504606846976) (h3 : i ≤ 281474976710656) (hk : k = 1 ∨ k = 2) (hc : cd.length ≤ 128)
    (hw1 : 64 ≤ w) (hw2 : w ≤ 1024) (hw3 : w.toNat % 64 = 0) :
    Jn.read (Sl.frame k (Sl.putVar q ++ Sl.putVar i ++ cd)) w = if k = 1 ∧ ¬ cd.length = w.toNat / 8 ∨ k = 2 ∧ ¬ cd.length = 0 then Jn.no 11 else ⟨q, k, i, cd, 0⟩ := by
  have l1 := (Sl.pvf_len 9 q).2
  have l2 := (Sl.pvf_len 9 i).2
  have lp : (Sl.putVar q ++ Sl.putVar i ++ cd).length ≤ 65536 := by
    rw [List.length_append, List.length_append]
    show (Sl.pvf 9 q).length + (Sl.pvf 9 i).length + cd.length ≤ 65536
    omega
  have hp := Sl.parse_frame k (Sl.putVar q ++ Sl.putVar i ++ cd) [] (by omega) (by omega) lp
  rw [List.append_nil] at hp
  unfold Jn.read
  rw [hp]
  simp only
  rw [if_neg (by omega), if_neg (not_not_intro trivial), if_neg (by rw [Sl.frame_len]; simp), pay_back q k i _ cd h1 h2 h3 hk]

theorem pay_is (k w : Nat) (b : List UInt8) (U : Jn.Upd) (h : Jn.pay k b w = U) (he : U.err = 0) :
    U.kind = k ∧ 1 ≤ U.seq ∧ U.seq ≤ 1152921504606846976 ∧ U.id ≤ 281474976710656 ∧ (k = 1 ∧ U.code.length = w / 8 ∨ k = 2 ∧ U.code.length = 0) ∧ b = Sl.putVar U.seq ++ Sl.putVar U.id ++ U.code := by
  unfold Jn.pay at h
  by_cases h1 : k = 1 ∨ k = 2
  rotate_left
  · rw [if_pos h1] at h; subst h; exact absurd (show 35 = 0 from he) (by decide)
  rw [if_neg (not_not_intro h1)] at h
  obtain ⟨R, hR⟩ : ∃ R, Sl.var b = R := ⟨_, rfl⟩
  rw [hR] at h
  obtain ⟨c, v, m⟩ := R
  simp only at h
  by_cases h2 : c = 0
  rotate_left
  · rw [if_pos h2] at h; subst h; exact absurd (show c = 0 from he) h2
  rw [if_neg (not_not_intro h2)] at h
  by_cases h3 : v < 1 ∨ 1152921504606846976 < v
  · rw [if_pos h3] at h; subst h; exact absurd (show 51 = 0 from he) (by decide)
  rw [if_neg h3] at h
  subst h2
  obtain ⟨r1, e1, f1⟩ := Sl.putVar_var b v m hR
  have d1 : b.drop m = r1 := by rw [f1, e1, List.drop_left' rfl]
  rw [d1] at h
  obtain ⟨R, hR'⟩ : ∃ R, Sl.var r1 = R := ⟨_, rfl⟩
  rw [hR'] at h
  obtain ⟨c, v', m'⟩ := R
  simp only at h
  by_cases h4 : c = 0
  rotate_left
  · rw [if_pos h4] at h; subst h; exact absurd (show c = 0 from he) h4
  rw [if_neg (not_not_intro h4)] at h
  by_cases h5 : 281474976710656 < v'
  · rw [if_pos h5] at h; subst h; exact absurd (show 60 = 0 from he) (by decide)
  rw [if_neg h5] at h
  subst h4
  obtain ⟨r2, e2, f2⟩ := Sl.putVar_var r1 v' m' hR'
  have d2 : b.drop (m + m') = r2 := by rw [← List.drop_drop, d1, f2, e2, List.drop_left' rfl]
  have ll : b.length - (m + m') = r2.length := by rw [← d2, List.length_drop]
  rw [d2, ll] at h
  by_cases h6 : k = 1 ∧ ¬ r2.length = w / 8 ∨ k = 2 ∧ ¬ r2.length = 0
  · rw [if_pos h6] at h; subst h; exact absurd (show 11 = 0 from he) (by decide)
  rw [if_neg h6] at h
  subst h
  refine ⟨rfl, by show 1 ≤ v; omega, by show v ≤ _; omega, by show v' ≤ _; omega, ?_, ?_⟩
  · show k = 1 ∧ r2.length = w / 8 ∨ k = 2 ∧ r2.length = 0
    omega
  · show b = Sl.putVar v ++ Sl.putVar v' ++ r2
    rw [List.append_assoc, ← e2, ← e1]

theorem pay_no (k w : Nat) (b : List UInt8) (U : Jn.Upd) (h : Jn.pay k b w = U) (he : ¬ U.err = 0) : U = Jn.no U.err := by
  unfold Jn.pay at h
  repeat' split at h
  all_goals subst h
  all_goals first | rfl | exact absurd rfl he

theorem read_no (b : List UInt8) (w : Int) (U : Jn.Upd) (h : Jn.read b w = U) (he : ¬ U.err = 0) : U = Jn.no U.err := by
  unfold Jn.read at h
  repeat' split at h
  all_goals first | (subst h; rfl) | exact pay_no _ _ _ _ h he

theorem read_is (b : List UInt8) (w : Int) (U : Jn.Upd) (h : Jn.read b w = U) (he : U.err = 0) :
    64 ≤ w ∧ w ≤ 1024 ∧ w.toNat % 64 = 0 ∧ 1 ≤ U.seq ∧ U.seq ≤ 1152921504606846976 ∧ U.id ≤ 281474976710656 ∧ (U.kind = 1 ∧ U.code.length = w.toNat / 8 ∨ U.kind = 2 ∧ U.code.length = 0) ∧
    b = Sl.frame U.kind (Sl.putVar U.seq ++ Sl.putVar U.id ++ U.code) := by
  unfold Jn.read at h
  by_cases h1 : w < 64 ∨ 1024 < w ∨ ¬ w.toNat % 64 = 0
  · rw [if_pos h1] at h; subst h; exact absurd (show 10 = 0 from he) (by decide)
  rw [if_neg h1] at h
  obtain ⟨R, hR⟩ : ∃ R, Sl.parse b = R := ⟨_, rfl⟩
  rw [hR] at h
  obtain ⟨c, kd, p, m⟩ := R
  simp only at h
  by_cases h2 : c = 0
  rotate_left
  · rw [if_pos h2] at h; subst h; exact absurd (show c = 0 from he) h2
  rw [if_neg (not_not_intro h2)] at h
  by_cases h3 : m = b.length
  rotate_left
  · rw [if_pos h3] at h; subst h; exact absurd (show 37 = 0 from he) (by decide)
  rw [if_neg (not_not_intro h3)] at h
  subst h2
  obtain ⟨_, _, _, _, _, e⟩ := Sl.frame_parse b kd m p hR
  obtain ⟨a1, a2, a3, a4, a5, a6⟩ := pay_is kd w.toNat p U h he
  have e' : b = Sl.frame kd p := by rw [e, h3, List.drop_length, List.append_nil] 
  refine ⟨by omega, by omega, by omega, a2, a3, a4, by rw [a1]; exact a5, ?_⟩
  rw [a1, ← a6]
  exact e'
end Go.Proofs.YtifkhjihgnnpfaaGreatDoor
