/- Contracts of both Reads in one: what the plain function Jn.read says. Conditions: each theorem's own hypotheses. -/
import Derived.Test.YtffdplmnjlcmnaaDoorJnC
namespace Go.Proofs.YtffdplmnjlcmnaaDoor
set_option linter.unusedVariables false
open Go.RowKit

/-- Reading an update in a width. -/
def Jn.read (b : List UInt8) (n : Int) : Jn.Upd :=
  if n < 64 ∨ 1024 < n ∨ ¬ n.toNat % 64 = 0 then Jn.no 10
  else if ¬ (Sl.parse b).code = 0 then Jn.no (Sl.parse b).code
  else if ¬ (Sl.parse b).len = b.length then Jn.no 37
  else Jn.pay (Sl.parse b).kind (Sl.parse b).pay n.toNat

theorem read_any (s : ByteArray) (l : Int) (w : World) (hs : s.size ≤ 9223372036854775807) (hT : TabS w) :
    Calls Tryd.prog 19 #[.string s, .int .i64 l] w fun e w' => e = .returned (updV (Jn.read s.data.toList l)) ∧ Below w.heap.size w w' := by
  unfold Jn.read
  by_cases h1 : l < 64
  · rw [if_pos (Or.inl h1)]; exact read_low s l w h1
  by_cases h2 : 1024 < l
  · rw [if_pos (Or.inr (Or.inl h2))]; exact read_high s l w h2
  obtain ⟨n, rfl⟩ : ∃ n : Nat, l = (n : Int) := ⟨l.toNat, by omega⟩
  rw [show ((n : Int)).toNat = n from rfl]
  by_cases h3 : n % 64 = 0
  rotate_left
  · rw [if_pos (Or.inr (Or.inr h3))]; exact read_odd s n w (by omega) (by omega) (by rw [beq_eq_false_iff_ne]; omega)
  rw [if_neg (fun h => h.elim h1 (fun h => h.elim h2 (fun h => h h3)))]
  have hb : ((((n % 64 : Nat) : Int) == 0)) = true := by rw [beq_iff_eq]; omega
  obtain ⟨R, hR⟩ : ∃ R, Sl.parse s.data.toList = R := ⟨_, rfl⟩
  rw [hR]
  have hpl := parse_pay_len _ _ hR
  have hll : s.data.toList.length = s.size := Array.length_toList
  obtain ⟨c, kd, pl, m⟩ := R
  simp only at hpl ⊢
  obtain ⟨P, hP, hPd, hPs⟩ := str_of pl
  rw [hll] at hpl ⊢
  by_cases h4 : c = 0
  rotate_left
  · rw [if_pos h4]; exact read_code s P n c kd m _ pl w (by omega) (by omega) hb hs hT hR hP rfl h4
  rw [if_neg (not_not_intro h4)]
  by_cases h5 : m = s.size
  rotate_left
  · rw [if_pos h5]; exact read_long s P n c kd m _ pl w (by omega) (by omega) hb hs hT hR hP rfl h4 (by rw [if_pos h4]; omega)
  rw [if_neg (not_not_intro h5)]
  obtain ⟨U, hU⟩ : ∃ U, Jn.pay kd P.data.toList n = U := ⟨_, rfl⟩
  rw [← hPd, hU]
  obtain ⟨q, kk, i, cd, x⟩ := U
  obtain ⟨C, hC, _, _⟩ := str_of cd
  have r := read_good s P n c kd m _ pl w (by omega) (by omega) hb hs hT hR hP rfl h4 (by rw [if_pos h4]; omega) (by omega) C q kk i x cd hU hC
  refine r.mono fun e w' ⟨he, hB⟩ => ⟨?_, hB⟩
  rw [he, ← hC]; rfl

theorem refRead_any (s : ByteArray) (l : Int) (w : World) (hs : s.size ≤ 9223372036854775807) (hT : TabS w) :
    Calls Tryd.prog 20 #[.string s, .int .i64 l] w fun e w' => e = .returned (updV (Jn.read s.data.toList l)) ∧ Below w.heap.size w w' := by
  unfold Jn.read
  by_cases h1 : l < 64
  · rw [if_pos (Or.inl h1)]; exact refRead_low s l w h1
  by_cases h2 : 1024 < l
  · rw [if_pos (Or.inr (Or.inl h2))]; exact refRead_high s l w h2
  obtain ⟨n, rfl⟩ : ∃ n : Nat, l = (n : Int) := ⟨l.toNat, by omega⟩
  rw [show ((n : Int)).toNat = n from rfl]
  by_cases h3 : n % 64 = 0
  rotate_left
  · rw [if_pos (Or.inr (Or.inr h3))]; exact refRead_odd s n w (by omega) (by omega) (by rw [beq_eq_false_iff_ne]; omega)
  rw [if_neg (fun h => h.elim h1 (fun h => h.elim h2 (fun h => h h3)))]
  have hb : ((((n % 64 : Nat) : Int) == 0)) = true := by rw [beq_iff_eq]; omega
  obtain ⟨R, hR⟩ : ∃ R, Sl.parse s.data.toList = R := ⟨_, rfl⟩
  rw [hR]
  have hpl := parse_pay_len _ _ hR
  have hll : s.data.toList.length = s.size := Array.length_toList
  obtain ⟨c, kd, pl, m⟩ := R
  simp only at hpl ⊢
  obtain ⟨P, hP, hPd, hPs⟩ := str_of pl
  rw [hll] at hpl ⊢
  by_cases h4 : c = 0
  rotate_left
  · rw [if_pos h4]; exact refRead_code s P n c kd m _ pl w (by omega) (by omega) hb hs hT hR hP rfl h4
  rw [if_neg (not_not_intro h4)]
  by_cases h5 : m = s.size
  rotate_left
  · rw [if_pos h5]; exact refRead_long s P n c kd m _ pl w (by omega) (by omega) hb hs hT hR hP rfl h4 (by rw [if_pos h4]; omega)
  rw [if_neg (not_not_intro h5)]
  obtain ⟨U, hU⟩ : ∃ U, Jn.pay kd P.data.toList n = U := ⟨_, rfl⟩
  rw [← hPd, hU]
  obtain ⟨q, kk, i, cd, x⟩ := U
  obtain ⟨C, hC, _, _⟩ := str_of cd
  have r := refRead_good s P n c kd m _ pl w (by omega) (by omega) hb hs hT hR hP rfl h4 (by rw [if_pos h4]; omega) (by omega) C q kk i x cd hU hC
  refine r.mono fun e w' ⟨he, hB⟩ => ⟨?_, hB⟩
  rw [he, ← hC]; rfl

/-- .. with the update opened. -/
theorem read_tell (s C : ByteArray) (l : Int) (q kk i e : Nat) (cd : List UInt8) (w : World) (hs : s.size ≤ 9223372036854775807) (hT : TabS w) (hU : Jn.read s.data.toList l = ⟨q, kk, i, cd, e⟩) (hC : str cd = .string C) :
    Calls Tryd.prog 19 #[.string s, .int .i64 l] w fun r w' => r = .returned (.tuple #[.agg #[.int .i64 q, .int .i64 kk, .int .i64 i, .string C], .int .i64 e]) ∧ Below w.heap.size w w' := by
  rw [← hC]; have := read_any s l w hs hT; rw [hU] at this; exact this
theorem refRead_tell (s C : ByteArray) (l : Int) (q kk i e : Nat) (cd : List UInt8) (w : World) (hs : s.size ≤ 9223372036854775807) (hT : TabS w) (hU : Jn.read s.data.toList l = ⟨q, kk, i, cd, e⟩) (hC : str cd = .string C) :
    Calls Tryd.prog 20 #[.string s, .int .i64 l] w fun r w' => r = .returned (.tuple #[.agg #[.int .i64 q, .int .i64 kk, .int .i64 i, .string C], .int .i64 e]) ∧ Below w.heap.size w w' := by
  rw [← hC]; have := refRead_any s l w hs hT; rw [hU] at this; exact this
end Go.Proofs.YtffdplmnjlcmnaaDoor
