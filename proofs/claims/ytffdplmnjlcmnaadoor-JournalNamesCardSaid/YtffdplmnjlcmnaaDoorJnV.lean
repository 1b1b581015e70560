/- Contracts of both Writes in one: what the plain function Jn.write says. Conditions: each theorem's own hypotheses. -/
import Derived.Test.YtffdplmnjlcmnaaDoorJnW
namespace Go.Proofs.YtffdplmnjlcmnaaDoor
open Go.RowKit
set_option linter.unusedVariables false

/-- Does the code not go? -/
def Jn.codeBad (k : Int) (n : Nat) : Prop := k = 2 ∧ 0 < n ∨ k = 1 ∧ (n < 8 ∨ 128 < n ∨ ¬ n % 8 = 0)
instance (k : Int) (n : Nat) : Decidable (Jn.codeBad k n) := by unfold Jn.codeBad; infer_instance

/-- Writing an update: the bytes, and the refusal's number. -/
def Jn.write (q k i : Int) (c : List UInt8) : List UInt8 × Nat :=
  if q < 1 ∨ 1152921504606846976 < q then ([], 51)
  else if ¬ (k = 1 ∨ k = 2) then ([], 35)
  else if i < 0 ∨ 281474976710656 < i then ([], 60)
  else if Jn.codeBad k c.length then ([], 11)
  else (Sl.frame k.toNat (Sl.putVar q.toNat ++ Sl.putVar i.toNat ++ c), 0)

theorem str_nil : str [] = .string ⟨#[]⟩ := rfl

theorem write_any (q k i : Int) (c : ByteArray) (w : World) (hs : c.size ≤ 9223372036854775807) (hT : TabS w) :
    Calls Tryd.prog 24 #[.agg #[.int .i64 q, .int .i64 k, .int .i64 i, .string c]] w fun e w' => e = .returned (.tuple #[str (Jn.write q k i c.data.toList).1, .int .i64 (Jn.write q k i c.data.toList).2]) ∧ Below w.heap.size w w' := by
  have hl : c.data.toList.length = c.size := Array.length_toList
  unfold Jn.write
  by_cases h1 : q < 1
  · rw [if_pos (Or.inl h1)]; exact write_low q k i c h1 w
  by_cases h2 : 1152921504606846976 < q
  · rw [if_pos (Or.inr h2)]; exact write_high q k i c h2 w
  rw [if_neg (by omega)]
  by_cases hk : k = 1 ∨ k = 2
  rotate_left
  · rw [if_pos hk]; exact write_kind q k i c (by omega) (by omega) (fun h => hk (Or.inl h)) (fun h => hk (Or.inr h)) w
  rw [if_neg (not_not_intro hk)]
  by_cases h3 : i < 0
  · rw [if_pos (Or.inl h3)]
    rcases hk with rfl | rfl
    · exact write_idlow1 q i c (by omega) (by omega) h3 w
    · exact write_idlow2 q i c (by omega) (by omega) h3 w
  by_cases h4 : 281474976710656 < i
  · rw [if_pos (Or.inr h4)]
    rcases hk with rfl | rfl
    · exact write_idhigh1 q i c (by omega) (by omega) h4 w
    · exact write_idhigh2 q i c (by omega) (by omega) h4 w
  rw [if_neg (by omega), hl]
  by_cases hb : Jn.codeBad k c.size
  · rw [if_pos hb]
    rcases hb with ⟨rfl, hb⟩ | ⟨rfl, hb⟩
    · exact write_dead q i c (by omega) (by omega) (by omega) (by omega) hb hs w
    · by_cases h0 : c.size = 0
      · exact write_none q i c (by omega) (by omega) (by omega) (by omega) h0 w
      by_cases h8 : c.size < 8
      · exact write_few q i c (by omega) (by omega) (by omega) (by omega) (by omega) h8 w
      by_cases h9 : 128 < c.size
      · exact write_many q i c (by omega) (by omega) (by omega) (by omega) h9 hs w
      · exact write_odd q i c (by omega) (by omega) (by omega) (by omega) (by omega) (by omega) (by omega) w
  · rw [if_neg hb]
    unfold Jn.codeBad at hb
    obtain ⟨q, rfl⟩ : ∃ n : Nat, q = (n : Int) := ⟨q.toNat, by omega⟩
    obtain ⟨i, rfl⟩ : ∃ n : Nat, i = (n : Int) := ⟨i.toNat, by omega⟩
    rw [show ((q : Int)).toNat = q from rfl, show ((i : Int)).toNat = i from rfl]
    rcases hk with rfl | rfl
    · exact write_good1 q i c _ (by omega) (by omega) (by omega) (by omega) (by omega) (by omega) rfl w hT
    · exact write_good2 q i c _ (by omega) (by omega) (by omega) (by omega) rfl w hT

/-- .. with the bytes opened. -/
theorem write_tell (q k i : Int) (c S : ByteArray) (l : List UInt8) (x : Nat) (w : World) (hs : c.size ≤ 9223372036854775807) (hT : TabS w) (hW : Jn.write q k i c.data.toList = (l, x)) (hS : str l = .string S) :
    Calls Tryd.prog 24 #[.agg #[.int .i64 q, .int .i64 k, .int .i64 i, .string c]] w fun e w' => e = .returned (.tuple #[.string S, .int .i64 x]) ∧ Below w.heap.size w w' := by
  have := write_any q k i c w hs hT
  rw [hW] at this
  rw [← hS]; exact this

theorem refWrite_any (q k i : Int) (c : ByteArray) (w : World) (hs : c.size ≤ 9223372036854775807) :
    Calls Tryd.prog 31 #[.agg #[.int .i64 q, .int .i64 k, .int .i64 i, .string c]] w fun e w' => e = .returned (.tuple #[str (Jn.write q k i c.data.toList).1, .int .i64 (Jn.write q k i c.data.toList).2]) ∧ Below w.heap.size w w' := by
  have hl : c.data.toList.length = c.size := Array.length_toList
  unfold Jn.write
  by_cases h1 : q < 1
  · rw [if_pos (Or.inl h1)]; exact refWrite_low q k i c h1 w
  by_cases h2 : 1152921504606846976 < q
  · rw [if_pos (Or.inr h2)]; exact refWrite_high q k i c h2 w
  rw [if_neg (by omega)]
  by_cases hk : k = 1 ∨ k = 2
  rotate_left
  · rw [if_pos hk]; exact refWrite_kind q k i c (by omega) (by omega) (fun h => hk (Or.inl h)) (fun h => hk (Or.inr h)) w
  rw [if_neg (not_not_intro hk)]
  by_cases h3 : i < 0
  · rw [if_pos (Or.inl h3)]
    rcases hk with rfl | rfl
    · exact refWrite_idlow1 q i c (by omega) (by omega) h3 w
    · exact refWrite_idlow2 q i c (by omega) (by omega) h3 w
  by_cases h4 : 281474976710656 < i
  · rw [if_pos (Or.inr h4)]
    rcases hk with rfl | rfl
    · exact refWrite_idhigh1 q i c (by omega) (by omega) h4 w
    · exact refWrite_idhigh2 q i c (by omega) (by omega) h4 w
  rw [if_neg (by omega), hl]
  by_cases hb : Jn.codeBad k c.size
  · rw [if_pos hb]
    rcases hb with ⟨rfl, hb⟩ | ⟨rfl, hb⟩
    · exact refWrite_dead q i c (by omega) (by omega) (by omega) (by omega) hb hs w
    · by_cases h0 : c.size = 0
      · exact refWrite_none q i c (by omega) (by omega) (by omega) (by omega) h0 w
      by_cases h8 : c.size < 8
      · exact refWrite_few q i c (by omega) (by omega) (by omega) (by omega) (by omega) h8 w
      by_cases h9 : 128 < c.size
      · exact refWrite_many q i c (by omega) (by omega) (by omega) (by omega) h9 hs w
      · exact refWrite_odd q i c (by omega) (by omega) (by omega) (by omega) (by omega) (by omega) (by omega) w
  · rw [if_neg hb]
    unfold Jn.codeBad at hb
    obtain ⟨q, rfl⟩ : ∃ n : Nat, q = (n : Int) := ⟨q.toNat, by omega⟩
    obtain ⟨i, rfl⟩ : ∃ n : Nat, i = (n : Int) := ⟨i.toNat, by omega⟩
    rw [show ((q : Int)).toNat = q from rfl, show ((i : Int)).toNat = i from rfl]
    rcases hk with rfl | rfl
    · exact refWrite_good1 q i c _ (by omega) (by omega) (by omega) (by omega) (by omega) (by omega) rfl w
    · exact refWrite_good2 q i c _ (by omega) (by omega) (by omega) (by omega) rfl w

/-- .. with the bytes opened. -/
theorem refWrite_tell (q k i : Int) (c S : ByteArray) (l : List UInt8) (x : Nat) (w : World) (hs : c.size ≤ 9223372036854775807) (hW : Jn.write q k i c.data.toList = (l, x)) (hS : str l = .string S) :
    Calls Tryd.prog 31 #[.agg #[.int .i64 q, .int .i64 k, .int .i64 i, .string c]] w fun e w' => e = .returned (.tuple #[.string S, .int .i64 x]) ∧ Below w.heap.size w w' := by
  have := refWrite_any q k i c w hs
  rw [hW] at this
  rw [← hS]; exact this
end Go.Proofs.YtffdplmnjlcmnaaDoor
