/- Contract of the law's set. Conditions: each theorem's own hypotheses. -/
import Derived.Test.YtikhahkmebkccaaGreatDoorBkAE
namespace Go.Proofs.YtikhahkmebkccaaGreatDoor
open Go.RowKit Go.Maps Go.Sort Go.Shelf
set_option linter.unusedVariables false
set_option linter.unusedSimpArgs false

/-- The codes that are there behind a call. -/
def Bk.setC (l : List (List UInt8)) (k : Int) (c : List UInt8) (w : Nat) : List (List UInt8) :=
  if k ≠ 1 ∧ k ≠ 2 then l else (l.filter fun s => decide (s ≠ c)) ++ (if k = 1 ∧ c.length = w / 8 then [c] else [])
theorem Bk.own_later {w w' : World} {B B' : Nat} {e : TypeId} {size n : Nat} {v : Value} {xs : List Value} (h : w.ownsRow B e size v n xs) (hb : Below B' w w') (hB : w.heap.size ≤ B') : w'.ownsRow B e size v n xs :=
  Bk.own_of h fun k hk => hb.block k (Nat.lt_of_lt_of_le (h.lt k hk).2 hB)
/-- Between two rounds of set's loop. -/
def Bk.SR (W : World) (B0 : World) (l : List (List UInt8)) (c : List UInt8) (m : Nat) (vo i : Value) (wr : World) : Prop :=
  ∃ k : Nat, m + k = l.length ∧ i = .int .i64 (k : Nat) ∧ wr.ownsRow (W.heap.size + 1) 9 1 vo ((l.take k).filter fun s => decide (s ≠ c)).length (Bk.ss ((l.take k).filter fun s => decide (s ≠ c))) ∧ Below B0.heap.size B0 wr
end Go.Proofs.YtikhahkmebkccaaGreatDoor
