/- Reading a frame: the plain function on bytes. No conditions but each theorem's own. -/
import Derived.Test.YtffdplmnjlcmnaaDoorPv
namespace Go.Proofs.YtffdplmnjlcmnaaDoor.Sl

/-- What reading a frame gives: a refusal's code, or the kind, the payload, how many bytes the frame has. -/
structure Parsed where
  code : Nat
  kind : Nat
  pay : List UInt8
  len : Nat

def parse (l : List UInt8) : Parsed :=
  if l.length = 0 then ⟨31, 0, [], 0⟩
  else if ¬ (l.getD 0 0).toNat = 167 then ⟨33, 0, [], 0⟩
  else if l.length < 10 then ⟨31, 0, [], 0⟩
  else if ¬ (l.drop 6).take 4 = summed (l.take 6) then ⟨34, 0, [], 0⟩
  else if (l.getD 1 0).toNat = 0 then ⟨35, 0, [], 0⟩
  else if 65536 < beNum ((l.drop 2).take 4) then ⟨36, 0, [], 0⟩
  else if l.length < beNum ((l.drop 2).take 4) + 14 then ⟨31, 0, [], 0⟩
  else if ¬ (l.drop (10 + beNum ((l.drop 2).take 4))).take 4 = summed (l.take 6 ++ (l.drop 10).take (beNum ((l.drop 2).take 4))) then ⟨34, 0, [], 0⟩
  else ⟨0, (l.getD 1 0).toNat, (l.drop 10).take (beNum ((l.drop 2).take 4)), beNum ((l.drop 2).take 4) + 14⟩
end Go.Proofs.YtffdplmnjlcmnaaDoor.Sl
