/- Reading an update's payload: the plain function on bytes. No conditions but each theorem's own. -/
import Derived.Test.YtifkhjihgnnpfaaGreatDoorPv
namespace Go.Proofs.YtifkhjihgnnpfaaGreatDoor.Jn
open Sl

/-- An update, or a refusal's code. -/
structure Upd where
  seq : Nat
  kind : Nat
  id : Nat
  code : List UInt8
  err : Nat

def no (e : Nat) : Upd := ⟨0, 0, 0, [], e⟩

def pay (kind : Nat) (b : List UInt8) (w : Nat) : Upd :=
  if ¬ (kind = 1 ∨ kind = 2) then no 35
  else if ¬ (var b).code = 0 then no (var b).code
  else if (var b).val < 1 ∨ 1152921504606846976 < (var b).val then no 51
  else if ¬ (var (b.drop (var b).len)).code = 0 then no (var (b.drop (var b).len)).code
  else if 281474976710656 < (var (b.drop (var b).len)).val then no 60
  else if kind = 1 ∧ ¬ b.length - ((var b).len + (var (b.drop (var b).len)).len) = w / 8 ∨ kind = 2 ∧ ¬ b.length - ((var b).len + (var (b.drop (var b).len)).len) = 0 then no 11
  else ⟨(var b).val, kind, (var (b.drop (var b).len)).val, b.drop ((var b).len + (var (b.drop (var b).len)).len), 0⟩

theorem varAt_len : ∀ f i v l R, varAt f i v l = R → (R.code = 0 → i < R.len ∧ R.len ≤ i + l.length) ∧ R.code ≤ 32
  | 0, i, v, l, R, h => by subst h; exact ⟨fun e => absurd (show 30 = 0 from e) (by decide), (by decide : 30 ≤ 32)⟩
  | _ + 1, i, v, [], R, h => by subst h; exact ⟨fun e => absurd (show 31 = 0 from e) (by decide), (by decide : 31 ≤ 32)⟩
  | f + 1, i, v, c :: l, R, h => by
    unfold varAt at h
    split at h
    · subst h; exact ⟨fun e => absurd e (by decide), (by decide : 30 ≤ 32)⟩
    split at h
    · split at h
      · subst h; exact ⟨fun e => absurd e (by decide), (by decide : 32 ≤ 32)⟩
      · subst h; refine ⟨fun _ => ⟨?_, ?_⟩, (by decide : 0 ≤ 32)⟩
        · show i < i + 1; omega
        · show i + 1 ≤ i + (c :: l).length; rw [List.length_cons]; omega
    · have := varAt_len f (i + 1) _ l R h
      refine ⟨fun e => ?_, this.2⟩
      have := this.1 e
      rw [List.length_cons]; omega

theorem var_len (l : List UInt8) (R : Got) (h : var l = R) (hc : R.code = 0) : R.len ≤ l.length := by
  have := (varAt_len 10 0 0 l R h).1 hc; omega
theorem var_code (l : List UInt8) (R : Got) (h : var l = R) : R.code ≤ 32 := (varAt_len 10 0 0 l R h).2

end Go.Proofs.YtifkhjihgnnpfaaGreatDoor.Jn
