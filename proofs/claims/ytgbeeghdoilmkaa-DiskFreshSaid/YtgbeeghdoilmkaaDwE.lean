/- A disk of one's own; what is asked first: begun. Conditions: each theorem's own hypotheses. -/
import Derived.Test.YtgbeeghdoilmkaaDwC
namespace Go.Proofs.Ytgbeeghdoilmkaa
open Go.RowKit Go.Maps Go.Sort
set_option linter.unusedVariables false

/-- A disk that was made since. -/
def Dw.On (B : Nat) (W0 W : World) (d : Nat) (m : Dk.M) : Prop := ∃ F, Dk.At W d m F ∧ (∀ k, F k → B ≤ k) ∧ Dk.Good m ∧ Below B W0 W
section
variable {B d : Nat} {W0 W W' : World} {m m' : Dk.M}
theorem Dw.On.good (h : Dw.On B W0 W d m) : Dk.Good m := by obtain ⟨F, h1, h2, h3, h4⟩ := h; exact h3
theorem Dw.On.below (h : Dw.On B W0 W d m) : Below B W0 W := by obtain ⟨F, h1, h2, h3, h4⟩ := h; exact h4
theorem Dw.On.size (h : Dw.On B W0 W d m) : B ≤ W.heap.size := by
  obtain ⟨F, h1, h2, h3, h4⟩ := h
  exact Nat.le_of_lt (Nat.lt_of_le_of_lt (h2 d h1.self) (h1.lt h1.self))
theorem Dw.On.later (h : Dw.On B W0 W d m) (hB : Below W.heap.size W W') : Dw.On B W0 W' d m := by
  have hz := h.size
  obtain ⟨F, h1, h2, h3, h4⟩ := h
  exact ⟨F, h1.later hB (Nat.le_refl _), h2, h3, h4.trans (hB.mono hz)⟩
theorem Dw.On.moved (h : Dw.On B W0 W d m) {F : Nat → Prop} (hA : Dk.At W d m F) (hF : ∀ k, F k → B ≤ k) (hm : Dk.Moved W W' d F m') (hG : Dk.Good m') : Dw.On B W0 W' d m' := by
  have hz := h.size
  obtain ⟨F', h1, h2, h3⟩ := hm
  exact ⟨F', h1, fun k hk => by rcases h3 k hk with e | e; exact hF k e; omega, hG, h.below.trans (h2.below hz hF)⟩
theorem Dw.On.call (h : Dw.On B W0 W d m) {g : FuncId} {args : Array Value} {r : Ending} (hG : Dk.Good m')
    (f : ∀ F, Dk.At W d m F → Dk.Good m → Calls Try.prog g args W fun e W' => e = r ∧ Dk.Moved W W' d F m') : Calls Try.prog g args W fun e W' => e = r ∧ Dw.On B W0 W' d m' := by
  have h0 := h
  obtain ⟨F, h1, h2, h3, h4⟩ := h
  exact (f F h1 h3).mono fun e W' ⟨he, hm⟩ => ⟨he, h0.moved h1 h2 hm hG⟩
theorem Dw.On.ask (h : Dw.On B W0 W d m) {g : FuncId} {args : Array Value} {r : Ending}
    (f : ∀ F, Dk.At W d m F → Dk.Good m → Calls Try.prog g args W fun e W' => e = r ∧ W = W') : Calls Try.prog g args W fun e W' => e = r ∧ W = W' := by
  obtain ⟨F, h1, h2, h3, h4⟩ := h
  exact f F h1 h3
end
def Dw.a1 : ByteArray := ⟨#[97]⟩
def Dw.b0 : Dk.M := Dk.fresh 100
def Dw.b1 : Dk.M := (Dk.create Dw.b0 [97]).1
def Dw.b2 : Dk.M := (Dk.append Dw.b1 [97] [97, 98, 99]).1
def Dw.b3 : Dk.M := (Dk.sync Dw.b2 [97]).1
def Dw.b4 : Dk.M := (Dk.append Dw.b3 [97] [100, 101]).1
def Dw.b5 : Dk.M := Dk.crash Dw.b4 [⟨[97], 1, 1⟩]
section
variable {B : Nat} {W0 : World} {d : Nat} {w : World}
theorem Dw.on1 (h : Dw.On B W0 w d Dw.b0) : Calls Try.prog 23 #[.pointer (some ⟨d, 0, none⟩), .string ⟨#[97]⟩] w fun e W' => e = .returned (.int .i64 0) ∧ Dw.On B W0 W' d Dw.b1 := by
  refine h.call (Dk.create_good h.good _) fun F hA hG => ?_
  have := Dk.create_any hA hG ⟨#[97]⟩ (by decide)
  rw [show (Dk.create Dw.b0 (⟨#[97]⟩ : ByteArray).data.toList).2 = 0 from by kernel_rfl] at this
  exact this
theorem Dw.on2 (h : Dw.On B W0 w d Dw.b1) : Calls Try.prog 48 #[.pointer (some ⟨d, 0, none⟩), .string ⟨#[97]⟩, .string ⟨#[97, 98, 99]⟩] w fun e W' => e = .returned (.int .i64 0) ∧ Dw.On B W0 W' d Dw.b2 := by
  refine h.call (Dk.append_good h.good _ _) fun F hA hG => ?_
  have := Dk.append_any hA hG ⟨#[97]⟩ ⟨#[97, 98, 99]⟩ (by decide) (by decide)
  rw [show (Dk.append Dw.b1 (⟨#[97]⟩ : ByteArray).data.toList (⟨#[97, 98, 99]⟩ : ByteArray).data.toList).2 = 0 from by kernel_rfl] at this
  exact this
theorem Dw.on3 (h : Dw.On B W0 w d Dw.b2) : Calls Try.prog 49 #[.pointer (some ⟨d, 0, none⟩), .string ⟨#[97]⟩] w fun e W' => e = .returned (.int .i64 0) ∧ Dw.On B W0 W' d Dw.b3 := by
  refine h.call (Dk.sync_good h.good _) fun F hA hG => ?_
  have := Dk.sync_any hA hG ⟨#[97]⟩ (by decide)
  rw [show (Dk.sync Dw.b2 (⟨#[97]⟩ : ByteArray).data.toList).2 = 0 from by kernel_rfl] at this
  exact this
theorem Dw.on4 (h : Dw.On B W0 w d Dw.b3) : Calls Try.prog 48 #[.pointer (some ⟨d, 0, none⟩), .string ⟨#[97]⟩, .string ⟨#[100, 101]⟩] w fun e W' => e = .returned (.int .i64 0) ∧ Dw.On B W0 W' d Dw.b4 := by
  refine h.call (Dk.append_good h.good _ _) fun F hA hG => ?_
  have := Dk.append_any hA hG ⟨#[97]⟩ ⟨#[100, 101]⟩ (by decide) (by decide)
  rw [show (Dk.append Dw.b3 (⟨#[97]⟩ : ByteArray).data.toList (⟨#[100, 101]⟩ : ByteArray).data.toList).2 = 0 from by kernel_rfl] at this
  exact this
/-- A list of one cut that was just made. -/
theorem Dw.cut1 (w : World) (a : ByteArray) (k : Int) (s : UInt8) (t : TypeId) : Dk.Cts (w.alloc (.cells #[.string a, .int .i64 k, .int .u8 s.toNat] t)) (.slice (some ⟨w.heap.size, 0, none⟩) 1 1) [⟨a.data.toList, k, s⟩] := by
  refine .inr ⟨w.heap.size, 0, 1, rfl, by simp, fun i x hi => ?_⟩
  have hb := Blk.new w t #[.string a, .int .i64 k, .int .u8 s.toNat]
  match i with
  | 0 =>
    obtain rfl : _ = x := by simpa using hi
    exact ⟨hb.cell 0, hb.cell 1, hb.cell 2⟩
  | i + 1 => simp at hi
theorem Dw.on5 (h : Dw.On B W0 w d Dw.b4) (t : TypeId) : Calls Try.prog 18 #[.pointer (some ⟨d, 0, none⟩), .slice (some ⟨w.heap.size, 0, none⟩) 1 1] (w.alloc (.cells #[.string ⟨#[97]⟩, .int .i64 1, .int .u8 1] t)) fun e W' => e = .returned (.tuple #[]) ∧ Dw.On B W0 W' d Dw.b5 := by
  refine (h.later ((Below.refl _ _).alloc (Nat.le_refl _) _)).call (Dk.crash_good h.good _) fun F hA hG => ?_
  exact Dk.crash_any hA hG (Dw.cut1 w ⟨#[97]⟩ 1 1 t) (by decide) (by decide)
theorem Dw.on6 (h : Dw.On B W0 w d Dw.b5) : Calls Try.prog 50 #[.pointer (some ⟨d, 0, none⟩), .string ⟨#[97]⟩] w fun e W' => e = .returned (.tuple #[.int .i64 4, .int .i64 0]) ∧ w = W' := by
  refine h.ask fun F hA hG => ?_
  have := Dk.size_any hA ⟨#[97]⟩ (by decide)
  rw [show Dk.sizeV Dw.b5 (⟨#[97]⟩ : ByteArray).data.toList = .tuple #[.int .i64 4, .int .i64 0] from by kernel_rfl] at this
  exact this
theorem Dw.on7 (h : Dw.On B W0 w d Dw.b5) : Calls Try.prog 14 #[.pointer (some ⟨d, 0, none⟩), .string ⟨#[97]⟩, .int .i64 0, .int .i64 4] w fun e W' => e = .returned (.tuple #[.string ⟨#[97, 98, 99, 101]⟩, .int .i64 0]) ∧ w = W' := by
  refine h.ask fun F hA hG => ?_
  have := Dk.read_any hA hG ⟨#[97]⟩ (by decide) 0 4 (by decide) (by decide)
  rw [show Dk.readV Dw.b5 (⟨#[97]⟩ : ByteArray).data.toList 0 4 = .tuple #[.string ⟨#[97, 98, 99, 101]⟩, .int .i64 0] from by kernel_rfl] at this
  exact this
theorem Dw.on8 (h : Dw.On B W0 w d Dw.b5) : Calls Try.prog 29 #[.pointer (some ⟨d, 0, none⟩)] w fun e W' => e = .returned (.int .i64 1) ∧ w = W' := by
  refine h.ask fun F hA hG => ?_
  have := Dk.age_any hA
  rw [show Dw.b5.age = 1 from by kernel_rfl] at this
  exact this
end
set_option maxRecDepth 100000 in
set_option maxHeartbeats 4000000 in
theorem Dw.begun_any (W : World) : Calls Try.prog 15 #[.int .i64 100] W fun e W' => e = .returned (.bool true) ∧ Below W.heap.size W W' := by
  have k1 := Dk.new_any 100 (by decide) W
  rw [show Dk.fresh 100 = Dw.b0 from rfl] at k1
  have g0 : Dk.Good Dw.b0 := Dk.fresh_good 100 (by decide)
  go_enter Try.func15, Try.ntmps15
  go_wp2_with (first
    | (go_at_call 9; refine k1.mono ?_; rintro e w0 ⟨d, F, rfl, q1, q2, q3⟩; have o0 : Dw.On W.heap.size W w0 d Dw.b0 := ⟨F, q1, q3, g0, q2⟩; clear q1 q2 q3)
    | (go_at_call 23; refine (Dw.on1 o0).mono ?_; rintro e w1 ⟨rfl, o1⟩)
    | (go_at_call 48; refine (Dw.on4 o3).mono ?_; rintro e w4 ⟨rfl, o4⟩)
    | (go_at_call 48; refine (Dw.on2 o1).mono ?_; rintro e w2 ⟨rfl, o2⟩)
    | (go_at_call 49; refine (Dw.on3 o2).mono ?_; rintro e w3 ⟨rfl, o3⟩)
    | (go_at_call 18; refine (Dw.on5 o4 _).mono ?_; rintro e w5 ⟨rfl, o5⟩)
    | (go_at_call 50; refine (Dw.on6 o5).mono ?_; rintro e w6 ⟨rfl, rfl⟩)
    | (go_at_call 14; refine (Dw.on7 o5).mono ?_; rintro e w6 ⟨rfl, rfl⟩)
    | (go_at_call 29; refine (Dw.on8 o5).mono ?_; rintro e w6 ⟨rfl, rfl⟩))
  go_ret
  exact ⟨rfl, o5.below⟩
end Go.Proofs.Ytgbeeghdoilmkaa
