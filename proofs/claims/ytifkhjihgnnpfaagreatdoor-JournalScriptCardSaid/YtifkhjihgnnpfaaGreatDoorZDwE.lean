/- Scripts of steps on a disk: plain; done and play. Conditions: each theorem's own hypotheses. -/
import Derived.Test.YtifkhjihgnnpfaaGreatDoorZDwB
import Derived.Test.YtifkhjihgnnpfaaGreatDoorDkDD
namespace Go.Proofs.YtifkhjihgnnpfaaGreatDoor
open Go.RowKit Go.Maps Go.Sort
set_option linter.unusedVariables false

/-- A step. -/
structure Dw.S where
  what : Int
  name : List UInt8
  to_ : List UInt8
  data : List UInt8
  at_ : Int
  n : Int
  done : Bool
  cv : Value
  cuts : List Dk.Cut
structure Dw.Fit (W : World) (s : Dw.S) : Prop where
  name : s.name.length ≤ 140737488355328
  to_ : s.to_.length ≤ 140737488355328
  data : s.data.length ≤ 140737488355328
  at_ : -9223372036854775808 ≤ s.at_ ∧ s.at_ < 9223372036854775808
  n : -9223372036854775808 ≤ s.n ∧ s.n < 9223372036854775808
  cuts : Dk.Cts W s.cv s.cuts
  many : s.cuts.length ≤ 4398046511104
  names : ∀ c ∈ s.cuts, c.name.length ≤ 140737488355328
theorem Dw.Fit.keep {W W' : World} {s : Dw.S} (h : Dw.Fit W s) (hs : W.heap.size ≤ W'.heap.size) (hk : ∀ k, k < W.heap.size → W'.heap[k]? = W.heap[k]?) : Dw.Fit W' s :=
  ⟨h.name, h.to_, h.data, h.at_, h.n, h.cuts.keep hs hk, h.many, h.names⟩
def Dw.cells (s : Dw.S) : Array Value := #[.int .i64 s.what, Tx.v s.name, Tx.v s.to_, Tx.v s.data, .int .i64 s.at_, .int .i64 s.n, .bool s.done, s.cv]
/-- A step that writes. -/
def Dw.done (m : Dk.M) (s : Dw.S) : Dk.M × Int :=
  if s.what = 1 then Dk.create m s.name
  else if s.what = 2 then Dk.append m s.name s.data
  else if s.what = 3 then Dk.sync m s.name
  else if s.what = 4 then Dk.cut m s.name s.n
  else if s.what = 5 then Dk.rename m s.name s.to_
  else Dk.delete m s.name
def Dw.readE (m : Dk.M) (nm : List UInt8) (i n : Int) : Int :=
  if Dk.code m nm = 0 then
    if i < 0 ∨ n < 0 ∨ (Dk.data m nm).length < n ∨ (Dk.data m nm).length - n < i then 13 else 0
  else Dk.code m nm
def Dw.readT (m : Dk.M) (nm : List UInt8) (i n : Int) : List UInt8 :=
  if Dk.code m nm = 0 then
    if i < 0 ∨ n < 0 ∨ (Dk.data m nm).length < n ∨ (Dk.data m nm).length - n < i then [] else ((Dk.data m nm).drop i.toNat).take n.toNat
  else []
theorem Dw.read_eq (m : Dk.M) (nm : List UInt8) (i n : Int) : Dk.readV m nm i n = .tuple #[Tx.v (Dw.readT m nm i n), .int .i64 (Dw.readE m nm i n)] := by
  unfold Dk.readV Dw.readT Dw.readE
  split
  · split <;> rfl
  · rfl
/-- Any step. -/
def Dw.play (m : Dk.M) (s : Dw.S) : Dk.M × Int :=
  if s.what = 7 then (m, Dw.readE m s.name s.at_ s.n)
  else if s.what = 8 then (Dk.arm m s.n s.done, 0)
  else if s.what = 9 then (Dk.crash m s.cuts, 0)
  else if s.what = 1 ∨ s.what = 2 ∨ s.what = 3 ∨ s.what = 4 ∨ s.what = 5 ∨ s.what = 6 then Dw.done m s
  else (m, 0)
theorem Dk.create_good {m : Dk.M} (hG : Dk.Good m) (nm : List UInt8) : Dk.Good (Dk.create m nm).1 := by
  unfold Dk.create
  split
  · exact hG
  split
  · exact hG
  rename_i h1 h2
  obtain ⟨q1, q2, q3⟩ := Dk.code_none (Decidable.not_not.1 h2)
  split
  · exact hG
  · refine Dk.acc_good hG _ _ (Dk.up_ins Dk.F.name _ hG.up fun y hy => Dk.get_none q2 y hy) (fun f hf => ?_) (by rw [Dk.len_ins]; omega) (by rw [Dk.used_ins]; show 0 + _ ≤ _; have := hG.used; omega)
    rcases (Dk.mem_ins Dk.F.name).1 hf with rfl | hf
    · exact ⟨q1, Nat.zero_le _, Nat.le_refl _⟩
    · exact hG.file f hf
theorem Dw.done_good {m : Dk.M} (hG : Dk.Good m) (s : Dw.S) : Dk.Good (Dw.done m s).1 := by
  unfold Dw.done
  split
  · exact Dk.create_good hG _
  split
  · exact Dk.append_good hG _ _
  split
  · exact Dk.sync_good hG _
  split
  · exact Dk.cut_good hG _ _
  split
  · exact Dk.rename_good hG _ _
  · exact Dk.delete_good hG _
theorem Dw.play_good {m : Dk.M} (hG : Dk.Good m) (s : Dw.S) (hn : s.n < 9223372036854775808) : Dk.Good (Dw.play m s).1 := by
  unfold Dw.play
  split
  · exact hG
  split
  · exact Dk.arm_good hG _ hn _
  split
  · exact Dk.crash_good hG _
  split
  · exact Dw.done_good hG s
  · exact hG
end Go.Proofs.YtifkhjihgnnpfaaGreatDoor
/- Scripts of steps on a disk: play. Conditions: each theorem's own hypotheses. -/
namespace Go.Proofs.YtifkhjihgnnpfaaGreatDoor
open Go.RowKit Go.Maps Go.Sort
set_option linter.unusedVariables false

theorem Dk.Moved.of {W W' : World} {d : Nat} {F : Nat → Prop} {m' : Dk.M} (hA : Dk.At W' d m' F) (ho : Dk.Only F W W') : Dk.Moved W W' d F m' := ⟨F, hA, ho, fun k hk => .inl hk⟩
end Go.Proofs.YtifkhjihgnnpfaaGreatDoor
/- A disk of one's own; what is asked first: begun. Conditions: each theorem's own hypotheses. -/
namespace Go.Proofs.YtifkhjihgnnpfaaGreatDoor
open Go.RowKit Go.Maps Go.Sort
set_option linter.unusedVariables false

/-- A disk that was made since. -/
def Dw.On (B : Nat) (W0 W : World) (d : Nat) (m : Dk.M) : Prop := ∃ F, Dk.At W d m F ∧ (∀ k, F k → B ≤ k) ∧ Dk.Good m ∧ Below B W0 W
section
variable {B d : Nat} {W0 W W' : World} {m m' : Dk.M}
theorem Dw.On.good (h : Dw.On B W0 W d m) : Dk.Good m := by obtain ⟨F, h1, h2, h3, h4⟩ := h; exact h3
theorem Dw.On.below (h : Dw.On B W0 W d m) : Below B W0 W := by obtain ⟨F, h1, h2, h3, h4⟩ := h; exact h4
theorem Dw.On.size (h : Dw.On B W0 W d m) : B ≤ W.heap.size := by
  obtain ⟨F, h1, h2, h3, h4⟩ := h
  exact Nat.le_of_lt (Nat.lt_of_le_of_lt (h2 d h1.self) (h1.lt h1.self))
theorem Dw.On.later (h : Dw.On B W0 W d m) (hB : Below W.heap.size W W') : Dw.On B W0 W' d m := by
  have hz := h.size
  obtain ⟨F, h1, h2, h3, h4⟩ := h
  exact ⟨F, h1.later hB (Nat.le_refl _), h2, h3, h4.trans (hB.mono hz)⟩
theorem Dw.On.moved (h : Dw.On B W0 W d m) {F : Nat → Prop} (hA : Dk.At W d m F) (hF : ∀ k, F k → B ≤ k) (hm : Dk.Moved W W' d F m') (hG : Dk.Good m') : Dw.On B W0 W' d m' := by
  have hz := h.size
  obtain ⟨F', h1, h2, h3⟩ := hm
  exact ⟨F', h1, fun k hk => by rcases h3 k hk with e | e; exact hF k e; omega, hG, h.below.trans (h2.below hz hF)⟩
theorem Dw.On.call (h : Dw.On B W0 W d m) {g : FuncId} {args : Array Value} {r : Ending} (hG : Dk.Good m')
    (f : ∀ F, Dk.At W d m F → Dk.Good m → Calls Tryz.prog g args W fun e W' => e = r ∧ Dk.Moved W W' d F m') : Calls Tryz.prog g args W fun e W' => e = r ∧ Dw.On B W0 W' d m' := by
  have h0 := h
  obtain ⟨F, h1, h2, h3, h4⟩ := h
  exact (f F h1 h3).mono fun e W' ⟨he, hm⟩ => ⟨he, h0.moved h1 h2 hm hG⟩
theorem Dw.On.ask (h : Dw.On B W0 W d m) {g : FuncId} {args : Array Value} {r : Ending}
    (f : ∀ F, Dk.At W d m F → Dk.Good m → Calls Tryz.prog g args W fun e W' => e = r ∧ W = W') : Calls Tryz.prog g args W fun e W' => e = r ∧ W = W' := by
  obtain ⟨F, h1, h2, h3, h4⟩ := h
  exact f F h1 h3
end
def Dw.a1 : ByteArray := ⟨#[97]⟩
def Dw.b0 : Dk.M := Dk.fresh 100
def Dw.b1 : Dk.M := (Dk.create Dw.b0 [97]).1
def Dw.b2 : Dk.M := (Dk.append Dw.b1 [97] [97, 98, 99]).1
def Dw.b3 : Dk.M := (Dk.sync Dw.b2 [97]).1
def Dw.b4 : Dk.M := (Dk.append Dw.b3 [97] [100, 101]).1
def Dw.b5 : Dk.M := Dk.crash Dw.b4 [⟨[97], 1, 1⟩]
section
variable {B : Nat} {W0 : World} {d : Nat} {w : World}
theorem Dw.on1 (h : Dw.On B W0 w d Dw.b0) : Calls Tryz.prog 37 #[.pointer (some ⟨d, 0, none⟩), .string ⟨#[97]⟩] w fun e W' => e = .returned (.int .i64 0) ∧ Dw.On B W0 W' d Dw.b1 := by
  refine h.call (Dk.create_good h.good _) fun F hA hG => ?_
  have := Dk.create_any hA hG ⟨#[97]⟩ (by decide)
  rw [show (Dk.create Dw.b0 (⟨#[97]⟩ : ByteArray).data.toList).2 = 0 from by kernel_rfl] at this
  exact this
theorem Dw.on2 (h : Dw.On B W0 w d Dw.b1) : Calls Tryz.prog 39 #[.pointer (some ⟨d, 0, none⟩), .string ⟨#[97]⟩, .string ⟨#[97, 98, 99]⟩] w fun e W' => e = .returned (.int .i64 0) ∧ Dw.On B W0 W' d Dw.b2 := by
  refine h.call (Dk.append_good h.good _ _) fun F hA hG => ?_
  have := Dk.append_any hA hG ⟨#[97]⟩ ⟨#[97, 98, 99]⟩ (by decide) (by decide)
  rw [show (Dk.append Dw.b1 (⟨#[97]⟩ : ByteArray).data.toList (⟨#[97, 98, 99]⟩ : ByteArray).data.toList).2 = 0 from by kernel_rfl] at this
  exact this
theorem Dw.on3 (h : Dw.On B W0 w d Dw.b2) : Calls Tryz.prog 77 #[.pointer (some ⟨d, 0, none⟩), .string ⟨#[97]⟩] w fun e W' => e = .returned (.int .i64 0) ∧ Dw.On B W0 W' d Dw.b3 := by
  refine h.call (Dk.sync_good h.good _) fun F hA hG => ?_
  have := Dk.sync_any hA hG ⟨#[97]⟩ (by decide)
  rw [show (Dk.sync Dw.b2 (⟨#[97]⟩ : ByteArray).data.toList).2 = 0 from by kernel_rfl] at this
  exact this
theorem Dw.on4 (h : Dw.On B W0 w d Dw.b3) : Calls Tryz.prog 39 #[.pointer (some ⟨d, 0, none⟩), .string ⟨#[97]⟩, .string ⟨#[100, 101]⟩] w fun e W' => e = .returned (.int .i64 0) ∧ Dw.On B W0 W' d Dw.b4 := by
  refine h.call (Dk.append_good h.good _ _) fun F hA hG => ?_
  have := Dk.append_any hA hG ⟨#[97]⟩ ⟨#[100, 101]⟩ (by decide) (by decide)
  rw [show (Dk.append Dw.b3 (⟨#[97]⟩ : ByteArray).data.toList (⟨#[100, 101]⟩ : ByteArray).data.toList).2 = 0 from by kernel_rfl] at this
  exact this
/-- A list of one cut that was just made. -/
theorem Dw.cut1 (w : World) (a : ByteArray) (k : Int) (s : UInt8) (t : TypeId) : Dk.Cts (w.alloc (.cells #[.string a, .int .i64 k, .int .u8 s.toNat] t)) (.slice (some ⟨w.heap.size, 0, none⟩) 1 1) [⟨a.data.toList, k, s⟩] := by
  refine .inr ⟨w.heap.size, 0, 1, rfl, by simp, fun i x hi => ?_⟩
  have hb := Blk.new w t #[.string a, .int .i64 k, .int .u8 s.toNat]
  match i with
  | 0 =>
    obtain rfl : _ = x := by simpa using hi
    exact ⟨hb.cell 0, hb.cell 1, hb.cell 2⟩
  | i + 1 => simp at hi
theorem Dw.on5 (h : Dw.On B W0 w d Dw.b4) (t : TypeId) : Calls Tryz.prog 33 #[.pointer (some ⟨d, 0, none⟩), .slice (some ⟨w.heap.size, 0, none⟩) 1 1] (w.alloc (.cells #[.string ⟨#[97]⟩, .int .i64 1, .int .u8 1] t)) fun e W' => e = .returned (.tuple #[]) ∧ Dw.On B W0 W' d Dw.b5 := by
  refine (h.later ((Below.refl _ _).alloc (Nat.le_refl _) _)).call (Dk.crash_good h.good _) fun F hA hG => ?_
  exact Dk.crash_any hA hG (Dw.cut1 w ⟨#[97]⟩ 1 1 t) (by decide) (by decide)
theorem Dw.on6 (h : Dw.On B W0 w d Dw.b5) : Calls Tryz.prog 51 #[.pointer (some ⟨d, 0, none⟩), .string ⟨#[97]⟩] w fun e W' => e = .returned (.tuple #[.int .i64 4, .int .i64 0]) ∧ w = W' := by
  refine h.ask fun F hA hG => ?_
  have := Dk.size_any hA ⟨#[97]⟩ (by decide)
  rw [show Dk.sizeV Dw.b5 (⟨#[97]⟩ : ByteArray).data.toList = .tuple #[.int .i64 4, .int .i64 0] from by kernel_rfl] at this
  exact this
theorem Dw.on7 (h : Dw.On B W0 w d Dw.b5) : Calls Tryz.prog 86 #[.pointer (some ⟨d, 0, none⟩), .string ⟨#[97]⟩, .int .i64 0, .int .i64 4] w fun e W' => e = .returned (.tuple #[.string ⟨#[97, 98, 99, 101]⟩, .int .i64 0]) ∧ w = W' := by
  refine h.ask fun F hA hG => ?_
  have := Dk.read_any hA hG ⟨#[97]⟩ (by decide) 0 4 (by decide) (by decide)
  rw [show Dk.readV Dw.b5 (⟨#[97]⟩ : ByteArray).data.toList 0 4 = .tuple #[.string ⟨#[97, 98, 99, 101]⟩, .int .i64 0] from by kernel_rfl] at this
  exact this
theorem Dw.on8 (h : Dw.On B W0 w d Dw.b5) : Calls Tryz.prog 81 #[.pointer (some ⟨d, 0, none⟩)] w fun e W' => e = .returned (.int .i64 1) ∧ w = W' := by
  refine h.ask fun F hA hG => ?_
  have := Dk.age_any hA
  rw [show Dw.b5.age = 1 from by kernel_rfl] at this
  exact this
end
end Go.Proofs.YtifkhjihgnnpfaaGreatDoor
