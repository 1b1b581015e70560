/- A disk with one file; the updates that come in; the law's helper goes. Conditions: each theorem's own hypotheses. -/
import Derived.Test.YtifkhjihgnnpfaaGreatDoorJlE
import Derived.Test.YtifkhjihgnnpfaaGreatDoorJlG
import Derived.Test.YtifkhjihgnnpfaaGreatDoorJnW
import Derived.Test.YtifkhjihgnnpfaaGreatDoorZDkW
import Derived.Test.YtifkhjihgnnpfaaGreatDoorZDkO
namespace Go.Proofs.YtifkhjihgnnpfaaGreatDoor
open Go.RowKit
set_option linter.unusedVariables false

/-- A disk with this one file, its power on. -/
structure Jl.One (m : Dk.M) (nm data : List UInt8) (sure : Nat) : Prop where
  files : m.files = [⟨nm, data, sure⟩]
  off : m.off = false
  named : Dk.named nm = true
section
variable {m : Dk.M} {nm data : List UInt8} {sure : Nat}
theorem Jl.One.get (h : Jl.One m nm data sure) : Dk.get Dk.F.name nm m.files = some ⟨nm, data, sure⟩ := by
  rw [h.files]
  unfold Dk.get
  rw [List.find?_cons_of_pos (by simp)]
theorem Jl.One.code (h : Jl.One m nm data sure) : Dk.code m nm = 0 := by
  unfold Dk.code
  rw [h.off, if_neg (by decide), h.named, if_pos rfl, h.get]
  rfl
theorem Jl.One.data_ (h : Jl.One m nm data sure) : Dk.data m nm = data := by
  unfold Dk.data
  rw [h.get]; rfl
theorem Jl.One.file (h : Jl.One m nm data sure) : Dk.file m nm = ⟨nm, data, sure⟩ := by
  unfold Dk.file
  rw [h.get]; rfl
theorem Jl.One.upd (h : Jl.One m nm data sure) (f : Dk.F) : Dk.upd nm f m.files = [f] := by
  rw [h.files]
  unfold Dk.upd
  rw [List.map_singleton, if_pos rfl]
theorem Jl.One.used (h : Jl.One m nm data sure) : Dk.used m.files = data.length := by
  rw [h.files]
  unfold Dk.used
  simp
theorem Jl.One.append (h : Jl.One m nm data sure) (s : List UInt8) (h1 : data.length + s.length ≤ 268435456) (h2 : data.length + s.length ≤ m.cap) : Dk.append m nm s = Dk.acc m true [⟨nm, data ++ s, sure⟩] := by
  unfold Dk.append
  rw [if_neg (not_not_intro h.code), h.file, if_neg (by show ¬ (268435456 - data.length < s.length); omega), h.used, if_neg (by omega), h.upd]
  rfl
theorem Jl.One.sync (h : Jl.One m nm data sure) : Dk.sync m nm = Dk.acc m false [⟨nm, data, data.length⟩] := by
  unfold Dk.sync
  rw [if_neg (not_not_intro h.code), h.file, h.upd]
  rfl
theorem Jl.One.cut (h : Jl.One m nm data sure) (n : Nat) (hn : n ≤ data.length) : Dk.cut m nm n = Dk.acc m m.done [⟨nm, data.take n, min sure n⟩] := by
  unfold Dk.cut
  rw [if_neg (not_not_intro h.code), h.file, if_neg (by show ¬ ((n : Int) < 0 ∨ (data.length : Int) < n); omega), h.upd]
  rfl
end
/-- The disk of the law, its file holding these bytes. -/
def Jl.dm (nm data : List UInt8) (wr : Int) : Dk.M := ⟨[⟨nm, data, 0⟩], 16777216, 0, wr, false, 0, false⟩
theorem Jl.dm_one (nm data : List UInt8) (wr : Int) (hn : Dk.named nm = true) : Jl.One (Jl.dm nm data wr) nm data 0 := ⟨rfl, rfl, hn⟩
theorem Jl.dm_create (nm : List UInt8) (hn : Dk.named nm = true) : Dk.create (Dk.fresh 16777216) nm = (Jl.dm nm [] 1, 0) := by
  have hc : Dk.code (Dk.fresh 16777216) nm = 42 := by
    unfold Dk.code
    rw [if_neg (by decide), hn, if_pos rfl]
    rfl
  unfold Dk.create
  rw [hc, if_neg (by decide), if_neg (by decide), if_neg (by decide)]
  rfl
theorem Jl.dm_append (nm data s : List UInt8) (wr : Int) (hn : Dk.named nm = true) (h : data.length + s.length ≤ 16777216) : Dk.append (Jl.dm nm data wr) nm s = (Jl.dm nm (data ++ s) (IntKind.i64.wrap (wr + 1)), 0) := by
  rw [(Jl.dm_one nm data wr hn).append s (by omega) h]
  rfl
theorem Jl.dm_cut (nm data : List UInt8) (wr : Int) (n : Nat) (hn : Dk.named nm = true) (h : n ≤ data.length) : Dk.cut (Jl.dm nm data wr) nm n = (Jl.dm nm (data.take n) (IntKind.i64.wrap (wr + 1)), 0) := by
  rw [(Jl.dm_one nm data wr hn).cut n h]
  unfold Dk.acc
  rw [if_pos (show (Jl.dm nm data wr).left = 0 from rfl), Nat.zero_min]
  rfl
theorem Jl.lookR_dm (nm data : List UInt8) (wr : Int) (n : Int) (sq w : Nat) (hn : Dk.named nm = true) (hm : Jn.name n = nm) (hg : Jn.goesE n sq w = 0) : Jl.lookR (Jl.dm nm data wr) n sq w = match Jn.look data sq w with | some (us, g) => (us, g, 0) | none => ([], 0, 80) := by
  unfold Jl.lookR
  rw [if_pos hg, hm, (Jl.dm_one nm data wr hn).code, if_pos rfl, (Jl.dm_one nm data wr hn).data_]
  rfl
theorem Jn.name_one : Jn.name 1 = [106, 49] := by
  unfold Jn.name Lib.itoa
  rw [if_neg (by decide), if_neg (by decide), Lib.decDigits, dif_pos (by decide)]
  rfl
theorem Jn.name_nine : Jn.name 9 = [106, 57] := by
  unfold Jn.name Lib.itoa
  rw [if_neg (by decide), if_neg (by decide), Lib.decDigits, dif_pos (by decide)]
  rfl
theorem Jn.name_seven : Jn.name 7 = [106, 55] := by
  unfold Jn.name Lib.itoa
  rw [if_neg (by decide), if_neg (by decide), Lib.decDigits, dif_pos (by decide)]
  rfl

/-- An update that comes in. -/
structure Jl.In where
  q : Int
  k : Int
  i : Int
  c : ByteArray
/-- A list of them that came in. -/
def Jl.Ins (W : World) (B : Nat) (A : Option Addr) (l : List Jl.In) : Prop :=
  0 < l.length → ∃ b off, A = some ⟨b, off, none⟩ ∧ b < B ∧ ∀ j r, l[j]? = some r →
    W.cell? ⟨b, off + j * 4, none⟩ = some (.int .i64 r.q) ∧ W.cell? ⟨b, off + j * 4 + 1, none⟩ = some (.int .i64 r.k) ∧ W.cell? ⟨b, off + j * 4 + 2, none⟩ = some (.int .i64 r.i) ∧ W.cell? ⟨b, off + j * 4 + 3, none⟩ = some (.string r.c)
theorem Jl.Ins.at_ {W : World} {B : Nat} {A : Option Addr} {l : List Jl.In} (H : Jl.Ins W B A l) {k : Nat} (hk : k < l.length) : ∃ b off r, A = some ⟨b, off, none⟩ ∧ b < B ∧ l[k]? = some r ∧
    W.cell? ⟨b, off + k * 4, none⟩ = some (.int .i64 r.q) ∧ W.cell? ⟨b, off + k * 4 + 1, none⟩ = some (.int .i64 r.k) ∧ W.cell? ⟨b, off + k * 4 + 2, none⟩ = some (.int .i64 r.i) ∧ W.cell? ⟨b, off + k * 4 + 3, none⟩ = some (.string r.c) := by
  obtain ⟨b, off, hA, hb, hc⟩ := H (by omega)
  obtain ⟨h0, h1, h2, h3⟩ := hc k l[k] (List.getElem?_eq_getElem hk)
  exact ⟨b, off, l[k], hA, hb, List.getElem?_eq_getElem hk, h0, h1, h2, h3⟩
theorem Jl.Ins.below {W W' : World} {B : Nat} {A : Option Addr} {l : List Jl.In} (H : Jl.Ins W B A l) (h : Below B W W') : Jl.Ins W' B A l := by
  intro h0
  obtain ⟨b, off, hA, hb, hc⟩ := H h0
  refine ⟨b, off, hA, hb, fun j r hj => ?_⟩
  obtain ⟨h0, h1, h2, h3⟩ := hc j r hj
  exact ⟨(h.cell (p := ⟨b, _, none⟩) hb).trans h0, (h.cell (p := ⟨b, _, none⟩) hb).trans h1, (h.cell (p := ⟨b, _, none⟩) hb).trans h2, (h.cell (p := ⟨b, _, none⟩) hb).trans h3⟩
/-- The update that the law makes of it. -/
def Jl.gu (x : Jl.In) (sq : Nat) : Jn.Upd :=
  if x.k % 2 = 1 then ⟨sq, 2, (x.i % 281474976710657).toNat, [], 0⟩ else ⟨sq, 1, (x.i % 281474976710657).toNat, (x.c.data.toList ++ [0, 0, 0, 0, 0, 0, 0, 0]).take 8, 0⟩
theorem Jl.gu_fit (x : Jl.In) (sq : Nat) (h : 1 ≤ sq ∧ sq ≤ 1152921504606846976) : Jl.Fit 64 (Jl.gu x sq) ∧ (Jl.gu x sq).seq = sq := by
  have hi : (x.i % 281474976710657).toNat ≤ 281474976710656 := by
    have := Int.emod_lt_of_pos x.i (show (0 : Int) < 281474976710657 by decide)
    omega
  unfold Jl.gu
  split
  · exact ⟨⟨rfl, h, hi, .inr ⟨rfl, rfl⟩⟩, rfl⟩
  · exact ⟨⟨rfl, h, hi, .inl ⟨rfl, by show (List.take 8 _).length = 8; rw [List.length_take, List.length_append]; simp⟩⟩, rfl⟩
/-- goes: an update as a value. -/
def Jl.uv (u : Jn.Upd) (C : ByteArray) : Value := .agg #[.int .i64 u.seq, .int .i64 u.kind, .int .i64 u.id, .string C]
/-- journal.Write of an update that goes. -/
theorem Jl.write_fit {l : Nat} (hl : l ≤ 1024) (hl8 : l % 64 = 0 ∧ 64 ≤ l) {u : Jn.Upd} (h : Jl.Fit l u) (C S : ByteArray) (hC : str u.code = .string C) (hS : str (Jl.fb u) = .string S) (w : World) (hT : TabS w) :
    Calls Tryz.prog 72 #[Jl.uv u C] w fun e w' => e = .returned (.tuple #[.string S, .int .i64 0]) ∧ Below w.heap.size w w' := by
  have hcl := h.code_len hl
  have hCd : C.data.toList = u.code := by
    obtain ⟨c2, e1, e2, _⟩ := str_of u.code
    rw [e1] at hC
    rw [← Value.string.inj hC]; exact e2
  have hk : u.kind = 1 ∨ u.kind = 2 := by rcases h.code with ⟨a, _⟩ | ⟨a, _⟩ <;> omega
  have hs := h.seq
  have hi := h.id
  refine write_tell u.seq u.kind u.id C S (Jl.fb u) 0 w (by rw [size_data, hCd]; omega) hT ?_ hS
  unfold Jn.write
  rw [hCd, if_neg (by omega), if_neg (not_not_intro (by omega)), if_neg (by omega), if_neg]
  · rfl
  · unfold Jn.codeBad
    rcases h.code with ⟨a, b⟩ | ⟨a, b⟩
    · rw [a, b]
      omega
    · rw [a, b]
      simp
#print axioms Jl.write_fit
end Go.Proofs.YtifkhjihgnnpfaaGreatDoor
/- The law's disk of one file: its calls. Conditions: each theorem's own hypotheses. -/
namespace Go.Proofs.YtifkhjihgnnpfaaGreatDoor
open Go.RowKit
set_option linter.unusedVariables false

section
variable {B d : Nat} {W0 w : World} {K : Nat → Prop} {nm data : List UInt8} {wr : Int} {nb : ByteArray}
theorem Jl.dm_create_any (h : Jl.Sit B W0 w d (Dk.fresh 16777216) K) (hn : nb.data.toList = nm) (hl : nb.size ≤ 1000) (hm : Dk.named nm = true) :
    Calls Tryz.prog 37 #[.pointer (some ⟨d, 0, none⟩), .string nb] w fun e w' => e = .returned (.int .i64 0) ∧ Jl.Sit B W0 w' d (Jl.dm nm [] 1) K ∧ Jl.Kept K w w' := by
  have hc := Jl.dm_create nm hm
  have hG : Dk.Good (Jl.dm nm [] 1) := ⟨List.pairwise_singleton _ _, fun f hf => by
    obtain rfl := List.mem_singleton.1 hf
    exact ⟨hm, Nat.zero_le _, Nat.le_refl _⟩, by show 1 ≤ 4096; decide, by show 16777216 ≤ 1073741824; decide, by show 0 ≤ 16777216; decide, by show 0 ≤ 9223372036854775807; decide⟩
  refine h.call hG fun F hA hG => ?_
  have := Dk.create_any hA hG nb (Nat.le_trans hl (by decide))
  rw [hn, hc] at this
  exact this
theorem Jl.dm_append_any (h : Jl.Sit B W0 w d (Jl.dm nm data wr) K) (hn : nb.data.toList = nm) (hl : nb.size ≤ 1000) (hm : Dk.named nm = true) {S : ByteArray} {s : List UInt8} (hS : S.data.toList = s) (hb : data.length + s.length ≤ 16777216) :
    Calls Tryz.prog 39 #[.pointer (some ⟨d, 0, none⟩), .string nb, .string S] w fun e w' => e = .returned (.int .i64 0) ∧ Jl.Sit B W0 w' d (Jl.dm nm (data ++ s) (IntKind.i64.wrap (wr + 1))) K ∧ Jl.Kept K w w' := by
  have hc := Jl.dm_append nm data s wr hm hb
  have hG := Dk.append_good h.good nm s
  rw [hc] at hG
  refine h.call hG fun F hA hG => ?_
  have := Dk.append_any hA hG nb S (by omega) (by rw [Tx.size, hS]; omega)
  rw [hn, hS, hc] at this
  exact this
theorem Jl.dm_cut_any (h : Jl.Sit B W0 w d (Jl.dm nm data wr) K) (hn : nb.data.toList = nm) (hl : nb.size ≤ 1000) (hm : Dk.named nm = true) (n : Nat) (hb : n ≤ data.length) (hd : data.length ≤ 16777216) :
    Calls Tryz.prog 35 #[.pointer (some ⟨d, 0, none⟩), .string nb, .int .i64 n] w fun e w' => e = .returned (.int .i64 0) ∧ Jl.Sit B W0 w' d (Jl.dm nm (data.take n) (IntKind.i64.wrap (wr + 1))) K ∧ Jl.Kept K w w' := by
  have hc := Jl.dm_cut nm data wr n hm hb
  have hG := Dk.cut_good h.good nm n
  rw [hc] at hG
  refine h.call hG fun F hA hG => ?_
  have := Dk.cut_any hA hG nb (by omega) n (by omega)
  rw [hn, hc] at this
  exact this
theorem Jl.dm_size_any (h : Jl.Sit B W0 w d (Jl.dm nm data wr) K) (hn : nb.data.toList = nm) (hl : nb.size ≤ 1000) (hm : Dk.named nm = true) {n : Nat} (hd : data.length = n) :
    Calls Tryz.prog 51 #[.pointer (some ⟨d, 0, none⟩), .string nb] w fun e w' => e = .returned (.tuple #[.int .i64 n, .int .i64 0]) ∧ w = w' := by
  refine h.ask fun F hA hG => ?_
  have := Dk.size_any hA nb (by omega)
  unfold Dk.sizeV at this
  rw [hn, (Jl.dm_one nm data wr hm).code, if_pos rfl, (Jl.dm_one nm data wr hm).data_, hd] at this
  exact this
theorem Jl.dm_writes_any (h : Jl.Sit B W0 w d (Jl.dm nm data wr) K) :
    Calls Tryz.prog 15 #[.pointer (some ⟨d, 0, none⟩)] w fun e w' => e = .returned (.int .i64 wr) ∧ w = w' := h.ask fun F hA hG => Dk.writes_any hA
theorem Jl.sit_image {m : Dk.M} (h : Jl.Sit B W0 w d m K) {ib : ByteArray} (hib : ib.data.toList = Dk.image m) :
    Calls Tryz.prog 19 #[.pointer (some ⟨d, 0, none⟩)] w fun e w' => e = .returned (.string ib) ∧ Below w.heap.size w w' := by
  rw [← Tx.v_eq hib]
  exact h.ask fun F hA hG => Dk.image_any hA hG
end
theorem Jl.putVar_tell (v : Nat) (hv : v < 18446744073709551616) (S : ByteArray) (hS : str (Sl.putVar v) = .string S) (w : World) :
    Calls Tryz.prog 97 #[.int .u64 v] w fun e w' => e = .returned (.string S) ∧ Below w.heap.size w w' := by
  rw [← hS]
  exact putVar_any v w hv
theorem Jl.frame_tell (k : Nat) (hk : 1 ≤ k ∧ k ≤ 255) (s : ByteArray) (hs : s.size ≤ 65536) (S : ByteArray) (hS : str (Sl.frame k s.data.toList) = .string S) (w : World) (hT : TabS w) :
    Calls Tryz.prog 96 #[.int .i64 k, .string s] w fun e w' => e = .returned (.tuple #[.string S, .int .i64 0]) ∧ Below w.heap.size w w' := by
  have := frame_any k s w hT
  have hl : s.data.toList.length = s.size := Array.length_toList
  unfold frameV at this
  rw [if_neg (by omega), if_neg (by omega), Int.toNat_natCast, hS] at this
  exact this
/-- A row has grown by one. -/
theorem Jl.Sit.grown {B d g : Nat} {W0 w w' : World} {m : Dk.M} {K : Nat → Prop} {v : Value} {o : Obj} (h : Jl.Sit B W0 w d m K) (hv : ∀ k, v.ownBlock = some k → K k) (hg : (w.alloc o).grownBy w' v.ownBlock) (ho : v.ownBlock = some g ∨ g = w.heap.size + 1) (hlt : g < w'.heap.size) :
    Jl.Sit B W0 w' d m (fun k => K k ∨ k = g) := by
  have hO : Dk.Only (fun k => v.ownBlock = some k) w w' := ((Dk.Only.refl (fun k => v.ownBlock = some k) w).alloc o).grown hg fun k e => .inl e
  refine (h.only hO hv).sub fun k hk => ?_
  rcases hk with hk | rfl
  · exact .inl hk
  · rcases ho with e | e
    · exact .inl (hv _ e)
    · exact .inr ⟨by omega, hlt⟩
end Go.Proofs.YtifkhjihgnnpfaaGreatDoor
