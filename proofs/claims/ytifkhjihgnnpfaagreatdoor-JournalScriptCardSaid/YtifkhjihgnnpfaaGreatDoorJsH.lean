/- The law's helper aside: another disk with a journal of two updates. Conditions: each theorem's own hypotheses. -/
import Derived.Test.YtifkhjihgnnpfaaGreatDoorJsE
namespace Go.Proofs.YtifkhjihgnnpfaaGreatDoor
open Go.RowKit
set_option linter.unusedVariables false

def Js.u1 : Jn.Upd := { err := 0, seq := 1, kind := 1, id := 5, code := [49, 50, 51, 52, 53, 54, 55, 56] }
def Js.u2 : Jn.Upd := { err := 0, seq := 2, kind := 2, id := 5, code := [] }
def Js.am (data : List UInt8) (wr : Int) : Dk.M := ⟨[⟨[106, 51], data, 0⟩], 1000, 0, wr, false, 0, false⟩
theorem Js.am_named : Dk.named [106, 51] = true := by decide
theorem Js.am_one (data : List UInt8) (wr : Int) : Jl.One (Js.am data wr) [106, 51] data 0 := ⟨rfl, rfl, Js.am_named⟩
theorem Js.am_create : Dk.create (Dk.fresh 1000) [106, 51] = (Js.am [] 1, 0) := by
  have hc : Dk.code (Dk.fresh 1000) [106, 51] = 42 := by
    unfold Dk.code
    rw [if_neg (by decide), Js.am_named, if_pos rfl]
    rfl
  unfold Dk.create
  rw [hc, if_neg (by decide), if_neg (by decide), if_neg (by decide)]
  rfl
theorem Js.am_append (data s : List UInt8) (wr : Int) (h : data.length + s.length ≤ 1000) : Dk.append (Js.am data wr) [106, 51] s = (Js.am (data ++ s) (IntKind.i64.wrap (wr + 1)), 0) := by
  rw [(Js.am_one data wr).append s (by omega) h]
  rfl
theorem Js.len1 : (Jl.fb Js.u1).length ≤ 60 := by
  have e1 := Jl.putVar_len 1
  have e2 := Jl.putVar_len 5
  show (Sl.frame 1 (Sl.putVar 1 ++ Sl.putVar 5 ++ [49, 50, 51, 52, 53, 54, 55, 56])).length ≤ 60
  rw [Sl.frame_len, List.length_append, List.length_append]
  have : ([49, 50, 51, 52, 53, 54, 55, 56] : List UInt8).length = 8 := rfl
  omega
theorem Js.len2 : (Jl.fb Js.u2).length ≤ 60 := by
  have e1 := Jl.putVar_len 2
  have e2 := Jl.putVar_len 5
  show (Sl.frame 2 (Sl.putVar 2 ++ Sl.putVar 5 ++ [])).length ≤ 60
  rw [Sl.frame_len, List.length_append, List.length_append]
  have : ([] : List UInt8).length = 0 := rfl
  omega
def Js.m3 : Dk.M := Js.am (Jl.fb Js.u1 ++ Jl.fb Js.u2) 3
theorem Js.rows : Jl.Rows 0 64 [Js.u1, Js.u2] := by
  intro j u hj
  match j with
  | 0 =>
    obtain rfl := Option.some.inj hj
    exact ⟨⟨rfl, by decide, by decide, .inl ⟨rfl, rfl⟩⟩, rfl⟩
  | 1 =>
    obtain rfl := Option.some.inj hj
    exact ⟨⟨rfl, by decide, by decide, .inr ⟨rfl, rfl⟩⟩, rfl⟩
  | j + 2 => simp at hj
theorem Jn.name_three : Jn.name 3 = [106, 51] := by
  unfold Jn.name Lib.itoa
  rw [if_neg (by decide), if_neg (by decide), Lib.decDigits, dif_pos (by decide)]
  rfl
theorem Js.look3 : Js.openR Js.m3 3 0 64 = (Js.m3, [Js.u1, Js.u2], 0) := by
  have hl : Jl.lookR Js.m3 3 0 64 = ([Js.u1, Js.u2], (Jl.bytes [Js.u1, Js.u2]).length, 0) := by
    unfold Jl.lookR Js.m3
    have hg : Jn.goesE 3 0 64 = 0 := by decide
    rw [if_pos hg, Jn.name_three, (Js.am_one _ _).code, if_pos rfl, (Js.am_one _ _).data_]
    have hb : Jl.fb Js.u1 ++ Jl.fb Js.u2 = Jl.bytes [Js.u1, Js.u2] := by simp [Jl.bytes]
    rw [hb]
    have := Jl.look_bytes (seq := 0) (w := 64) (by decide) Js.rows
    simp only [Int.toNat]
    rw [this]
  unfold Js.openR
  rw [hl, if_neg (by simp), if_pos]
  rw [Jn.name_three]
  show _ = (Dk.data (Js.am _ _) _).length
  rw [(Js.am_one _ _).data_]
  simp [Jl.bytes]
set_option maxRecDepth 100000 in
set_option maxHeartbeats 8000000 in
theorem Js.aside_any (w : World) :
    Calls Tryz.prog 26 #[] w fun e w' => (∃ d A c, e = .returned (.tuple #[.pointer (some ⟨d, 0, none⟩), .slice A 2 c]) ∧ Jl.Sit w.heap.size w w' d Js.m3 (fun _ => False) ∧ Jl.Own w' w.heap.size (.slice A 2 c) [Js.u1, Js.u2]) ∧ Below w.heap.size w w' := by
  have k1 := Jl.new_sit (B := w.heap.size) (W0 := w) (n := 1000) (by decide) (Below.refl _ w) (Nat.le_refl _)
  have kcr := fun {x : World} {d : Nat} {K : Nat → Prop} (S : Jl.Sit w.heap.size w x d (Dk.fresh 1000) K) => S.call (m' := Js.am [] 1) (by have := Jl.create_good S.good [106, 51]; rwa [Js.am_create] at this) fun F hA hG => (by
    have := Dk.create_any hA hG ⟨#[106, 51]⟩ (by decide)
    rw [show (⟨#[106, 51]⟩ : ByteArray).data.toList = [106, 51] from rfl, Js.am_create] at this
    exact this)
  obtain ⟨S1, hS1, hS1d, hS1s⟩ := str_of (Jl.fb Js.u1)
  obtain ⟨S2, hS2, hS2d, hS2s⟩ := str_of (Jl.fb Js.u2)
  have l1 := Js.len1
  have l2 := Js.len2
  have z1 : S1.size ≤ 60 := by rw [Tx.size, hS1d]; exact l1
  have z2 : S2.size ≤ 60 := by rw [Tx.size, hS2d]; exact l2
  have ka1 := fun {x : World} {d : Nat} {K : Nat → Prop} (S : Jl.Sit w.heap.size w x d (Js.am [] 1) K) => S.call (m' := Js.am (Jl.fb Js.u1) 2) (by have := Dk.append_good S.good [106, 51] (Jl.fb Js.u1); rwa [Js.am_append _ _ _ (by simp; omega)] at this) fun F hA hG => (by
    have := Dk.append_any hA hG ⟨#[106, 51]⟩ S1 (by decide) (by omega)
    rw [show (⟨#[106, 51]⟩ : ByteArray).data.toList = [106, 51] from rfl, hS1d, Js.am_append _ _ _ (by simp; omega)] at this
    exact this)
  have ka2 := fun {x : World} {d : Nat} {K : Nat → Prop} (S : Jl.Sit w.heap.size w x d (Js.am (Jl.fb Js.u1) 2) K) => S.call (m' := Js.m3) (by have := Dk.append_good S.good [106, 51] (Jl.fb Js.u2); rwa [Js.am_append _ _ _ (by omega)] at this) fun F hA hG => (by
    have := Dk.append_any hA hG ⟨#[106, 51]⟩ S2 (by decide) (by omega)
    rw [show (⟨#[106, 51]⟩ : ByteArray).data.toList = [106, 51] from rfl, hS2d, Js.am_append _ _ _ (by omega)] at this
    exact this)
  have kw1 := fun x => refWrite_tell 1 1 5 ⟨#[49, 50, 51, 52, 53, 54, 55, 56]⟩ S1 (Jl.fb Js.u1) 0 x (by decide) (by unfold Jn.write; rw [if_neg (by decide), if_neg (by decide), if_neg (by decide), if_neg (by decide)]; rfl) hS1
  have kw2 := fun x => refWrite_tell 2 2 5 ⟨#[]⟩ S2 (Jl.fb Js.u2) 0 x (by decide) (by unfold Jn.write; rw [if_neg (by decide), if_neg (by decide), if_neg (by decide), if_neg (by decide)]; rfl) hS2
  clear hS1 hS1d hS1s hS2 hS2d hS2s l1 l2 z1 z2
  go_enter Tryz.func26, Tryz.ntmps26
  go_upto_region 3 with (go_at_call 4; refine k1.mono ?_; clear k1; rintro e w1 ⟨d, rfl, T1⟩)
  have hA : Below w1.heap.size w1 (w1.alloc (.cells #[.int .i64 1, .int .i64 1, .int .i64 5, .string ⟨#[49, 50, 51, 52, 53, 54, 55, 56]⟩, .int .i64 2, .int .i64 2, .int .i64 5, .string ⟨#[]⟩] 33)) := (Below.refl _ _).alloc (Nat.le_refl _) _
  have PG : Blk (w1.alloc (.cells #[.int .i64 1, .int .i64 1, .int .i64 5, .string ⟨#[49, 50, 51, 52, 53, 54, 55, 56]⟩, .int .i64 2, .int .i64 2, .int .i64 5, .string ⟨#[]⟩] 33)) w1.heap.size 33 #[.int .i64 1, .int .i64 1, .int .i64 5, .string ⟨#[49, 50, 51, 52, 53, 54, 55, 56]⟩, .int .i64 2, .int .i64 2, .int .i64 5, .string ⟨#[]⟩] := Blk.new _ _ _
  have hzA : (w1.alloc (.cells #[.int .i64 1, .int .i64 1, .int .i64 5, .string ⟨#[49, 50, 51, 52, 53, 54, 55, 56]⟩, .int .i64 2, .int .i64 2, .int .i64 5, .string ⟨#[]⟩] 33)).heap.size = w1.heap.size + 1 := by simp
  have T2 := (T1.grow hA).sub (K' := fun k => k = w1.heap.size) fun k hk => .inr ⟨by omega, by omega⟩
  have hz1 := T1.size
  generalize w1.alloc (.cells #[.int .i64 1, .int .i64 1, .int .i64 5, .string ⟨#[49, 50, 51, 52, 53, 54, 55, 56]⟩, .int .i64 2, .int .i64 2, .int .i64 5, .string ⟨#[]⟩] 33) = x2 at T2 PG ⊢
  clear hA hzA
  generalize w1.heap.size = g at *
  clear T1
  have kc2 := kcr T2
  clear kcr
  go_upto_region 4 with (go_at_call 37; refine kc2.mono ?_; clear kc2; rintro e w3 ⟨rfl, T3, q3⟩)
  have PG3 : Blk w3 g 33 _ := (q3.2 _ rfl).trans PG
  clear T2 PG q3 x2
  go_wp2_with fail
  go_loopw [4] (fun vi wr => ∃ (k : Nat) (mk : Dk.M), k ≤ 2 ∧ vi = .int .i64 (k : Nat) ∧ (k = 0 ∧ mk = Js.am [] 1 ∨ k = 1 ∧ mk = Js.am (Jl.fb Js.u1) 2 ∨ k = 2 ∧ mk = Js.m3) ∧ Jl.Sit w.heap.size w wr d mk (fun k => k = g) ∧ Blk wr g 33 #[.int .i64 1, .int .i64 1, .int .i64 5, .string ⟨#[49, 50, 51, 52, 53, 54, 55, 56]⟩, .int .i64 2, .int .i64 2, .int .i64 5, .string ⟨#[]⟩]) (fun vi _ => 2 - (intOf vi).toNat)
  case atStart => exact ⟨0, _, by decide, rfl, .inl ⟨rfl, rfl⟩, T3, PG3⟩
  case round =>
    clear T3 PG3
    obtain ⟨k, mk, hk, rfl, hmk, T, P⟩ := hrel
    rcases hmk with ⟨rfl, rfl⟩ | ⟨rfl, rfl⟩ | ⟨rfl, rfl⟩
    · obtain ⟨x0, x1, x2, x3⟩ : wr.cell? ⟨g, 0, none⟩ = some (.int .i64 1) ∧ wr.cell? ⟨g, 1, none⟩ = some (.int .i64 1) ∧ wr.cell? ⟨g, 2, none⟩ = some (.int .i64 5) ∧ wr.cell? ⟨g, 3, none⟩ = some (.string ⟨#[49, 50, 51, 52, 53, 54, 55, 56]⟩) := ⟨P.cell 0, P.cell 1, P.cell 2, P.cell 3⟩
      clear kw2 ka2
      go_wp2_with (first
        | (go_at_call 53; refine (kw1 _).mono ?_; clear kw1; rintro e w4 ⟨rfl, b4⟩; have T4 := T.later b4; have P4 : Blk w4 g 33 _ := (b4.block _ P.lt).trans P; have kc := ka1 T4; clear ka1)
        | (go_at_call 39; refine kc.mono ?_; clear kc; rintro e w5 ⟨rfl, T5, q5⟩; have P5 : Blk w5 g 33 _ := (q5.2 _ rfl).trans P4))
      go_roundw
      case rel => exact ⟨1, _, by decide, by go_num, .inr (.inl ⟨rfl, rfl⟩), T5, P5⟩
      case measure => simp [intOf]
    · obtain ⟨x0, x1, x2, x3⟩ : wr.cell? ⟨g, 4, none⟩ = some (.int .i64 2) ∧ wr.cell? ⟨g, 5, none⟩ = some (.int .i64 2) ∧ wr.cell? ⟨g, 6, none⟩ = some (.int .i64 5) ∧ wr.cell? ⟨g, 7, none⟩ = some (.string ⟨#[]⟩) := ⟨P.cell 4, P.cell 5, P.cell 6, P.cell 7⟩
      clear kw1 ka1
      go_wp2_with (first
        | (go_at_call 53; refine (kw2 _).mono ?_; clear kw2; rintro e w4 ⟨rfl, b4⟩; have T4 := T.later b4; have P4 : Blk w4 g 33 _ := (b4.block _ P.lt).trans P; have kc := ka2 T4; clear ka2)
        | (go_at_call 39; refine kc.mono ?_; clear kc; rintro e w5 ⟨rfl, T5, q5⟩; have P5 : Blk w5 g 33 _ := (q5.2 _ rfl).trans P4))
      go_roundw
      case rel => exact ⟨2, _, by decide, by go_num, .inr (.inr ⟨rfl, rfl⟩), T5, P5⟩
      case measure => simp [intOf]
    · go_wp2_with fail
      refine bodyPost_ret (v := .tuple #[.pointer (some ⟨d, 0, none⟩), .slice (some ⟨g, 0, none⟩) 2 2]) (by simp [results, Tryz.results26, go_sem]) rfl ?_
      refine ⟨⟨d, _, _, rfl, T.sub fun k hk => hk.elim, ?_⟩, T.below⟩
      exact ⟨rfl, .inr ⟨g, 2, _, rfl, (T.lt rfl).1, P, by decide, by decide, rfl, rfl⟩⟩
end Go.Proofs.YtifkhjihgnnpfaaGreatDoor
