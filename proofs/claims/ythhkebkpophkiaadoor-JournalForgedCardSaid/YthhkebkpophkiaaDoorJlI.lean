/- The law's disk of one file: its calls. Conditions: each theorem's own hypotheses. -/
import Derived.Test.YthhkebkpophkiaaDoorJlH
import Derived.Test.YthhkebkpophkiaaDoorDkM
namespace Go.Proofs.YthhkebkpophkiaaDoor
open Go.RowKit
set_option linter.unusedVariables false

section
variable {B d : Nat} {W0 w : World} {K : Nat → Prop} {nm data : List UInt8} {wr : Int} {nb : ByteArray}
theorem Jl.dm_create_any (h : Jl.Sit B W0 w d (Dk.fresh 16777216) K) (hn : nb.data.toList = nm) (hl : nb.size ≤ 1000) (hm : Dk.named nm = true) :
    Calls Tryd.prog 8 #[.pointer (some ⟨d, 0, none⟩), .string nb] w fun e w' => e = .returned (.int .i64 0) ∧ Jl.Sit B W0 w' d (Jl.dm nm [] 1) K ∧ Jl.Kept K w w' := by
  have hc := Jl.dm_create nm hm
  have hG : Dk.Good (Jl.dm nm [] 1) := ⟨List.pairwise_singleton _ _, fun f hf => by
    obtain rfl := List.mem_singleton.1 hf
    exact ⟨hm, Nat.zero_le _, Nat.le_refl _⟩, by show 1 ≤ 4096; decide, by show 16777216 ≤ 1073741824; decide, by show 0 ≤ 16777216; decide, by show 0 ≤ 9223372036854775807; decide⟩
  refine h.call hG fun F hA hG => ?_
  have := Dk.create_any hA hG nb (Nat.le_trans hl (by decide))
  rw [hn, hc] at this
  exact this
theorem Jl.dm_append_any (h : Jl.Sit B W0 w d (Jl.dm nm data wr) K) (hn : nb.data.toList = nm) (hl : nb.size ≤ 1000) (hm : Dk.named nm = true) {S : ByteArray} {s : List UInt8} (hS : S.data.toList = s) (hb : data.length + s.length ≤ 16777216) :
    Calls Tryd.prog 9 #[.pointer (some ⟨d, 0, none⟩), .string nb, .string S] w fun e w' => e = .returned (.int .i64 0) ∧ Jl.Sit B W0 w' d (Jl.dm nm (data ++ s) (IntKind.i64.wrap (wr + 1))) K ∧ Jl.Kept K w w' := by
  have hc := Jl.dm_append nm data s wr hm hb
  have hG := Dk.append_good h.good nm s
  rw [hc] at hG
  refine h.call hG fun F hA hG => ?_
  have := Dk.append_any hA hG nb S (by omega) (by rw [Tx.size, hS]; omega)
  rw [hn, hS, hc] at this
  exact this
theorem Jl.dm_cut_any (h : Jl.Sit B W0 w d (Jl.dm nm data wr) K) (hn : nb.data.toList = nm) (hl : nb.size ≤ 1000) (hm : Dk.named nm = true) (n : Nat) (hb : n ≤ data.length) (hd : data.length ≤ 16777216) :
    Calls Tryd.prog 25 #[.pointer (some ⟨d, 0, none⟩), .string nb, .int .i64 n] w fun e w' => e = .returned (.int .i64 0) ∧ Jl.Sit B W0 w' d (Jl.dm nm (data.take n) (IntKind.i64.wrap (wr + 1))) K ∧ Jl.Kept K w w' := by
  have hc := Jl.dm_cut nm data wr n hm hb
  have hG := Dk.cut_good h.good nm n
  rw [hc] at hG
  refine h.call hG fun F hA hG => ?_
  have := Dk.cut_any hA hG nb (by omega) n (by omega)
  rw [hn, hc] at this
  exact this
theorem Jl.dm_size_any (h : Jl.Sit B W0 w d (Jl.dm nm data wr) K) (hn : nb.data.toList = nm) (hl : nb.size ≤ 1000) (hm : Dk.named nm = true) {n : Nat} (hd : data.length = n) :
    Calls Tryd.prog 20 #[.pointer (some ⟨d, 0, none⟩), .string nb] w fun e w' => e = .returned (.tuple #[.int .i64 n, .int .i64 0]) ∧ w = w' := by
  refine h.ask fun F hA hG => ?_
  have := Dk.size_any hA nb (by omega)
  unfold Dk.sizeV at this
  rw [hn, (Jl.dm_one nm data wr hm).code, if_pos rfl, (Jl.dm_one nm data wr hm).data_, hd] at this
  exact this
theorem Jl.dm_writes_any (h : Jl.Sit B W0 w d (Jl.dm nm data wr) K) :
    Calls Tryd.prog 12 #[.pointer (some ⟨d, 0, none⟩)] w fun e w' => e = .returned (.int .i64 wr) ∧ w = w' := h.ask fun F hA hG => Dk.writes_any hA
theorem Jl.sit_image {m : Dk.M} (h : Jl.Sit B W0 w d m K) {ib : ByteArray} (hib : ib.data.toList = Dk.image m) :
    Calls Tryd.prog 23 #[.pointer (some ⟨d, 0, none⟩)] w fun e w' => e = .returned (.string ib) ∧ Below w.heap.size w w' := by
  rw [← Tx.v_eq hib]
  exact h.ask fun F hA hG => Dk.image_any hA hG
end
theorem Jl.putVar_tell (v : Nat) (hv : v < 18446744073709551616) (S : ByteArray) (hS : str (Sl.putVar v) = .string S) (w : World) :
    Calls Tryd.prog 21 #[.int .u64 v] w fun e w' => e = .returned (.string S) ∧ Below w.heap.size w w' := by
  rw [← hS]
  exact putVar_any v w hv
theorem Jl.frame_tell (k : Nat) (hk : 1 ≤ k ∧ k ≤ 255) (s : ByteArray) (hs : s.size ≤ 65536) (S : ByteArray) (hS : str (Sl.frame k s.data.toList) = .string S) (w : World) (hT : TabS w) :
    Calls Tryd.prog 22 #[.int .i64 k, .string s] w fun e w' => e = .returned (.tuple #[.string S, .int .i64 0]) ∧ Below w.heap.size w w' := by
  have := frame_any k s w hT
  have hl : s.data.toList.length = s.size := Array.length_toList
  unfold frameV at this
  rw [if_neg (by omega), if_neg (by omega), Int.toNat_natCast, hS] at this
  exact this
/-- A row has grown by one. -/
theorem Jl.Sit.grown {B d g : Nat} {W0 w w' : World} {m : Dk.M} {K : Nat → Prop} {v : Value} {o : Obj} (h : Jl.Sit B W0 w d m K) (hv : ∀ k, v.ownBlock = some k → K k) (hg : (w.alloc o).grownBy w' v.ownBlock) (ho : v.ownBlock = some g ∨ g = w.heap.size + 1) (hlt : g < w'.heap.size) :
    Jl.Sit B W0 w' d m (fun k => K k ∨ k = g) := by
  have hO : Dk.Only (fun k => v.ownBlock = some k) w w' := ((Dk.Only.refl (fun k => v.ownBlock = some k) w).alloc o).grown hg fun k e => .inl e
  refine (h.only hO hv).sub fun k hk => ?_
  rcases hk with hk | rfl
  · exact .inl hk
  · rcases ho with e | e
    · exact .inl (hv _ e)
    · exact .inr ⟨by omega, hlt⟩
end Go.Proofs.YthhkebkpophkiaaDoor
