/- Contract of bits.number: n bits of a text as a number. Conditions: each theorem's own hypotheses. -/
import Derived.Test.YtlfeibaghfcpaaaDoorBtC
namespace Go.Proofs.YtlfeibaghfcpaaaDoor
open Go.RowKit Go.Shelf
set_option linter.unusedVariables false
attribute [local go_sem] Oper.semAt_some

theorem u64_or_bit (a b : Nat) (ha : a < 9223372036854775808) (hb : b < 2) : bits .or .u64 (2 * a : Nat) (b : Int) = ((2 * a + b : Nat) : Int) := by
  have h := u64_or_nat (2 * a) b (by omega) (by omega)
  have e : 2 * a ||| b = 2 * a + b := by
    have := Nat.shiftLeft_add_eq_or_of_lt (i := 1) (b := b) (by omega) a
    rw [Nat.shiftLeft_eq] at this
    rw [Nat.mul_comm]; exact this.symm
  rw [e] at h
  exact h

set_option maxRecDepth 100000 in
set_option maxHeartbeats 4000000 in
theorem number_any (s : ByteArray) (p n : Nat) (hs : s.size ≤ 140737488355328) (hn : n ≤ 64) (hp : p + n ≤ 8 * s.size) (W : World) :
    Calls Tryd.prog 38 #[.string s, .int .i64 (p : Int), .int .i64 (n : Int)] W fun e W' => e = .returned (.int .u64 (Bt.num s.data.toList p n : Nat)) ∧ Below W.heap.size W W' := by
  refine (callsIn_wide (n := 8)).1 ?_
  refine callsIn_of_wp_marks Tryd.func38 rfl trivial ?_ rfl
  simp only [Tryd.ntmps38, List.size_toArray, List.length_cons, List.length_nil, Nat.reduceAdd, Nat.reduceSub, Array.replicate_succ, Array.replicate_zero, List.push_toArray, List.append_toArray, List.nil_append, List.cons_append]
  gi_wp2_with (refine ⟨trivial, ?_⟩; gi_at_call 50; refine (run_in _ _ _ _ _).mono ?_; rintro e w' ⟨rfl, rfl⟩)
  have bV := (((Boxed.new W 86 (.int .u64 0)).alloc (.cells #[.string s] 9)).alloc (.cells #[.int .i64 (p : Int)] 3)).alloc (.cells #[.int .i64 (n : Int)] 3)
  have bS := ((Boxed.new (W.alloc (.cells #[.int .u64 0] 86)) 9 (.string s)).alloc (.cells #[.int .i64 (p : Int)] 3)).alloc (.cells #[.int .i64 (n : Int)] 3)
  have bF := (Boxed.new ((W.alloc (.cells #[.int .u64 0] 86)).alloc (.cells #[.string s] 9)) 3 (.int .i64 (p : Int))).alloc (.cells #[.int .i64 (n : Int)] 3)
  have bN := Boxed.new (((W.alloc (.cells #[.int .u64 0] 86)).alloc (.cells #[.string s] 9)).alloc (.cells #[.int .i64 (p : Int)] 3)) 3 (.int .i64 (n : Int))
  simp only [World.size_alloc] at bS bF bN
  have hB0 : Below W.heap.size W ((((W.alloc (.cells #[.int .u64 0] 86)).alloc (.cells #[.string s] 9)).alloc (.cells #[.int .i64 (p : Int)] 3)).alloc (.cells #[.int .i64 (n : Int)] 3)) := ((((Below.refl _ W).alloc (Nat.le_refl _) _).alloc (by simp) _).alloc (by simp; omega) _).alloc (by simp; omega) _
  have hsz : ((((W.alloc (.cells #[.int .u64 0] 86)).alloc (.cells #[.string s] 9)).alloc (.cells #[.int .i64 (p : Int)] 3)).alloc (.cells #[.int .i64 (n : Int)] 3)).heap.size = W.heap.size + 4 := by simp
  obtain ⟨W0, hW0⟩ : ∃ W0, ((((W.alloc (.cells #[.int .u64 0] 86)).alloc (.cells #[.string s] 9)).alloc (.cells #[.int .i64 (p : Int)] 3)).alloc (.cells #[.int .i64 (n : Int)] 3)) = W0 := ⟨_, rfl⟩
  rw [hW0] at bV bS bF bN hB0 hsz ⊢
  clear hW0
  refine wpIn_rangeFunc_ownG rfl (by decide) (gf := 63) (lb := #[.pointer (some ⟨W.heap.size + 1 + 1, 0, none⟩), .pointer (some ⟨W.heap.size + 1 + 1 + 1, 0, none⟩), .pointer (some ⟨W.heap.size + 1, 0, none⟩)]) rfl trivial (enters_of Tryd.func63 (by kernel_rfl) rfl)
    (run_stops (8 - 1) (by decide) (W.heap.size + 1 + 1) (W.heap.size + 1 + 1 + 1) (W.heap.size + 1) p n s hs hp W0 bF bN bS) (fun h h' => h.trans h') (fun W' l o o' _ hl ho _ => Bt.Kb.put W' l o o' hl ho) (Below.refl _ _) (fun _ => rfl)
    (fun pre W' => Boxed W' W.heap.size 86 (.int .u64 (Bt.fold pre : Nat)) ∧ Below W.heap.size W W')
    (fun _ _ _ => False)
    (OwnFrom.and (Own.from (boxed_own _ _ (fun pre => Value.int .u64 (Bt.fold pre : Nat))) _) (ownFrom_below (Nat.le_refl _) (by omega)))
    (fun _ _ _ _ _ hs _ _ => hs)
    ⟨bV, hB0⟩
    (fun x => { tmps := #[.string s, .int .i64 (p : Int), .int .i64 (n : Int), undef, undef, undef, .int .u64 0, .pointer (some ⟨W.heap.size, 0, none⟩), .int .i64 (x.val : Int), .string s, .int .i64 (p : Int), .int .i64 (n : Int), .func (.func 63) #[] #[.pointer (some ⟨W.heap.size + 1 + 1, 0, none⟩), .pointer (some ⟨W.heap.size + 1 + 1 + 1, 0, none⟩), .pointer (some ⟨W.heap.size + 1, 0, none⟩)], .int .i64 (x.val : Int), undef, undef, undef, undef, undef, undef], defers := [] })
    ?assign ?body ?done ?stop
  case assign =>
    intro l x W' K hK
    unfold Bt.encB
    gi_wp2
    exact hK
  case body =>
    rintro l pre x W' ⟨hv, hB⟩ hlt
    have hc := hv.cell
    have hf := hv.frozen
    have hfl : Bt.fold pre < 9223372036854775808 := Nat.lt_of_lt_of_le (Bt.fold_lt pre 63 (by omega)) (by decide)
    have hxl := x.isLt
    obtain ⟨a, ha⟩ : ∃ a, Bt.fold pre = a := ⟨_, rfl⟩
    obtain ⟨b, hb⟩ : ∃ b, x.val = b := ⟨_, rfl⟩
    rw [ha] at hc hfl
    rw [hb] at hxl
    have e1 : (a : Int) * 2 = ((2 * a : Nat) : Int) := by omega
    have e2 := u64_or_bit a b hfl hxl
    have HS := Lib.hid (show Bt.fold (pre ++ [x]) = 2 * a + b by rw [Bt.fold_snoc, ha, hb])
    obtain ⟨a2, ha2⟩ : ∃ a2, 2 * a = a2 := ⟨_, rfl⟩
    rw [ha2] at e1 e2
    have ha3 : a2 < 18446744073709551616 := by omega
    have HE := Lib.hid (show (a2 : Int) + (b : Int) = ((Bt.fold (pre ++ [x]) : Nat) : Int) by rw [HS.out, ← ha2]; omega)
    clear ha2
    rw [hb]
    clear hb
    gi_wp2
    refine ⟨(KeepsOthers.setCell _ _ _).from _, ⟨fun h => h.other (by omega) _, fun h => h.other (by omega) _, fun h => h.other (by omega) _⟩, ?_, hB.setCell (p := ⟨W.heap.size, 0, none⟩) (Nat.le_refl _) _⟩
    rw [HE.out]
    exact hv.set _
  case done =>
    rintro D ys W' hD rfl ⟨hv, hB⟩ hK
    have hc := hv.cell
    gi_wp2
    refine ⟨by simp, .inl ⟨_, _, rfl, run_takeDeferred hK, ?_⟩⟩
    exact ⟨_, results_tmp rfl _ _ _, rfl, hB.trans (belowK_b (w := W) (Nat.le_refl _) W' D _ _ (by omega) hK rfl rfl)⟩
  case stop =>
    rintro D c pre W' _ _ h _
    exact h.elim
end Go.Proofs.YtlfeibaghfcpaaaDoor
