/- The law's helper again: a list written over where it lies, and stored once more. Conditions: each theorem's own hypotheses. -/
import Derived.Test.YtdhnkcfmjibibaaGreatDoorMtC
namespace Go.Proofs.YtdhnkcfmjibibaaGreatDoor
open Go.RowKit Go.Maps
set_option linter.unusedVariables false

theorem Mt.num_r (e : Int) (w : World) : Calls Tryz.prog 9 #[.int .i64 e] w fun r w' => r = .returned (.int .i64 e) ∧ w = w' := (num_any e w).mono fun e w' ⟨a, b⟩ => ⟨a, b.symm⟩
theorem Mt.store_on {m : Dk.M} (h : m.off = false) (X : Man) : Ms.store m X 0 = Ms.storeD m (Sl.frame 3 (Mf.body X)) := by unfold Ms.store; rw [h, if_neg (by decide), if_pos rfl]
/-- The other manifest's runs, when so many of them have been written over. -/
def Mt.ow : Nat → List Run
  | 0 => [⟨1, 0, 4, 2⟩, ⟨2, 4, 9, 1⟩]
  | 1 => [⟨1, 0, 4, 3⟩, ⟨2, 4, 9, 1⟩]
  | _ => [⟨1, 0, 4, 3⟩, ⟨2, 4, 9, 4⟩]
def Mt.oth2 : Man := ⟨64, 2, 1, 9, 9, 3, [⟨1, 0, 4, 3⟩, ⟨2, 4, 9, 4⟩]⟩
theorem Mt.oth2_check : Mf.check Mt.oth2 = 0 := by
  unfold Mf.check
  rw [if_neg (by decide), if_pos]
  refine ⟨by unfold Mf.Front Mt.oth2; decide, fun j r hj hr => ?_⟩
  match j, hj with
  | 0, _ =>
    obtain rfl := Option.some.inj hr
    refine ⟨by decide, by decide, by decide, ?_, ?_, ?_⟩ <;> simp [Mf.last, Mt.oth2]
  | 1, _ =>
    obtain rfl := Option.some.inj hr
    refine ⟨by decide, by decide, by decide, ?_, ?_, ?_⟩ <;> simp [Mf.last, Mt.oth2]
theorem Mt.oth2_fit : Mf.Fit Mt.oth2 := ⟨by decide, by decide, by decide, by decide⟩
structure Mt.Rw (w : World) (g k : Nat) (cur : Array Value) : Prop where
  blk : Blk w g 42 cur
  at_ : ∀ (j : Nat) (v : Value), (cellsOf (Mt.ow k))[j]? = some v → cur[j]? = some v
theorem Mt.Rw.put {w : World} {g k : Nat} {cur : Array Value} (h : Mt.Rw w g k cur) (hk : k < 2) : Mt.Rw (w.setCell ⟨g, k * 4 + 3, none⟩ (.int .i64 (3 + k : Nat))) g (k + 1) (cur.setIfInBounds (k * 4 + 3) (.int .i64 (3 + k : Nat))) := by
  refine ⟨h.blk.set_ _ _, fun j v hj => ?_⟩
  have hl : j < 8 := by
    have := (List.getElem?_eq_some_iff.1 hj).1
    rw [cellsOf_len] at this
    have h2 : (Mt.ow (k + 1)).length = 2 := by unfold Mt.ow; split <;> rfl
    omega
  have h7 : 7 < cur.size := by
    have h2 : (cellsOf (Mt.ow k))[7]? = some (cellsOf (Mt.ow k))[7]! := by
      match k, hk with
      | 0, _ => rfl
      | 1, _ => rfl
    have := h.at_ 7 _ h2
    exact (Array.getElem?_eq_some_iff.1 this).1
  by_cases e : k * 4 + 3 = j
  · subst e
    rw [Array.getElem?_setIfInBounds_self_of_lt (by omega)]
    match k, hk with
    | 0, _ => exact hj
    | 1, _ => exact hj
  · rw [Array.getElem?_setIfInBounds_ne e]
    refine h.at_ j v ?_
    match k, hk with
    | 0, _ =>
      match j, hl, e with
      | 0, _, _ => exact hj
      | 1, _, _ => exact hj
      | 2, _, _ => exact hj
      | 4, _, _ => exact hj
      | 5, _, _ => exact hj
      | 6, _, _ => exact hj
      | 7, _, _ => exact hj
    | 1, _ =>
      match j, hl, e with
      | 0, _, _ => exact hj
      | 1, _, _ => exact hj
      | 2, _, _ => exact hj
      | 3, _, _ => exact hj
      | 4, _, _ => exact hj
      | 5, _, _ => exact hj
      | 6, _, _ => exact hj
      | 7, _, e => exact absurd rfl e
theorem Mt.Rw.rs {w : World} {g k : Nat} {cur : Array Value} (h : Mt.Rw w g k cur) : Rs w w.heap.size (some ⟨g, 0, none⟩) (Mt.ow k) :=
  Rs.of_cells h.blk.lt fun j u hu => by rw [Nat.zero_add, h.blk.cell]; exact h.at_ j u hu
theorem Mt.Rw.keep {w w' : World} {g k : Nat} {cur : Array Value} (h : Mt.Rw w g k cur) (hb : w'.heap[g]? = w.heap[g]?) : Mt.Rw w' g k cur := ⟨hb.trans h.blk, h.at_⟩
theorem Mt.Rw.of {w : World} {base g cap : Nat} (h : Own w base g cap (Mf.oth.runs ++ [mark])) : ∃ cur, Mt.Rw w g 0 cur ∧ base ≤ g ∧ cur.size = cap * 4 := by
  rcases h.2 with ⟨h0, _⟩ | ⟨g', cap', cur, h0, hb, hg, h1, h2, h3, h4⟩
  · cases h0
  · injection h0 with h0 _ h5
    injection h0 with h0
    injection h0 with e1
    subst e1 h5
    refine ⟨cur, ⟨hg, fun j v hj => ?_⟩, hb, h3⟩
    have hl := (List.getElem?_eq_some_iff.1 hj).1
    rw [cellsOf_len] at hl
    have hl8 : j < 8 := hl
    have e2 : (cellsOf (Mf.oth.runs ++ [mark]))[j]? = some v := by
      rw [cellsOf_append, List.getElem?_append_left (by rw [cellsOf_len]; exact hl)]
      exact hj
    rw [← h4, List.getElem?_take, if_pos (by show j < 3 * 4; omega), Array.getElem?_toList] at e2
    exact e2
set_option maxRecDepth 100000 in
set_option maxHeartbeats 8000000 in
theorem Mt.again_any (W : World) (hT : TabS W) : Calls Tryz.prog 23 #[] W fun e w' => e = .returned (.bool true) ∧ Below W.heap.size W w' := by
  have hTB : ∀ {w : World}, Below W.heap.size W w → TabS w := fun hB => hT.below hB
  have l1 : (Sl.frame 3 (Mf.body Mf.oth)).length ≤ 30000 := by have := Mf.body_len (Mf.good Mf.oth_check); rw [Sl.frame_len]; omega
  have l2 : (Sl.frame 3 (Mf.body Mt.oth2)).length ≤ 30000 := by have := Mf.body_len (Mf.good Mt.oth2_check); rw [Sl.frame_len]; omega
  obtain ⟨m1, e1, o1, f1, k1, s1⟩ := Ms.inv_last (m := Dk.fresh 65536) (cap := 65536) (o := none) (x := none) (c := Sl.frame 3 (Mf.body Mf.oth)) rfl rfl rfl Ms.fr_none rfl (by omega) (by show _ + 0 ≤ 65536; omega)
  obtain ⟨m2, e2, o2, f2, k2, s2⟩ := Ms.inv_last (c := Sl.frame 3 (Mf.body Mt.oth2)) o1 f1 k1 Ms.fr_none s1 (by omega) (by rw [Ms.used_one]; omega)
  have hs1 : Ms.store (Dk.fresh 65536) Mf.oth 0 = (m1, 0) := by rw [Mt.store_on rfl]; exact e1
  have hs2 : Ms.store m1 Mt.oth2 0 = (m2, 0) := by rw [Mt.store_on o1]; exact e2
  have hoth : ∀ w, Calls Tryz.prog 47 #[] w fun e w' => (∃ (S : ByteArray) (A : Option Addr) (cap : Nat), e = .returned (.tuple #[.string S, .agg #[.int .i64 64, .int .i64 2, .int .i64 1, .int .i64 9, .int .i64 9, .int .i64 3, .slice A 2 cap]]) ∧ Rs w' w'.heap.size A Mf.oth.runs) ∧ Below w.heap.size w w' := fun w => by
    refine (other_any w).mono ?_
    rintro e w' ⟨⟨S, A, cap, he, _, _, hr⟩, hb⟩
    exact ⟨⟨S, A, cap, he, hr⟩, hb⟩
  have htw : ∀ (A : Option Addr) (c : Nat) (w : World) (M : Man), (M = Mf.oth ∨ M = Mt.oth2) → Rs w w.heap.size A M.runs → Calls Tryz.prog 6 #[.agg #[.int .i64 64, .int .i64 2, .int .i64 1, .int .i64 9, .int .i64 9, .int .i64 3, .slice A 2 c]] w fun e w' => (∃ g cap, e = .returned (.agg #[.int .i64 64, .int .i64 2, .int .i64 1, .int .i64 9, .int .i64 9, .int .i64 3, .slice (some ⟨g, 0, none⟩) 2 cap]) ∧ Own w' w.heap.size g cap (M.runs ++ [mark])) ∧ Below w.heap.size w w' := fun A c w M hM hR => by
    have hA : A = none → c = 0 ∧ M.runs = [] := fun e => by
      obtain ⟨b, off, h, _⟩ := hR (by rcases hM with rfl | rfl <;> decide)
      rw [e] at h; cases h
    rcases hM with rfl | rfl
    · exact twin_any Mf.oth A c w hR hA (by decide)
    · exact twin_any Mt.oth2 A c w hR hA (by decide)
  have HN := Lib.hid (And.intro hs1 (And.intro hs2 (And.intro o2 s2)))
  have HTW := Lib.hid htw
  have kne := Ms.new_at (n := 65536) (by decide) (Below.refl _ W) (Nat.le_refl _)
  clear l1 l2 e1 o1 f1 k1 s1 e2 o2 f2 k2 s2 hs1 hs2 hT htw
  go_enter Tryz.func23, Tryz.ntmps23
  go_upto_region 4 with (go_at_call 4; refine kne.mono ?_; clear kne; rintro e w1 ⟨d, rfl, S1, b1⟩)
  clear b1
  have ko := hoth w1
  clear hoth
  go_upto_region 5 with (go_at_call 47; refine ko.mono ?_; clear ko; rintro e w2 ⟨⟨SS, A2, c2, rfl, r2⟩, b2⟩)
  obtain ⟨x2, hx2⟩ : ∃ x2, w2.alloc (.cells #[.int .i64 64, .int .i64 2, .int .i64 1, .int .i64 9, .int .i64 9, .int .i64 3, .slice A2 2 c2] 31) = x2 := ⟨_, rfl⟩
  have hA2 : Below w2.heap.size w2 x2 := by rw [← hx2]; exact (Below.refl _ _).alloc (Nat.le_refl _) _
  have P3 : Blk x2 w2.heap.size 31 #[.int .i64 64, .int .i64 2, .int .i64 1, .int .i64 9, .int .i64 9, .int .i64 3, .slice A2 2 c2] := by rw [← hx2]; exact Blk.new _ _ _
  have S2 := S1.later (b2.trans (hA2.mono b2.size))
  have r3 := (r2.below hA2).more hA2.size
  rw [hx2]
  clear hx2 r2 b2 S1
  obtain ⟨a0, a1, a2, a3, a4, a5, a6⟩ : x2.cell? ⟨w2.heap.size, 0, none⟩ = some (.int .i64 64) ∧ x2.cell? ⟨w2.heap.size, 1, none⟩ = some (.int .i64 2) ∧ x2.cell? ⟨w2.heap.size, 2, none⟩ = some (.int .i64 1) ∧ x2.cell? ⟨w2.heap.size, 3, none⟩ = some (.int .i64 9) ∧ x2.cell? ⟨w2.heap.size, 4, none⟩ = some (.int .i64 9) ∧ x2.cell? ⟨w2.heap.size, 5, none⟩ = some (.int .i64 3) ∧ x2.cell? ⟨w2.heap.size, 6, none⟩ = some (.slice A2 2 c2) := ⟨P3.cell 0, P3.cell 1, P3.cell 2, P3.cell 3, P3.cell 4, P3.cell 5, P3.cell 6⟩
  have kt := HTW.out A2 c2 x2 _ (.inl rfl) r3
  clear P3 r3 hA2
  go_upto_region 6 with (go_at_call 6; refine kt.mono ?_; clear kt; rintro e w3 ⟨⟨g, cap, rfl, own3⟩, b3⟩)
  obtain ⟨cur, R3, hgB, hcs⟩ := Mt.Rw.of own3
  have hg3 := R3.blk.lt
  obtain ⟨x3, hx3⟩ : ∃ x3, w3.alloc (.cells #[.int .i64 64, .int .i64 2, .int .i64 1, .int .i64 9, .int .i64 9, .int .i64 3, .slice (some ⟨g, 0, none⟩) 2 cap] 31) = x3 := ⟨_, rfl⟩
  have hA3 : Below w3.heap.size w3 x3 := by rw [← hx3]; exact (Below.refl _ _).alloc (Nat.le_refl _) _
  have P4 : Blk x3 w3.heap.size 31 #[.int .i64 64, .int .i64 2, .int .i64 1, .int .i64 9, .int .i64 9, .int .i64 3, .slice (some ⟨g, 0, none⟩) 2 cap] := by rw [← hx3]; exact Blk.new _ _ _
  have hz3 : x3.heap.size = w3.heap.size + 1 := by rw [← hx3]; simp
  have b33 := b3.trans (hA3.mono b3.size)
  have hb3 := b3.size
  have S3 := S2.grow b33
  have R33 := R3.keep (hA3.block g hg3)
  rw [hx3]
  generalize hbx : w3.heap.size = b4 at *
  have hne : g ≠ b4 := by omega
  obtain ⟨K, hK⟩ : ∃ K : Nat → Prop, (fun k => (W.heap.size ≤ k ∧ k < W.heap.size) ∨ (x2.heap.size ≤ k ∧ k < x3.heap.size)) = K := ⟨_, rfl⟩
  rw [hK] at S3
  have kg : K g := by rw [← hK]; right; omega
  have kb : K b4 := by rw [← hK]; right; omega
  clear hx3 a0 a1 a2 a3 a4 a5 a6 S2 own3 b3 b33 R3 hA3 hb3 hgB hg3 hcs hK hbx hz3
  obtain ⟨a0, a1, a2, a3, a4, a5, a6⟩ : x3.cell? ⟨b4, 0, none⟩ = some (.int .i64 64) ∧ x3.cell? ⟨b4, 1, none⟩ = some (.int .i64 2) ∧ x3.cell? ⟨b4, 2, none⟩ = some (.int .i64 1) ∧ x3.cell? ⟨b4, 3, none⟩ = some (.int .i64 9) ∧ x3.cell? ⟨b4, 4, none⟩ = some (.int .i64 9) ∧ x3.cell? ⟨b4, 5, none⟩ = some (.int .i64 3) ∧ x3.cell? ⟨b4, 6, none⟩ = some (.slice (some ⟨g, 0, none⟩) 2 cap) := ⟨P4.cell 0, P4.cell 1, P4.cell 2, P4.cell 3, P4.cell 4, P4.cell 5, P4.cell 6⟩
  have kst : Calls Tryz.prog 7 #[.pointer (some ⟨d, 0, none⟩), .agg #[.int .i64 64, .int .i64 2, .int .i64 1, .int .i64 9, .int .i64 9, .int .i64 3, .slice (some ⟨g, 0, none⟩) 2 cap]] x3 fun e w' => e = .returned (.int .i64 0) ∧ Jl.Sit W.heap.size W w' d m1 K ∧ Jl.Kept K x3 w' := by
    have := Ms.store_any (X := Mf.oth) (A := some ⟨g, 0, none⟩) (cap := cap) S3 R33.rs Mf.oth_fit (hTB S3.below) Mf.oth_check
    rw [HN.out.1] at this
    exact this
  go_upto_region 7 with (go_at_call 7; refine kst.mono ?_; clear kst; rintro e w4 ⟨rfl, S4, q4⟩)
  have R4 := R33.keep (q4.2 g kg)
  have P44 : Blk w4 b4 31 #[.int .i64 64, .int .i64 2, .int .i64 1, .int .i64 9, .int .i64 9, .int .i64 3, .slice (some ⟨g, 0, none⟩) 2 cap] := (q4.2 b4 kb).trans P4
  clear a0 a1 a2 a3 a4 a5 a6 P4 R33 q4 S3
  go_wp2_with fail
  go_loopw [6] (fun vi wr => ∃ (k : Nat) (cur : Array Value), k ≤ 2 ∧ vi = .int .i64 (k : Nat) ∧ Mt.Rw wr g k cur ∧ Blk wr b4 31 #[.int .i64 64, .int .i64 2, .int .i64 1, .int .i64 9, .int .i64 9, .int .i64 3, .slice (some ⟨g, 0, none⟩) 2 cap] ∧ Jl.Sit W.heap.size W wr d m1 K) (fun vi _ => 2 - (intOf vi).toNat)
  case atStart => exact ⟨0, cur, by decide, rfl, R4, P44, S4⟩
  case round =>
    clear R4 P44 S4
    obtain ⟨k, cur, hk, rfl, R, P, S⟩ := hrel
    have a6 : wr.cell? ⟨b4, 6, none⟩ = some (.slice (some ⟨g, 0, none⟩) 2 cap) := P.cell 6
    by_cases hlt : k < 2
    · have h7 : 7 < cur.size := by
        have h2 : (cellsOf (Mt.ow k))[7]? = some (cellsOf (Mt.ow k))[7]! := by
          match k, hlt with
          | 0, _ => rfl
          | 1, _ => rfl
        exact (Array.getElem?_eq_some_iff.1 (R.at_ 7 _ h2)).1
      have c3 : wr.cell? ⟨g, k * 4 + 3, none⟩ = some (cur[k * 4 + 3]'(by omega)) := (R.blk.cell _).trans (Array.getElem?_eq_getElem (by omega))
      have f3 := R.blk.frozen (k * 4 + 3)
      have R2 := R.put hlt
      have P2 := P.far (p := ⟨g, k * 4 + 3, none⟩) (fun e => hne e.symm) (.int .i64 (3 + k : Nat))
      have S2 : Jl.Sit W.heap.size W (wr.setCell ⟨g, k * 4 + 3, none⟩ (.int .i64 (3 + k : Nat))) d m1 K := (S.only (G := fun k => k = g) (Dk.Only.setCell (F := fun k => k = g) (Dk.Only.refl _ wr) (p := ⟨g, k * 4 + 3, none⟩) (.inl rfl) _) fun k hk => hk ▸ kg).sub fun k hk => .inl hk
      have wk : IntKind.i64.wrap (3 + (k : Int)) = ((3 + k : Nat) : Int) := by rw [IntWalk.i64_in _ (by omega)]; omega
      clear R P S
      go_wp2_with fail
      go_roundw
      case rel => exact ⟨k + 1, _, by omega, by go_num, R2, P2, S2⟩
      case measure => simp [intOf]; omega
    · obtain rfl : k = 2 := by omega
      have R2 : Rs wr wr.heap.size (some ⟨g, 0, none⟩) Mt.oth2.runs := R.rs
      clear R hlt hk
      obtain ⟨a0, a1, a2, a3, a4, a5⟩ : wr.cell? ⟨b4, 0, none⟩ = some (.int .i64 64) ∧ wr.cell? ⟨b4, 1, none⟩ = some (.int .i64 2) ∧ wr.cell? ⟨b4, 2, none⟩ = some (.int .i64 1) ∧ wr.cell? ⟨b4, 3, none⟩ = some (.int .i64 9) ∧ wr.cell? ⟨b4, 4, none⟩ = some (.int .i64 9) ∧ wr.cell? ⟨b4, 5, none⟩ = some (.int .i64 3) := ⟨P.cell 0, P.cell 1, P.cell 2, P.cell 3, P.cell 4, P.cell 5⟩
      have kt := HTW.out (some ⟨g, 0, none⟩) cap wr _ (.inr rfl) R2
      go_upto_region 12 with (go_at_call 6; refine kt.mono ?_; clear kt; rintro e w5 ⟨⟨g5, c5, rfl, own5⟩, b5⟩)
      obtain ⟨K5, hK5, S5, P7, hr7, b57, z5, z57⟩ : ∃ K' : Nat → Prop, (∀ k, K k → K' k) ∧ Jl.Sit W.heap.size W (w5.alloc (.cells #[.int .i64 64, .int .i64 2, .int .i64 1, .int .i64 9, .int .i64 9, .int .i64 3, .slice (some ⟨g5, 0, none⟩) 2 c5] 31)) d m1 K' ∧ Ms.Mb (w5.alloc (.cells #[.int .i64 64, .int .i64 2, .int .i64 1, .int .i64 9, .int .i64 9, .int .i64 3, .slice (some ⟨g5, 0, none⟩) 2 c5] 31)) K' w5.heap.size Mt.oth2 (some ⟨g5, 0, none⟩) c5 ∧ wr.heap.size ≤ g5 ∧ Below wr.heap.size wr (w5.alloc (.cells #[.int .i64 64, .int .i64 2, .int .i64 1, .int .i64 9, .int .i64 9, .int .i64 3, .slice (some ⟨g5, 0, none⟩) 2 c5] 31)) ∧ wr.heap.size ≤ w5.heap.size ∧ (w5.alloc (.cells #[.int .i64 64, .int .i64 2, .int .i64 1, .int .i64 9, .int .i64 9, .int .i64 3, .slice (some ⟨g5, 0, none⟩) 2 c5] 31)).heap.size = w5.heap.size + 1 := by
        have hA : Below w5.heap.size w5 (w5.alloc (.cells #[.int .i64 64, .int .i64 2, .int .i64 1, .int .i64 9, .int .i64 9, .int .i64 3, .slice (some ⟨g5, 0, none⟩) 2 c5] 31)) := (Below.refl _ _).alloc (Nat.le_refl _) _
        have hz := b5.size
        have hgl := own5.lt
        exact ⟨_, fun k hk => .inl hk, S.grow (b5.trans (hA.mono hz)), ⟨Blk.new _ _ _, ((own5.rs.fst).below hA).more hA.size, .inr (by simp; omega), fun h0 g off e => by injection e with e; injection e with e; subst e; exact .inr (by simp; omega)⟩, hgl.1, b5.trans (hA.mono hz), hz, by simp⟩
      have R7 := (R2.below b57).more b57.size
      have P47 : Blk (w5.alloc (.cells #[.int .i64 64, .int .i64 2, .int .i64 1, .int .i64 9, .int .i64 9, .int .i64 3, .slice (some ⟨g5, 0, none⟩) 2 c5] 31)) b4 31 #[.int .i64 64, .int .i64 2, .int .i64 1, .int .i64 9, .int .i64 9, .int .i64 3, .slice (some ⟨g, 0, none⟩) 2 cap] := (b57.block _ P.lt).trans P
      generalize w5.alloc (.cells #[.int .i64 64, .int .i64 2, .int .i64 1, .int .i64 9, .int .i64 9, .int .i64 3, .slice (some ⟨g5, 0, none⟩) 2 c5] 31) = x5 at S5 P7 P47 R7 b57 z57 ⊢
      generalize w5.heap.size = b7 at P7 z5 z57 ⊢
      clear own5 b5 a0 a1 a2 a3 a4 a5 a6 R2 P S b57 w5
      obtain ⟨a0, a1, a2, a3, a4, a5, a6⟩ : x5.cell? ⟨b4, 0, none⟩ = some (.int .i64 64) ∧ x5.cell? ⟨b4, 1, none⟩ = some (.int .i64 2) ∧ x5.cell? ⟨b4, 2, none⟩ = some (.int .i64 1) ∧ x5.cell? ⟨b4, 3, none⟩ = some (.int .i64 9) ∧ x5.cell? ⟨b4, 4, none⟩ = some (.int .i64 9) ∧ x5.cell? ⟨b4, 5, none⟩ = some (.int .i64 3) ∧ x5.cell? ⟨b4, 6, none⟩ = some (.slice (some ⟨g, 0, none⟩) 2 cap) := ⟨P47.cell 0, P47.cell 1, P47.cell 2, P47.cell 3, P47.cell 4, P47.cell 5, P47.cell 6⟩
      have kst : Calls Tryz.prog 7 #[.pointer (some ⟨d, 0, none⟩), .agg #[.int .i64 64, .int .i64 2, .int .i64 1, .int .i64 9, .int .i64 9, .int .i64 3, .slice (some ⟨g, 0, none⟩) 2 cap]] x5 fun e w' => e = .returned (.int .i64 0) ∧ Jl.Sit W.heap.size W w' d m2 K5 ∧ Jl.Kept K5 x5 w' := by
        have := Ms.store_any (X := Mt.oth2) (A := some ⟨g, 0, none⟩) (cap := cap) S5 R7 Mt.oth2_fit (hTB S5.below) Mt.oth2_check
        rw [HN.out.2.1] at this
        exact this
      go_upto_region 13 with (go_at_call 7; refine kst.mono ?_; clear kst; rintro e w6 ⟨rfl, S6, q6⟩)
      have P76 := P7.kept q6
      clear a0 a1 a2 a3 a4 a5 a6 P7 P47 R7 S5 q6
      have kld : Calls Tryz.prog 11 #[.pointer (some ⟨d, 0, none⟩)] w6 fun e w' => (∃ A cap, e = .returned (.tuple #[.agg #[.int .i64 64, .int .i64 2, .int .i64 1, .int .i64 9, .int .i64 9, .int .i64 3, .slice A 2 cap], .int .i64 0]) ∧ Runs w' w6.heap.size A cap Mt.oth2.runs) ∧ Below w6.heap.size w6 w' := Ms.load_good S6 hTB Mt.oth2_check HN.out.2.2.1 HN.out.2.2.2
      go_upto_region 14 with (go_at_call 11; refine kld.mono ?_; clear kld; rintro e w7 ⟨⟨A9, c9, rfl, hr9⟩, b9⟩)
      have hA9 : Below w7.heap.size w7 (w7.alloc (.cells #[.int .i64 64, .int .i64 2, .int .i64 1, .int .i64 9, .int .i64 9, .int .i64 3, .slice A9 2 c9] 31)) := (Below.refl _ _).alloc (Nat.le_refl _) _
      have P9 : Blk (w7.alloc (.cells #[.int .i64 64, .int .i64 2, .int .i64 1, .int .i64 9, .int .i64 9, .int .i64 3, .slice A9 2 c9] 31)) w7.heap.size 31 #[.int .i64 64, .int .i64 2, .int .i64 1, .int .i64 9, .int .i64 9, .int .i64 3, .slice A9 2 c9] := Blk.new _ _ _
      have r9 := (hr9.rs.below hA9).more hA9.size
      have b99 := b9.trans (hA9.mono b9.size)
      have S7 := S6.later b99
      have P79 := P76.later b99
      generalize w7.alloc (.cells #[.int .i64 64, .int .i64 2, .int .i64 1, .int .i64 9, .int .i64 9, .int .i64 3, .slice A9 2 c9] 31) = x7 at S7 P79 P9 r9 ⊢
      generalize w7.heap.size = b9' at P9 ⊢
      clear S6 P76 b9 b99 hA9 hr9
      obtain ⟨a0, a1, a2, a3, a4, a5, a6⟩ : x7.cell? ⟨b9', 0, none⟩ = some (.int .i64 64) ∧ x7.cell? ⟨b9', 1, none⟩ = some (.int .i64 2) ∧ x7.cell? ⟨b9', 2, none⟩ = some (.int .i64 1) ∧ x7.cell? ⟨b9', 3, none⟩ = some (.int .i64 9) ∧ x7.cell? ⟨b9', 4, none⟩ = some (.int .i64 9) ∧ x7.cell? ⟨b9', 5, none⟩ = some (.int .i64 3) ∧ x7.cell? ⟨b9', 6, none⟩ = some (.slice A9 2 c9) := ⟨P9.cell 0, P9.cell 1, P9.cell 2, P9.cell 3, P9.cell 4, P9.cell 5, P9.cell 6⟩
      have hb7 := P79.blk
      obtain ⟨d0, d1, d2, d3, d4, d5, d6⟩ : x7.cell? ⟨b7, 0, none⟩ = some (.int .i64 64) ∧ x7.cell? ⟨b7, 1, none⟩ = some (.int .i64 2) ∧ x7.cell? ⟨b7, 2, none⟩ = some (.int .i64 1) ∧ x7.cell? ⟨b7, 3, none⟩ = some (.int .i64 9) ∧ x7.cell? ⟨b7, 4, none⟩ = some (.int .i64 9) ∧ x7.cell? ⟨b7, 5, none⟩ = some (.int .i64 3) ∧ x7.cell? ⟨b7, 6, none⟩ = some (.slice (some ⟨g5, 0, none⟩) 2 c5) := ⟨hb7.cell 0, hb7.cell 1, hb7.cell 2, hb7.cell 3, hb7.cell 4, hb7.cell 5, hb7.cell 6⟩
      have ksm : Calls Tryz.prog 13 #[.agg #[.int .i64 64, .int .i64 2, .int .i64 1, .int .i64 9, .int .i64 9, .int .i64 3, .slice A9 2 c9], .agg #[.int .i64 64, .int .i64 2, .int .i64 1, .int .i64 9, .int .i64 9, .int .i64 3, .slice (some ⟨g5, 0, none⟩) 2 c5]] x7 fun e w' => e = .returned (.bool true) ∧ Below x7.heap.size x7 w' := same_any Mt.oth2 A9 (some ⟨g5, 0, none⟩) c9 c5 x7 r9 P79.rs (by decide)
      clear P9 P79 hb7 r9
      go_wp2_with (first
        | (go_at_call 13; refine ksm.mono ?_; clear ksm; rintro e w8 ⟨rfl, b8⟩)
        | (go_at_call 9; refine (Mt.num_r _ _).mono ?_; rintro e w9 ⟨rfl, rfl⟩))
      go_ret
      exact ⟨rfl, (S7.later b8).below⟩
end Go.Proofs.YtdhnkcfmjibibaaGreatDoor
