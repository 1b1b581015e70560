/- Contracts of masks.within, masks.Count, kindredref2.over, kindredref2.Count: they return what Pascal's triangle says. Conditions: each theorem's own hypotheses. -/
import Derived.Test.YtpldjhlhkjmneaaDoorCounts
import Derived.WalkSpells
import Derived.Maps.AppendAt
namespace Go.Proofs.YtpldjhlhkjmneaaDoor
open Go.RowKit

theorem Tryd.info3 : (Tryd.prog.info? 3).map (fun i => (i.zero, i.size, i.bytes)) = some (some (.int .i64 0), 1, 8) := by kernel_rfl

/-- n over s, for whole numbers: 0 where s is below 0. -/
def Cz (n s : Int) : Int := if 0 ≤ s then (Mm.C n.toNat s.toNat : Int) else 0

theorem Cz_nat (n s : Nat) : Cz n s = (Mm.C n s : Int) := by unfold Cz; rw [if_pos (by omega)]; rfl
theorem Cz_neg (n s : Int) (h : s < 0) : Cz n s = 0 := by unfold Cz; rw [if_neg (by omega)]
theorem Cz_gt (n s : Int) (h0 : 0 ≤ n) (h : n < s) : Cz n s = 0 := by
  unfold Cz
  rw [if_pos (by omega), Mm.C_gt _ _ (by omega)]; rfl
theorem Cz_lo (n s : Int) : 0 ≤ Cz n s := by unfold Cz; split <;> omega
theorem Cz_hi (n s : Int) (hn : n ≤ 64) : Cz n s ≤ 9223372036854775807 := by
  unfold Cz
  have := Mm.C_lt n.toNat s.toNat (by omega)
  split <;> omega

theorem within_yes (n s : Int) (w : World) (h1 : 0 ≤ n) (h2 : n ≤ 64) (h3 : 0 ≤ s) (h4 : s ≤ n) :
    Calls Tryd.prog 23 #[.int .i64 n, .int .i64 s] w fun e w' => e = .returned (.bool true) ∧ w = w' := by
  go_enter Tryd.func23, Tryd.ntmps23
  go_wp2
  go_ret
  exact ⟨rfl, rfl⟩

theorem within_no (n s : Int) (w : World) (h : n < 0 ∨ 64 < n ∨ s < 0 ∨ n < s) :
    Calls Tryd.prog 23 #[.int .i64 n, .int .i64 s] w fun e w' => e = .returned (.bool false) ∧ w = w' := by
  by_cases h1 : n < 0
  · go_enter Tryd.func23, Tryd.ntmps23
    go_wp2
    go_ret
    exact ⟨rfl, rfl⟩
  by_cases h2 : 64 < n
  · go_enter Tryd.func23, Tryd.ntmps23
    go_wp2
    go_ret
    exact ⟨rfl, rfl⟩
  by_cases h3 : s < 0
  · go_enter Tryd.func23, Tryd.ntmps23
    go_wp2
    go_ret
    exact ⟨rfl, rfl⟩
  have h4 : decide (s ≤ n) = false := by simp; omega
  go_enter Tryd.func23, Tryd.ntmps23
  go_wp2
  go_ret
  exact ⟨rfl, rfl⟩

theorem count_bad (n s : Int) (w : World) (h : n < 0 ∨ 64 < n) :
    Calls Tryd.prog 15 #[.int .i64 n, .int .i64 s] w fun e w' => e = .returned (.tuple #[.int .i64 0, .int .i64 20]) ∧ w = w' := by
  by_cases h1 : n < 0
  · go_enter Tryd.func15, Tryd.ntmps15
    go_wp2_with fail
    go_ret2
    exact ⟨rfl, rfl⟩
  have h2 : 64 < n := by omega
  go_enter Tryd.func15, Tryd.ntmps15
  go_wp2_with fail
  go_ret2
  exact ⟨rfl, rfl⟩

theorem count_ok (n s : Int) (w : World) (h1 : 0 ≤ n) (h2 : n ≤ 64) :
    Calls Tryd.prog 15 #[.int .i64 n, .int .i64 s] w fun e w' => e = .returned (.tuple #[.int .i64 (Cz n s), .int .i64 0]) ∧ Below w.heap.size w w' := by
  by_cases h : s < 0 ∨ n < s
  · have hc : Cz n s = 0 := by rcases h with h | h; exact Cz_neg n s h; exact Cz_gt n s h1 h
    have Hc := Lib.hid hc
    clear hc
    go_enter Tryd.func15, Tryd.ntmps15
    go_wp2_with (go_at_call 23; refine (within_no _ _ _ (by omega)).mono ?_; rintro e w' ⟨rfl, rfl⟩)
    go_ret2
    exact ⟨by rw [Hc.out]; rfl, Below.refl _ _⟩
  · have h3 : 0 ≤ s := by omega
    have h4 : s ≤ n := by omega
    clear h
    obtain ⟨i, rfl⟩ := Int.eq_ofNat_of_zero_le h1
    obtain ⟨j, rfl⟩ := Int.eq_ofNat_of_zero_le h3
    go_enter Tryd.func15, Tryd.ntmps15
    go_wp2_with (go_at_call 23; refine (within_yes _ _ _ (by omega) (by omega) (by omega) (by omega)).mono ?_; rintro e w' ⟨rfl, rfl⟩)
    refine (counts_any _).mono ?_
    rintro e w1 ⟨rfl, hB, hT⟩
    have hc := hT.1 i j (by omega) (by omega)
    go_wp2_with fail
    go_ret2
    exact ⟨by rw [Cz_nat]; rfl, hB⟩

/-! ### the document's own n over s -/

/-- row j of the slice at block g, its first k cells. -/
def IsRow (g k : Nat) (f : Nat → Int) (w : World) : Prop :=
  (∀ j, j < k → w.cell? ⟨g, j, none⟩ = some (.int .i64 (f j))) ∧ (∀ j, w.frozen? ⟨g, j, none⟩ = false)

theorem isRow_set {g k : Nat} {f : Nat → Int} {w : World} (h : IsRow g k f w) (s : Nat) (hs : s < k) (v : Int) :
    IsRow g k (fun j => if j = s then v else f j) (w.setCell ⟨g, s, none⟩ (.int .i64 v)) := by
  refine ⟨fun j hj => ?_, fun i => (World.frozen?_setCell _ _ _ _).trans (h.2 i)⟩
  by_cases e : j = s
  · subst e
    rw [World.cell?_setCell_same' _ _ _ (by rw [h.1 j hj]; rfl)]; simp
  · rw [World.cell?_setCell_other, h.1 j hj]
    · simp only [if_neg e]
    · intro h'
      simp only [Addr.mk.injEq] at h'
      omega

theorem isRow_congr {g k : Nat} {f f' : Nat → Int} {w : World} (h : IsRow g k f w) (e : ∀ j, j < k → f j = f' j) : IsRow g k f' w :=
  ⟨fun j hj => by rw [← e j hj]; exact h.1 j hj, h.2⟩

/-- the row while it goes from row i - 1 to row i of the triangle: behind column j it is the new one. -/
def mid (i j : Nat) (c : Nat) : Int := if j < c then (Mm.C i c : Int) else (Mm.C (i - 1) c : Int)

theorem mid_zero (i : Nat) : ∀ c, mid i 0 c = (Mm.C i c : Int) := by
  intro c
  unfold mid
  by_cases h : 0 < c
  · rw [if_pos h]
  · obtain rfl : c = 0 := by omega
    rw [if_neg (by omega), Mm.C_zero, Mm.C_zero]

theorem mid_top (i j s : Nat) (h : j = i ∨ j = s) (hi : 1 ≤ i) : ∀ c, c < s + 1 → mid i j c = (Mm.C (i - 1) c : Int) := by
  intro c hc
  unfold mid
  by_cases h' : j < c
  · rw [if_pos h', Mm.C_gt i c (by omega), Mm.C_gt (i - 1) c (by omega)]
  · rw [if_neg h']

theorem mid_step (i j : Nat) (v : Int) (hv : v = (Mm.C i j : Int)) (h1 : 1 ≤ j) : ∀ c, (if c = j then v else mid i j c) = mid i (j - 1) c := by
  intro c
  unfold mid
  by_cases h : c = j
  · subst h
    rw [if_pos rfl, if_pos (by omega), hv]
  · rw [if_neg h]
    by_cases h' : j < c
    · rw [if_pos h', if_pos (by omega)]
    · rw [if_neg h', if_neg (by omega)]

theorem step_sum' (i j : Nat) (h1 : 1 ≤ j) (h2 : 1 ≤ i) : Mm.C i j = Mm.C (i - 1) j + Mm.C (i - 1) (j - 1) := by
  obtain ⟨m, rfl⟩ : ∃ m, i = m + 1 := ⟨i - 1, by omega⟩
  obtain ⟨k, rfl⟩ : ∃ k, j = k + 1 := ⟨j - 1, by omega⟩
  rw [Mm.C_succ]; simp; omega

/-- 1 and then zeros. -/
def ones (k : Nat) : List Value := (.int .i64 1) :: List.replicate k (.int .i64 0)

theorem ones_snoc (k : Nat) : ones k ++ [.int .i64 0] = ones (k + 1) := by
  unfold ones
  rw [List.replicate_succ', List.cons_append]

theorem ones_get (k j : Nat) (h : j < k + 1) : (ones k)[j]? = some (.int .i64 (Mm.C 0 j : Int)) := by
  unfold ones
  cases j with
  | zero => rfl
  | succ j => rw [List.getElem?_cons_succ, List.getElem?_replicate, if_pos (by omega)]; rfl

theorem own_form {w : World} {base e size n : Nat} {v : Value} {xs : List Value} (h : w.ownsRow base e size v (n + 1) xs) : ∃ g cap, v = .slice (some ⟨g, 0, none⟩) (n + 1) cap := by
  rcases h.2 with ⟨_, h0⟩ | ⟨g, cap, _, h0, _⟩
  · omega
  · exact ⟨g, cap, h0⟩

set_option maxHeartbeats 1000000 in
theorem over_any (n s : Int) (w : World) (h1 : 0 ≤ n) (h2 : n ≤ 64) :
    Calls Tryd.prog 19 #[.int .i64 n, .int .i64 s] w fun e w' => e = .returned (.int .i64 (Cz n s)) ∧ Below w.heap.size w w' := by
  by_cases h : s < 0 ∨ n < s
  · have hc : Cz n s = 0 := by rcases h with h | h; exact Cz_neg n s h; exact Cz_gt n s h1 h
    have Hc := Lib.hid hc
    clear hc
    by_cases h3 : s < 0
    · go_enter Tryd.func19, Tryd.ntmps19
      go_wp2_with fail
      go_ret
      exact ⟨by rw [Hc.out]; rfl, Below.refl _ _⟩
    · have h4 : n < s := by omega
      go_enter Tryd.func19, Tryd.ntmps19
      go_wp2_with fail
      go_ret
      exact ⟨by rw [Hc.out]; rfl, Below.refl _ _⟩
  · have h3 : 0 ≤ s := by omega
    have h4 : s ≤ n := by omega
    clear h
    obtain ⟨i, rfl⟩ := Int.eq_ofNat_of_zero_le h1
    obtain ⟨k, rfl⟩ := Int.eq_ofNat_of_zero_le h3
    rw [Cz_nat]
    obtain ⟨i0, hi, hz0, hz1, hz2⟩ := info_parts Tryd.info3
    have hd1 : decide ((k : Int) < 0) = false := by simp
    have hd2 : decide (i < k) = false := by simp; omega
    go_enter Tryd.func19, Tryd.ntmps19
    go_wp2_with fail
    go_loopw [5, 6] (fun v j wr => ∃ c : Nat, c ≤ k ∧ j = .int .i64 c ∧ wr.ownsRow w.heap.size 3 1 v (c + 1) (ones c) ∧ Below w.heap.size w wr) (fun _ j _ => k - (intOf j).toNat)
    case atStart => exact ⟨0, by omega, rfl, World.ownsRow_lit _ _ _ (Nat.le_refl _) (by decide) rfl, (Below.refl _ _).alloc (Nat.le_refl _) _⟩
    case round =>
      obtain ⟨c, hc, rfl, hown, hB⟩ := hrel
      obtain ⟨g, cap, rfl⟩ := own_form hown
      have hsz := hB.size
      by_cases hlt : c < k
      · go_wp2_with (at_builtin; refine wpList_append_own _ rfl _ _ 47 rfl w.heap.size 3 i0 (.int .i64 0) 1 8 Tryd.underlying47 hi hz0 hz1 hz2 rfl (by decide) _ _ _ rfl (hown.alloc _) ⟨wr.heap.size, 0, none⟩ 1 1 [.int .i64 0] rfl rfl ?c1 ?c2 ?c3 ?c4 ?c5 ?_)
        case c1 => exact cell_one_new _ _ _
        case c2 => simp [Value.oneCell']
        case c3 => unfold maxLen; omega
        case c4 => omega
        case c5 => simp; omega
        intro v' w1 hown' hgrow _
        have r2 : Below w.heap.size w w1 := (hB.alloc hB.size _).grown hgrow (by simp; omega) (fun q e => (hown.lt q e).1)
        have r1 : w1.ownsRow w.heap.size 3 1 v' (c + 1 + 1) (ones (c + 1)) := by rw [ones_snoc] at hown'; exact hown'
        clear hown' hgrow
        go_wp2_with fail
        go_roundw
        case rel => exact ⟨c + 1, by omega, by go_num, r1, r2⟩
        case measure => simp [intOf]; omega
      · obtain rfl : c = k := by omega
        have hT1 : IsRow g (c + 1) (fun j => (Mm.C 0 j : Int)) wr := by
          refine ⟨fun j hj => ?_, hown.frozenAt⟩
          rw [hown.cellAt j (by omega), ones_get c j hj]
        have hg := (hown.lt g rfl)
        have hg1 : w.heap.size ≤ g := hg.1
        have HT1 := Lib.hid hT1
        clear hT1 hg hown
        go_wp2_with fail
        obtain ⟨wo, hwo⟩ : ∃ wo : World, wo = wr := ⟨_, rfl⟩
        rw [← hwo] at HT1 hB hsz ⊢
        clear hwo
        go_loopw [7, 8] (fun j _ wi => ∃ n : Nat, 1 ≤ n ∧ n ≤ i + 1 ∧ j = .int .i64 n ∧ IsRow g (c + 1) (fun q => (Mm.C (n - 1) q : Int)) wi ∧ Below w.heap.size w wi) (fun j _ _ => 65 - (intOf j).toNat)
        case atStart => exact ⟨1, by omega, by omega, rfl, HT1.out, hB⟩
        case round =>
          obtain ⟨n, hn1, hn2, rfl, hT, hB'⟩ := hrel
          have HT := Lib.hid hT
          clear hT HT1 hB hsz
          by_cases hle : n ≤ i
          · have hlc := Mm.C_lt
            have Hlc := Lib.hid hlc
            clear hlc
            by_cases hmin : n ≤ c
            all_goals
              go_wp2_with fail
              obtain ⟨wp, hwp⟩ : ∃ wp : World, wp = wr := ⟨_, rfl⟩
              rw [← hwp] at HT hB' ⊢
              clear hwp
              go_loopw [8] (fun j wi => ∃ m : Nat, m ≤ n ∧ m ≤ c ∧ j = .int .i64 m ∧ IsRow g (c + 1) (mid n m) wi ∧ Below w.heap.size w wi) (fun j _ => (intOf j).toNat)
              case atStart =>
                first
                | exact ⟨c, by omega, by omega, rfl, isRow_congr HT.out fun q hq => (mid_top n c c (.inr rfl) hn1 q hq).symm, hB'⟩
                | exact ⟨n, by omega, by omega, rfl, isRow_congr HT.out fun q hq => (mid_top n n c (.inl rfl) hn1 q hq).symm, hB'⟩
              case round =>
                obtain ⟨m, hm1, hm2, rfl, hT, hB⟩ := hrel
                have HT' := Lib.hid hT
                clear hT HT hB'
                by_cases hpos : 0 < m
                · have e1 := HT'.out.1 m (by omega)
                  have e2 := HT'.out.1 (m - 1) (by omega)
                  have hf := HT'.out.2 m
                  have hs := step_sum' n m (by omega) hn1
                  have hl := Hlc.out n m (by omega)
                  rw [hs] at hl
                  rw [show mid n m m = (Mm.C (n - 1) m : Int) from by unfold mid; rw [if_neg (by omega)]] at e1
                  rw [show mid n m (m - 1) = (Mm.C (n - 1) (m - 1) : Int) from by unfold mid; rw [if_neg (by omega)]] at e2
                  generalize Mm.C (n - 1) m = x at hs hl e1
                  generalize Mm.C (n - 1) (m - 1) = y at hs hl e2
                  have hxy : (x : Int) + y ≤ 9223372036854775807 := by omega
                  have Hs := Lib.hid hs
                  clear hs hl
                  go_wp2_with fail
                  go_region
                  go_wp2_with fail
                  go_roundw
                  case rel =>
                    refine ⟨m - 1, by omega, by omega, by go_num, ?_, (hB.setCell (p := ⟨g, m, none⟩) hg1 _).drew⟩
                    exact isRow_congr (isRow_set HT'.out m (by omega) (x + y)) fun q _ => mid_step n m _ (by rw [Hs.out]; omega) (by omega) q
                  case measure => simp [intOf]; omega
                · obtain rfl : m = 0 := by omega
                  go_wp2_with fail
                  go_roundw
                  case rel => exact ⟨n + 1, by omega, by omega, by go_num, isRow_congr HT'.out fun q _ => (mid_zero n q), hB⟩
                  case measure => simp [intOf]; omega
          · obtain rfl : n = i + 1 := by omega
            have e1 := HT.out.1 c (by omega)
            rw [Nat.add_sub_cancel] at e1
            go_wp2_with fail
            go_ret
            exact ⟨rfl, hB'⟩
end Go.Proofs.YtpldjhlhkjmneaaDoor
