/- Contracts of the law's helpers twin and whole. Conditions: each theorem's own hypotheses. -/
import Derived.Test.YtjoaimccfoakmaaRcA
import Derived.OwnWalk
import Derived.Laws.AppendOwn
import Derived.Laws.AppendOwnNone
import Derived.Deep.AppendLies
import Derived.Deep.QuietTactic
import Derived.BigQuiet
namespace Go.Proofs.Ytjoaimccfoakmaa
open Go.RowKit
set_option linter.unusedVariables false

theorem Try.infoHit : (Try.prog.info? 29).map (fun i => (i.zero, i.size, i.bytes)) = some (some (.agg #[.int .i64 0, .int .i64 0, .string ⟨#[]⟩]), 3, 32) := by kernel_rfl

/-- The hits' cells. -/
def cellsOf : List Hit → List Value
  | [] => []
  | h :: l => .int .i64 h.dist :: .int .i64 h.id :: .string h.code :: cellsOf l
theorem cellsOf_len : ∀ l, (cellsOf l).length = l.length * 3
  | [] => rfl
  | h :: l => by rw [cellsOf, List.length_cons, List.length_cons, List.length_cons, cellsOf_len l, List.length_cons]; omega
theorem cellsOf_append : ∀ a b, cellsOf (a ++ b) = cellsOf a ++ cellsOf b
  | [], _ => rfl
  | h :: a, b => by rw [List.cons_append, cellsOf, cellsOf, cellsOf_append a b]; rfl
theorem cellsOf_one : ∀ (l : List Hit), ∀ u ∈ cellsOf l, u.oneCell' = true
  | [], u, hu => by cases hu
  | h :: l, u, hu => by
    rw [cellsOf] at hu
    rcases List.mem_cons.1 hu with rfl | hu
    · rfl
    rcases List.mem_cons.1 hu with rfl | hu
    · rfl
    rcases List.mem_cons.1 hu with rfl | hu
    · rfl
    exact cellsOf_one l u hu
theorem cellsOf_get : ∀ (l : List Hit) (q : Nat) (h : Hit), l[q]? = some h → (cellsOf l)[q * 3]? = some (.int .i64 h.dist) ∧ (cellsOf l)[q * 3 + 1]? = some (.int .i64 h.id) ∧ (cellsOf l)[q * 3 + 2]? = some (.string h.code)
  | [], q, h, hq => by simp at hq
  | x :: l, 0, h, hq => by
    obtain rfl := Option.some.inj hq
    exact ⟨rfl, rfl, rfl⟩
  | x :: l, q + 1, h, hq => by
    have := cellsOf_get l q h hq
    rw [show (q + 1) * 3 = q * 3 + 1 + 1 + 1 from by omega, cellsOf]
    exact this
theorem cellsOf_of : ∀ (l : List Hit) (j : Nat) (u : Value), (cellsOf l)[j]? = some u → ∃ q h, l[q]? = some h ∧ (j = q * 3 ∧ u = .int .i64 h.dist ∨ j = q * 3 + 1 ∧ u = .int .i64 h.id ∨ j = q * 3 + 2 ∧ u = .string h.code)
  | [], j, u, hu => by simp [cellsOf] at hu
  | x :: l, 0, u, hu => ⟨0, x, rfl, Or.inl ⟨rfl, (Option.some.inj hu).symm⟩⟩
  | x :: l, 1, u, hu => ⟨0, x, rfl, Or.inr (Or.inl ⟨rfl, (Option.some.inj hu).symm⟩)⟩
  | x :: l, 2, u, hu => ⟨0, x, rfl, Or.inr (Or.inr ⟨rfl, (Option.some.inj hu).symm⟩)⟩
  | x :: l, j + 3, u, hu => by
    rw [cellsOf] at hu
    obtain ⟨q, h, hq, hh⟩ := cellsOf_of l j u hu
    refine ⟨q + 1, h, hq, ?_⟩
    rcases hh with ⟨rfl, hh⟩ | ⟨rfl, hh⟩ | ⟨rfl, hh⟩
    · exact Or.inl ⟨by omega, hh⟩
    · exact Or.inr (Or.inl ⟨by omega, hh⟩)
    · exact Or.inr (Or.inr ⟨by omega, hh⟩)

theorem add_lit (b off j : Nat) : (⟨b, off, none⟩ : Addr).add j = ⟨b, off + j, none⟩ := by
  unfold Addr.add; split
  · subst_vars; rfl
  · rfl

/-- Where the cells lie the hits lie. -/
theorem Hs.of_cells {W : World} {B b off : Nat} {hs : List Hit} (hb : b < B) (hc : ∀ j u, (cellsOf hs)[j]? = some u → W.cell? ⟨b, off + j, none⟩ = some u) : Hs W B (some ⟨b, off, none⟩) hs := by
  intro _
  refine ⟨b, off, rfl, hb, fun j h hj => ?_⟩
  obtain ⟨h0, h1, h2⟩ := cellsOf_get hs j h hj
  exact ⟨hc _ _ h0, hc _ _ h1, hc _ _ h2⟩
theorem Hs.cells {W : World} {B : Nat} {ad : Addr} {hs : List Hit} (H : Hs W B (some ad) hs) : ∀ j u, (cellsOf hs)[j]? = some u → W.cell? (ad.add j) = some u := by
  intro j u hu
  obtain ⟨q, h, hq, hh⟩ := cellsOf_of hs j u hu
  have hl : q < hs.length := (List.getElem?_eq_some_iff.1 hq).1
  obtain ⟨b, off, hA, hb, hc⟩ := H (by omega)
  obtain rfl := Option.some.inj hA
  obtain ⟨h0, h1, h2⟩ := hc q h hq
  rw [add_lit]
  rcases hh with ⟨rfl, rfl⟩ | ⟨rfl, rfl⟩ | ⟨rfl, rfl⟩
  · exact h0
  · exact h1
  · exact h2

/-- The mark behind a twin. -/
def mark : Hit := ⟨-9, 0, ⟨#[]⟩⟩

/-- A row of the call's own that holds these hits. -/
def Own (W : World) (base : Nat) (g cap : Nat) (hs : List Hit) : Prop := W.ownsRow base 29 3 (.slice (some ⟨g, 0, none⟩) hs.length cap) hs.length (cellsOf hs)
theorem Own.lt {W : World} {base g cap : Nat} {hs : List Hit} (h : Own W base g cap hs) : base ≤ g ∧ g < W.heap.size := World.ownsRow.lt h g rfl
theorem Own.hs {W : World} {base g cap : Nat} {hs : List Hit} (h : Own W base g cap hs) : Hs W W.heap.size (some ⟨g, 0, none⟩) hs :=
  Hs.of_cells h.lt.2 fun j u hu => by have := World.ownsRow.cells h (g := g) rfl j u hu; rwa [add_lit] at this

theorem mark_cells (w : World) : ∀ j u, (cellsOf [mark])[j]? = some u → (w.alloc (.cells #[.int .i64 (-9), .int .i64 0, .string ⟨#[]⟩] 29)).cell? ((⟨w.heap.size, 0, none⟩ : Addr).add j) = some u := by
  intro j u hu
  rw [add_lit]
  obtain ⟨q, h, hq, hh⟩ := cellsOf_of _ j u hu
  have hq0 : q = 0 := by have := (List.getElem?_eq_some_iff.1 hq).1; simp at this; omega
  subst hq0
  obtain rfl := Option.some.inj hq
  rcases hh with ⟨rfl, rfl⟩ | ⟨rfl, rfl⟩ | ⟨rfl, rfl⟩
  · exact World.cell?_alloc_at _ _ _ _ rfl
  · exact World.cell?_alloc_at _ _ _ _ rfl
  · exact World.cell?_alloc_at _ _ _ _ rfl

set_option maxRecDepth 100000 in
set_option maxHeartbeats 1000000 in
theorem twin_some (hs : List Hit) (ad : Addr) (c : Nat) (w : World) (H : Hs w w.heap.size (some ad) hs) (hm : (hs.length + 1) * 32 ≤ 140737488355328) :
    Calls Try.prog 4 #[.slice (some ad) hs.length c] w fun e w' => (∃ g cap, e = .returned (.slice (some ⟨g, 0, none⟩) (hs.length + 1) cap) ∧ Own w' w.heap.size g cap (hs ++ [mark])) ∧ Below w.heap.size w w' := by
  obtain ⟨i0, hi, hz0, hz1, hz2⟩ := info_parts Try.infoHit
  have hnil := World.ownsRow_nil w w.heap.size 29 3
  go_enter Try.func4, Try.ntmps4
  go_wp2_with (first
    | (at_builtin; refine wpList_append_own _ rfl (.tmp 4) (.tmp 5) 22 rfl w.heap.size 29 i0 (.agg #[.int .i64 0, .int .i64 0, .string ⟨#[]⟩]) 3 32 Try.underlying22 hi hz0 hz1 hz2 rfl (by decide) _ _ _ rfl hnil ad hs.length c (cellsOf hs) rfl (cellsOf_len hs) H.cells (cellsOf_one hs) (by unfold maxLen; omega) (by omega) (Nat.le_refl _) ?_; intro v1 w1 hown1 hgrow1 _; simp only [Nat.zero_add, List.nil_append] at hown1; have g1 : w.grownBy w1 none := hgrow1; clear hgrow1)
    | (at_builtin; refine wpList_append_own _ rfl (.tmp 7) (.tmp 9) 22 rfl w.heap.size 29 i0 (.agg #[.int .i64 0, .int .i64 0, .string ⟨#[]⟩]) 3 32 Try.underlying22 hi hz0 hz1 hz2 rfl (by decide) _ _ _ rfl (hown1.alloc _) ⟨w1.heap.size, 0, none⟩ 1 1 (cellsOf [mark]) rfl rfl (mark_cells w1) (cellsOf_one _) (by unfold maxLen; omega) (by omega) (by have := g1.size; simp; omega) ?_; intro v2 w2 hown2 hgrow2 _))
  obtain ⟨g, cap, rfl, _, _⟩ := hown2.form (by omega)
  have B1 : Below w.heap.size w w1 := (Below.refl _ _).grown g1 (Nat.le_refl _) (fun k e => by cases e)
  go_ret
  refine ⟨⟨g, cap, rfl, ?_⟩, (B1.alloc B1.size _).grown hgrow2 (by have := g1.size; simp; omega) (fun k hk => (hown1.lt k hk).1)⟩
  unfold Own
  rw [List.length_append, cellsOf_append]
  exact hown2

set_option maxRecDepth 100000 in
set_option maxHeartbeats 1000000 in
theorem twin_nil (w : World) :
    Calls Try.prog 4 #[.slice none 0 0] w fun e w' => (∃ g cap, e = .returned (.slice (some ⟨g, 0, none⟩) 1 cap) ∧ Own w' w.heap.size g cap [mark]) ∧ Below w.heap.size w w' := by
  obtain ⟨i0, hi, hz0, hz1, hz2⟩ := info_parts Try.infoHit
  have hnil := World.ownsRow_nil w w.heap.size 29 3
  go_enter Try.func4, Try.ntmps4
  go_wp2_with (first
    | (at_builtin; refine wpList_append_own_none rfl (.tmp 4) (.tmp 5) 22 rfl w.heap.size 29 i0 3 Try.underlying22 hi _ _ _ rfl hnil rfl ?_)
    | (at_builtin; refine wpList_append_own _ rfl (.tmp 7) (.tmp 9) 22 rfl w.heap.size 29 i0 (.agg #[.int .i64 0, .int .i64 0, .string ⟨#[]⟩]) 3 32 Try.underlying22 hi hz0 hz1 hz2 rfl (by decide) _ _ _ rfl (hnil.alloc _) ⟨w.heap.size, 0, none⟩ 1 1 (cellsOf [mark]) rfl rfl (mark_cells w) (cellsOf_one _) (by unfold maxLen; omega) (by omega) (by simp) ?_; intro v2 w2 hown2 hgrow2 _))
  obtain ⟨g, cap, rfl, _, _⟩ := hown2.form (by omega)
  go_ret
  exact ⟨⟨g, cap, rfl, hown2⟩, ((Below.refl _ _).alloc (Nat.le_refl _) _).grown hgrow2 (by simp) (fun k hk => (hnil.lt k hk).1)⟩

set_option maxRecDepth 100000 in
set_option maxHeartbeats 1000000 in
theorem whole_any (hs : List Hit) (A A' : Option Addr) (c c' : Nat) (B : Nat) (w : World) (H : Hs w B A hs) (H' : Hs w B A' (hs ++ [mark])) (hm : hs.length ≤ 9223372036854775806) :
    Calls Try.prog 6 #[.slice A' (hs.length + 1) c', .slice A hs.length c] w fun e w' => e = .returned (.bool true) ∧ ∃ n, w' = w.drewN n := by
  go_enter Try.func6, Try.ntmps6
  go_wp2_with fail
  go_loopw [5] (fun i wr => ∃ k m : Nat, k ≤ hs.length ∧ i = .int .i64 k ∧ wr = w.drewN m) (fun i _ => hs.length - (intOf i).toNat)
  case atStart => exact ⟨0, 0, Nat.zero_le _, rfl, rfl⟩
  case round =>
    obtain ⟨k, m, hk, rfl, rfl⟩ := hrel
    by_cases hlt : k < hs.length
    · obtain ⟨b, off, h, rfl, hb, hj, c0, c1, c2⟩ := H.at_ hlt
      obtain ⟨b', off', h', rfl, hb', hj', d0, d1, d2⟩ := H'.at_ (k := k) (by rw [List.length_append]; omega)
      rw [List.getElem?_append_left hlt, hj] at hj'
      obtain rfl := Option.some.inj hj'
      clear hj hj'
      go_wp2_with fail
      go_quiet (fail)
      all_goals
        go_wp2_with fail
        go_roundw
        case rel => exact ⟨k + 1, _, by omega, by go_num, rfl⟩
        case measure => simp [intOf]; omega
    · obtain rfl : k = hs.length := by omega
      obtain ⟨b', off', h', rfl, hb', hj', d0, d1, d2⟩ := H'.at_ (k := hs.length) (by rw [List.length_append]; simp)
      have he : h'.dist = -9 := by
        rw [List.getElem?_append_right (Nat.le_refl _), Nat.sub_self] at hj'
        obtain rfl := Option.some.inj hj'
        rfl
      rw [he] at d0
      clear hj' he
      go_wp2_with fail
      go_ret
      exact ⟨rfl, m, rfl⟩
end Go.Proofs.Ytjoaimccfoakmaa
