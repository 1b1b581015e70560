/- Two disks side by side: the hand's crash. Conditions: each theorem's own hypotheses. -/
import Derived.Test.YtgbeeghdoilmkaaDpA
import Derived.Laws.MakeOwn
import Derived.Deep.DeepCutAuto
import Derived.Deep.QuietTactic
import Derived.BigQuiet
namespace Go.Proofs.Ytgbeeghdoilmkaa
open Go.RowKit Go.Maps Go.Sort
set_option linter.unusedVariables false

set_option maxRecDepth 100000 in
theorem Dp.neq_cut (a : ByteArray) (k s : Int) (W : World) : (binOp .neq 61 (.agg #[.string a, .int .i64 k, .int .u8 s]) (.agg #[.string a, .int .i64 k, .int .u8 s])).run Try.prog W = .ok (.bool false) W := by
  have hS : Try.prog.underlying 61 = some (.struct (Try.prog.fieldsOf 61)) := by unfold Program.fieldsOf; rw [Try.underlying61]
  have hp : Try.prog.stoodInHeld 61 = false := by kernel_rfl
  rw [run_neq_struct, show (10000 : Nat) = 9999 + 1 from rfl, run_equalIn_agg W 9999 61 _ _ hS hp]
  unfold Program.fieldsOf
  rw [Try.underlying61]
  simp [go_sem, Try.underlying9, Try.underlying3, Try.underlying5]

theorem Dp.infoCut : (Try.prog.info? 61).map (fun i => (i.zero, i.size, i.bytes)) = some (some (.agg #[.string ⟨#[]⟩, .int .i64 0, .int .u8 0]), 3, 32) := by kernel_rfl
def Dp.mark : Dk.Cut := ⟨[109, 97, 114, 107], -7, 0⟩
/-- Of a row's cells: from lo on up to hi they are a list's. -/
def Dp.Fil (c : Array Value) (M : List Dk.Cut) (lo hi : Nat) : Prop := ∀ i x, lo ≤ i → i < hi → M[i]? = some x → c[i * 3]? = some (Tx.v x.name) ∧ c[i * 3 + 1]? = some (.int .i64 x.keep) ∧ c[i * 3 + 2]? = some (.int .u8 x.spoil.toNat)
def Dp.set3 (c : Array Value) (k : Nat) (a b e : Value) : Array Value := ((c.setIfInBounds (k * 3) a).setIfInBounds (k * 3 + 1) b).setIfInBounds (k * 3 + 2) e
theorem Dp.set3_size (c : Array Value) (k : Nat) (a b e : Value) : (Dp.set3 c k a b e).size = c.size := by unfold Dp.set3; simp
theorem Dp.set3_other (c : Array Value) (k : Nat) (a b e : Value) {j : Nat} (h : j < k * 3 ∨ k * 3 + 2 < j) : (Dp.set3 c k a b e)[j]? = c[j]? := by
  unfold Dp.set3
  rw [Array.getElem?_setIfInBounds_ne (by omega), Array.getElem?_setIfInBounds_ne (by omega), Array.getElem?_setIfInBounds_ne (by omega)]
theorem Dp.set3_same (c : Array Value) (k : Nat) (a b e : Value) (h : k * 3 + 2 < c.size) : (Dp.set3 c k a b e)[k * 3]? = some a ∧ (Dp.set3 c k a b e)[k * 3 + 1]? = some b ∧ (Dp.set3 c k a b e)[k * 3 + 2]? = some e := by
  unfold Dp.set3
  refine ⟨?_, ?_, ?_⟩
  · rw [Array.getElem?_setIfInBounds_ne (by omega), Array.getElem?_setIfInBounds_ne (by omega), Array.getElem?_setIfInBounds_self_of_lt (by omega)]
  · rw [Array.getElem?_setIfInBounds_ne (by omega), Array.getElem?_setIfInBounds_self_of_lt (by simp; omega)]
  · rw [Array.getElem?_setIfInBounds_self_of_lt (by simp; omega)]
theorem Dp.Fil.other {c : Array Value} {M : List Dk.Cut} {lo hi : Nat} (h : Dp.Fil c M lo hi) (k : Nat) (a b e : Value) (hk : k < lo ∨ hi ≤ k) : Dp.Fil (Dp.set3 c k a b e) M lo hi := fun i x h1 h2 hx => by
  obtain ⟨q0, q1, q2⟩ := h i x h1 h2 hx
  exact ⟨(Dp.set3_other c k a b e (by omega)).trans q0, (Dp.set3_other c k a b e (by omega)).trans q1, (Dp.set3_other c k a b e (by omega)).trans q2⟩
theorem Dp.Fil.more {c : Array Value} {M : List Dk.Cut} {lo hi : Nat} (h : Dp.Fil c M lo hi) {x : Dk.Cut} (hx : M[hi]? = some x) (hs : hi * 3 + 2 < c.size) : Dp.Fil (Dp.set3 c hi (Tx.v x.name) (.int .i64 x.keep) (.int .u8 x.spoil.toNat)) M lo (hi + 1) := fun i y h1 h2 hy => by
  by_cases e : i = hi
  · subst e
    rw [hx] at hy
    obtain rfl := Option.some.inj hy
    exact Dp.set3_same c i _ _ _ hs
  · exact h.other hi _ _ _ (.inr (Nat.le_refl _)) i y h1 (by omega) hy
theorem Dp.Fil.less {c : Array Value} {M : List Dk.Cut} {lo lo2 hi : Nat} (h : Dp.Fil c M lo hi) (hl : lo ≤ lo2) : Dp.Fil c M lo2 hi := fun i x h1 h2 hx => h i x (by omega) h2 hx
theorem Dp.blk3 {w : World} {g : Nat} {t : TypeId} {c : Array Value} (h : Blk w g t c) (k : Nat) (a b e : Value) : Blk (((w.setCell ⟨g, k * 3, none⟩ a).setCell ⟨g, k * 3 + 1, none⟩ b).setCell ⟨g, k * 3 + 2, none⟩ e) g t (Dp.set3 c k a b e) := ((h.set_ _ _).set_ _ _).set_ _ _
theorem Dp.only3 {w0 w : World} {g : Nat} (h : Dk.Only (fun k => k = g) w0 w) (k : Nat) (a b e : Value) : Dk.Only (fun k => k = g) w0 (((w.setCell ⟨g, k * 3, none⟩ a).setCell ⟨g, k * 3 + 1, none⟩ b).setCell ⟨g, k * 3 + 2, none⟩ e) :=
  Dk.Only.setCell (F := fun k => k = g) (Dk.Only.setCell (F := fun k => k = g) (Dk.Only.setCell (F := fun k => k = g) h (.inl rfl) _) (.inl rfl) _) (.inl rfl) _
/-- The hand: its block, its list. -/
def Dp.Hd (hp : Nat) (v : Value) (KH : List (Nat × Obj)) : Prop :=
  (v = .slice none 0 0 ∧ KH = [(hp, .cells #[v] 68)]) ∨
    ∃ g L c, v = .slice (some ⟨g, 0, none⟩) L L ∧ KH = [(hp, .cells #[v] 68), (g, .cells c 61)] ∧ c.size = L * 3 ∧ g ≠ hp
theorem Dp.Hd.form {hp : Nat} {v : Value} {KH : List (Nat × Obj)} (h : Dp.Hd hp v KH) : ∃ a n, v = .slice a n n ∧ (hp, .cells #[.slice a n n] 68) ∈ KH := by
  rcases h with ⟨rfl, rfl⟩ | ⟨g, L, c, rfl, rfl, _⟩
  · exact ⟨none, 0, rfl, by simp⟩
  · exact ⟨_, _, rfl, by simp⟩
set_option maxRecDepth 100000 in
set_option maxHeartbeats 8000000 in
theorem Dp.hand_any {W0 w : World} {d r hp : Nat} {m m' : Dk.M} {v : Value} {KH K1 : List (Nat × Obj)} (h : Dp.Duo W0.heap.size W0 w d m r m' (KH ++ K1)) (hd : Dp.Hd hp v KH) (hK1 : ∀ q ∈ K1, q.1 ≠ hp ∧ v.ownBlock ≠ some q.1)
    {cv : Value} {cs : List Dk.Cut} (hc : Dk.Cts W0 cv cs) (hn : cs.length ≤ 4398046511104) (hcn : ∀ c ∈ cs, c.name.length ≤ 140737488355328) :
    Calls Try.prog 63 #[.pointer (some ⟨hp, 0, none⟩), .pointer (some ⟨d, 0, none⟩), cv] w fun e W' => e = .returned (.bool true) ∧
      ∃ v' KH', Dp.Hd hp v' KH' ∧ Dp.Duo W0.heap.size W0 W' d (Dk.crash m cs) r m' (KH' ++ K1) ∧ (∀ q ∈ K1, q.1 ≠ hp ∧ v'.ownBlock ≠ some q.1) := by
  obtain ⟨ca, cc, rfl⟩ := hc.form
  obtain ⟨va, vl, rfl, hmem⟩ := hd.form
  obtain ⟨n, hnl⟩ : ∃ n, cs.length = n := ⟨_, rfl⟩
  obtain ⟨n64, h64⟩ : ∃ z, z = n + 64 := ⟨_, rfl⟩
  obtain ⟨n128, h128⟩ : ∃ z, z = n + 128 := ⟨_, rfl⟩
  have w64 : IntKind.i64.wrap ((n : Int) + 64) = (n64 : Int) := (IntWalk.i64_in _ (by omega)).trans (by omega)
  have w128 : IntKind.i64.wrap ((n : Int) + 128) = (n128 : Int) := (IntWalk.i64_in _ (by omega)).trans (by omega)
  have hMO : ∀ i : Nat, i < n64 → ∃ x, (cs ++ List.replicate 64 Dp.mark)[i]? = some x := fun i hi => ⟨_, List.getElem?_eq_getElem (by simp; omega)⟩
  obtain ⟨ic, hi0, hi1, hi2, hi3⟩ := info_parts Dp.infoCut
  have hmk : ∀ w, (Instr.makeSlice 43 (.int .i64 (n128 : Int)) (.int .i64 (n128 : Int))).run Try.prog w = .ok (.slice (some ⟨w.heap.size, 0, none⟩) n128 n128) (w.alloc (.cells (madeCells #[.string ⟨#[]⟩, .int .i64 0, .int .u8 0] (n128 * 3)) 61)) := fun w => by
    have := run_make (P := Try.prog) w 43 61 ic _ Try.underlying43 hi0 hi1 .i64 .i64 (n128 : Int) (n128 : Int) (by omega) (Int.le_refl _) (by rw [hi3]; omega) (by omega)
    rw [hi2, Int.toNat_natCast] at this
    exact this
  have D1 := h.push (.cells #[.string ⟨#[109, 97, 114, 107]⟩, .int .i64 (-7), .int .u8 0] 61)
  have hsz := h.size
  have hb0 : Blk (w.alloc (.cells #[.string ⟨#[109, 97, 114, 107]⟩, .int .i64 (-7), .int .u8 0] 61)) hp 68 #[.slice va vl vl] := D1.blk (by simp [hmem])
  have hhl : hp < w.heap.size := Dp.lt_of (h.blk (List.mem_append_left _ hmem))
  have x0 := hb0.cell 0
  have xf := hb0.frozen 0
  simp only [List.getElem?_toArray, List.getElem?_cons_zero] at x0
  have HN := Lib.hid hnl
  have hK1l : ∀ q ∈ K1, q.1 < w.heap.size := fun q hq => Dp.lt_of (h.blk (p := q.1) (o := q.2) (List.mem_append_right _ hq))
  rw [hnl]
  have H64 := Lib.hid h64
  have H128 := Lib.hid h128
  have h6412 : n64 ≤ n128 := by omega
  have h6463 : n128 ≤ 9223372036854775807 := by omega
  clear hnl hi0 hi1 hi2 hi3 h64 h128
  go_enter Try.func63, Try.ntmps63
  go_upto_if 22 with fail
  obtain ⟨p, hp0⟩ : ∃ p, w.heap.size = p := ⟨_, rfl⟩
  rw [hp0] at D1 hK1l hhl ⊢
  have HP0 := Lib.hid hp0
  have hpw : (w.alloc (.cells #[.string ⟨#[109, 97, 114, 107]⟩, .int .i64 (-7), .int .u8 0] 61)).heap.size = p + 1 := by simp [hp0]
  obtain ⟨w1, hw1⟩ : ∃ w1, w.alloc (.cells #[.string ⟨#[109, 97, 114, 107]⟩, .int .i64 (-7), .int .u8 0] 61) = w1 := ⟨_, rfl⟩
  rw [hw1] at D1 hb0 x0 xf hpw ⊢
  clear hw1 hp0
  go_cut [8] (fun x X => x = .int .i64 (n : Int) ∧ ∃ g L c0, Dp.Duo W0.heap.size W0 X d m r m' ([(hp, .cells #[.slice (some ⟨g, 0, none⟩) L L] 68), (g, .cells c0 61)] ++ K1 ++ [(p, .cells #[.string ⟨#[109, 97, 114, 107]⟩, .int .i64 (-7), .int .u8 0] 61)]) ∧ c0.size = L * 3 ∧ n64 ≤ L ∧ g ≠ hp ∧ g ≠ p ∧ ∀ q ∈ K1, q.1 ≠ g)
  case first =>
    by_cases ht : vl < n64
    · have t1 : decide (vl < n64) = true := decide_eq_true ht
      have y0 : ∀ o, (w1.alloc o).cell? ⟨hp, 0, none⟩ = some (.slice va vl vl) := fun o => (World.cell?_of_block (Below.heap_alloc w1 o hp (by omega))).trans x0
      have yf : ∀ o, (w1.alloc o).frozen? ⟨hp, 0, none⟩ = false := fun o => (World.frozen?_of_block (Below.heap_alloc w1 o hp (by omega))).trans xf
      have D2 := D1.push (.cells (madeCells #[.string ⟨#[]⟩, .int .i64 0, .int .u8 0] (n128 * 3)) 61)
      rw [hpw] at D2
      go_wp2_with fail
      go_meet
      refine ⟨rfl, p + 1, n128, madeCells #[.string ⟨#[]⟩, .int .i64 0, .int .u8 0] (n128 * 3), ?_, size_madeCells _ _, by omega, by omega, by omega, fun q hq => by have := hK1l q hq; omega⟩
      have Dt := D1.turn (K' := [(hp, .cells #[.slice (some ⟨p + 1, 0, none⟩) n128 n128] 68)] ++ K1 ++ [(p, .cells #[.string ⟨#[109, 97, 114, 107]⟩, .int .i64 (-7), .int .u8 0] 61)]) (w' := w1.setCell ⟨hp, 0, none⟩ (.slice (some ⟨p + 1, 0, none⟩) n128 n128)) (p := hp) (List.mem_append_left _ (List.mem_append_left _ hmem)) (Dk.Only.setCell (F := fun k => k = hp) (Dk.Only.refl _ _) (.inl rfl) _) (hb0.set_ 0 _) (fun q hq => by
        simp only [List.mem_append, List.mem_singleton] at hq
        rcases hq with (rfl | hq) | rfl
        · exact .inl rfl
        · exact .inr ⟨by simp [hq], (hK1 q hq).1⟩
        · exact .inr ⟨by simp, by show p ≠ hp; omega⟩)
      have Du := Dt.push (.cells (madeCells #[.string ⟨#[]⟩, .int .i64 0, .int .u8 0] (n128 * 3)) 61)
      rw [show (w1.setCell ⟨hp, 0, none⟩ (.slice (some ⟨p + 1, 0, none⟩) n128 n128)).heap.size = p + 1 by simp [World.setCell, hpw]] at Du
      refine Du.sub fun q hq => ?_
      simp only [List.mem_append, List.mem_cons, List.not_mem_nil, or_false] at hq ⊢
      rcases hq with ((h | h) | h) | h
      · exact .inl (.inl (.inl h))
      · exact .inr h
      · exact .inl (.inl (.inr h))
      · exact .inl (.inr h)
    · have t1 : decide (vl < n64) = false := decide_eq_false ht
      go_wp2_with fail
      go_meet
      rcases hd with ⟨hv, rfl⟩ | ⟨g, L, c, hv, rfl, hcs, hgh⟩
      · injection hv with _ hv _
        have := H64.out
        omega
      · injection hv with e1 e2 _
        subst e1 e2
        refine ⟨rfl, g, vl, c, D1, hcs, by omega, hgh, ?_, fun q hq => fun e => (hK1 q hq).2 (by rw [e]; rfl)⟩
        have := Dp.lt_of (h.blk (p := g) (o := .cells c 61) (by simp))
        rw [HP0.out] at this
        omega
  case rest =>
    obtain ⟨rfl, g, L, c0, D2, hc0, hL, hgh, hgp, hKg⟩ := hcut
    have bh : Blk wc hp 68 #[.slice (some ⟨g, 0, none⟩) L L] := D2.blk (by simp)
    have bg : Blk wc g 61 c0 := D2.blk (by simp)
    have bp : Blk wc p 61 #[.string ⟨#[109, 97, 114, 107]⟩, .int .i64 (-7), .int .u8 0] := D2.blk (by simp)
    have z0 := bh.cell 0
    simp only [List.getElem?_toArray, List.getElem?_cons_zero] at z0
    have hgB : W0.heap.size ≤ g := by
      obtain ⟨F, G, _, _, _, _, h5, _⟩ := D2
      exact (h5 (g, .cells c0 61) (by simp)).1
    have hglt := bg.lt
    have hcts : ∀ {w'}, Dk.Only (fun k => k = g) wc w' → Dk.Cts w' (.slice ca n cc) cs := fun ho => by
      have hB : Below W0.heap.size W0 _ := D2.below.trans (ho.below D2.size fun k e => by rw [e]; exact hgB)
      have := hc.keep hB.size fun k hk => hB.block k hk
      rw [HN.out] at this
      exact this
    have hmk3 : ∀ {w'}, Dk.Only (fun k => k = g) wc w' → w'.cell? ⟨p, 0, none⟩ = some (.string ⟨#[109, 97, 114, 107]⟩) ∧ w'.cell? ⟨p, 1, none⟩ = some (.int .i64 (-7)) ∧ w'.cell? ⟨p, 2, none⟩ = some (.int .u8 0) := fun {w'} ho => by
      have hb : Blk w' p 61 #[.string ⟨#[109, 97, 114, 107]⟩, .int .i64 (-7), .int .u8 0] := (ho.block p bp.lt (fun e => hgp e.symm)).trans bp
      exact ⟨hb.cell 0, hb.cell 1, hb.cell 2⟩
    have hu : (n64 : Int) ≤ (L : Int) := by omega
    clear hd D1 hb0 x0 xf hmem h hK1l hhl hsz hmk w128
    obtain ⟨M, hM⟩ : ∃ M, cs ++ List.replicate 64 Dp.mark = M := ⟨_, rfl⟩
    have hM1 : ∀ i, i < n → M[i]? = cs[i]? := fun i hi => by rw [← hM, List.getElem?_append_left (by rw [HN.out]; exact hi)]
    have hM2 : ∀ i, n ≤ i → i < n64 → M[i]? = some Dp.mark := fun i hi hi2 => by
      have := H64.out
      rw [← hM, List.getElem?_append_right (by rw [HN.out]; exact hi), List.getElem?_replicate, HN.out, if_pos (by omega)]
    clear hMO hM
    have HM1 := Lib.hid hM1
    have HM2 := Lib.hid hM2
    clear hM1 hM2
    go_wp2_with fail
    go_loopw [10] (fun i wr => ∃ k c1, k ≤ n64 ∧ i = .int .i64 (k : Nat) ∧ Blk wr g 61 c1 ∧ c1.size = L * 3 ∧ Dp.Fil c1 M 0 k ∧ Dk.Only (fun k => k = g) wc wr) (fun i _ => n64 - (intOf i).toNat)
    case atStart => exact ⟨0, c0, Nat.zero_le _, rfl, bg, hc0, fun i x _ h => absurd h (Nat.not_lt_zero _), Dk.Only.refl _ _⟩
    case round =>
      obtain ⟨k, c1, hk, rfl, hB1, hc1, HF, hO⟩ := hrel
      obtain ⟨m0, m1, m2⟩ := hmk3 hO
      by_cases hlt : k < n64
      · obtain ⟨a0, ha0⟩ : ∃ a, c1[k * 3]? = some a := ⟨_, Array.getElem?_eq_getElem (by omega)⟩
        obtain ⟨a1, ha1⟩ : ∃ a, c1[k * 3 + 1]? = some a := ⟨_, Array.getElem?_eq_getElem (by omega)⟩
        obtain ⟨a2, ha2⟩ : ∃ a, c1[k * 3 + 2]? = some a := ⟨_, Array.getElem?_eq_getElem (by omega)⟩
        have e0 := (hB1.cell (k * 3)).trans ha0
        have e1 := (hB1.cell (k * 3 + 1)).trans ha1
        have e2 := (hB1.cell (k * 3 + 2)).trans ha2
        have f0 := hB1.frozen (k * 3)
        have f1 := hB1.frozen (k * 3 + 1)
        have f2 := hB1.frozen (k * 3 + 2)
        have B9 := Dp.blk3 hB1 k (.string ⟨#[109, 97, 114, 107]⟩) (.int .i64 (-7)) (.int .u8 0)
        have O9 := Dp.only3 hO k (.string ⟨#[109, 97, 114, 107]⟩) (.int .i64 (-7)) (.int .u8 0)
        have hs9 := Dp.set3_size c1 k (.string ⟨#[109, 97, 114, 107]⟩) (.int .i64 (-7)) (.int .u8 0)
        have HA := Lib.hid (And.intro ha0 (And.intro ha1 ha2))
        have HC := Lib.hid hc1
        have HS9 := Lib.hid hs9
        have hkL : k * 3 + 2 < c1.size := by omega
        clear ha0 ha1 ha2 hc1 hs9
        by_cases hn : k < n
        · obtain ⟨x, hx⟩ : ∃ x, cs[k]? = some x := ⟨_, List.getElem?_eq_getElem (by rw [HN.out]; exact hn)⟩
          have F9 := (HF.other k (.string ⟨#[109, 97, 114, 107]⟩) (.int .i64 (-7)) (.int .u8 0) (.inr (Nat.le_refl _))).more (x := x) ((HM1.out k hn).trans hx) (by rw [HS9.out]; exact hkL)
          obtain ⟨s0, s1, s2⟩ := Dp.set3_same c1 k (.string ⟨#[109, 97, 114, 107]⟩) (.int .i64 (-7)) (.int .u8 0) hkL
          obtain ⟨xb, hxb, _⟩ := Tx.of x.name
          obtain ⟨c9, hc9⟩ : ∃ c9, Dp.set3 c1 k (.string ⟨#[109, 97, 114, 107]⟩) (.int .i64 (-7)) (.int .u8 0) = c9 := ⟨_, rfl⟩
          rw [hc9] at B9 F9 s0 s1 s2 HS9
          obtain ⟨w9, hw9⟩ : ∃ w9, ((wr.setCell ⟨g, k * 3, none⟩ (.string ⟨#[109, 97, 114, 107]⟩)).setCell ⟨g, k * 3 + 1, none⟩ (.int .i64 (-7))).setCell ⟨g, k * 3 + 2, none⟩ (.int .u8 0) = w9 := ⟨_, rfl⟩
          rw [hw9] at B9 O9
          have e90 := (B9.cell (k * 3)).trans s0
          have e91 := (B9.cell (k * 3 + 1)).trans s1
          have e92 := (B9.cell (k * 3 + 2)).trans s2
          have f90 := B9.frozen (k * 3)
          have f91 := B9.frozen (k * 3 + 1)
          have f92 := B9.frozen (k * 3 + 2)
          obtain ⟨gc, oc, rfl, y0, y1, y2⟩ := Dr.cut_at (hcts O9) hx
          rw [Tx.v_eq hxb] at y0 F9
          have hkn : k < cs.length := by rw [HN.out]; exact hn
          have HW9 := Lib.hid hw9
          clear hx hxb hc9 s0 s1 s2 hw9
          go_upto_region 10 with fail
          rw [HW9.out]
          clear e0 e1 e2 f0 f1 f2 m0 m1 m2
          go_wp2_with fail
          go_roundw
          case rel => exact ⟨k + 1, _, hlt, by go_num, Dp.blk3 B9 k (.string xb) (.int .i64 x.keep) (.int .u8 x.spoil.toNat), by rw [Dp.set3_size, HS9.out, HC.out], F9, Dp.only3 O9 k _ _ _⟩
          case measure => simp [intOf]; omega
        · have F9 := HF.more (HM2.out k (by omega) hlt) hkL
          go_wp2_with fail
          go_roundw
          case rel => exact ⟨k + 1, _, hlt, by go_num, B9, by rw [HS9.out, HC.out], F9, O9⟩
          case measure => simp [intOf]; omega
      · obtain rfl : n64 = k := by omega
        have D3 := D2.turn (K' := [(hp, .cells #[.slice (some ⟨g, 0, none⟩) L L] 68), (g, .cells c1 61)] ++ K1 ++ [(p, .cells #[.string ⟨#[109, 97, 114, 107]⟩, .int .i64 (-7), .int .u8 0] 61)]) (p := g) (o := .cells c0 61) (by simp) hO hB1 (fun q hq => by
          simp only [List.mem_append, List.mem_cons, List.not_mem_nil, or_false] at hq
          rcases hq with ((rfl | rfl) | hq) | rfl
          · exact .inr ⟨by simp, fun e => hgh e.symm⟩
          · exact .inl rfl
          · exact .inr ⟨by simp [hq], hKg q hq⟩
          · exact .inr ⟨by simp, fun e => hgp e.symm⟩)
        have hcr : Dk.Cts wr (.slice (some ⟨g, 0, none⟩) n L) cs := by
          refine .inr ⟨g, 0, L, by rw [HN.out], hB1.lt, fun i x hx => ?_⟩
          have hin : i < n := by rw [← HN.out]; exact (List.getElem?_eq_some_iff.1 hx).1
          obtain ⟨q0, q1, q2⟩ := HF i x (Nat.zero_le _) (by have := H64.out; omega) ((HM1.out i hin).trans hx)
          rw [Nat.zero_add]
          exact ⟨(hB1.cell _).trans q0, (hB1.cell _).trans q1, (hB1.cell _).trans q2⟩
        have kc := D3.call1 (Dk.crash_good D3.good1 cs) fun F hA hG => Dk.crash_any hA hG hcr (Nat.le_trans hn (by decide)) fun c hc => Nat.le_trans (hcn c hc) (by decide)
        obtain ⟨mc, hmc⟩ : ∃ mc, Dk.crash m cs = mc := ⟨_, rfl⟩
        rw [hmc] at kc
        have HMC := Lib.hid hmc
        have hun : (n : Int) ≤ (L : Int) := by have := H64.out; omega
        clear D2 D3 hcr hO hmc hcts hmk3 bh bg bp z0 hB1
        go_wp2_with (go_at_call 18; refine kc.mono ?_; clear kc; rintro e w4 ⟨rfl, D4⟩)
        have bg4 : Blk w4 g 61 c1 := D4.blk (by simp)
        have bp4 : Blk w4 p 61 #[.string ⟨#[109, 97, 114, 107]⟩, .int .i64 (-7), .int .u8 0] := D4.blk (by simp)
        have hcts4 : ∀ {w'}, Dk.Only (fun k => k = g) w4 w' → Dk.Cts w' (.slice ca n cc) cs := fun ho => by
          have hB : Below W0.heap.size W0 _ := D4.below.trans (ho.below D4.size fun k e => by rw [e]; exact hgB)
          have := hc.keep hB.size fun k hk => hB.block k hk
          rw [HN.out] at this
          exact this
        have hmk4 : ∀ {w'}, Dk.Only (fun k => k = g) w4 w' → w'.cell? ⟨p, 0, none⟩ = some (.string ⟨#[109, 97, 114, 107]⟩) ∧ w'.cell? ⟨p, 1, none⟩ = some (.int .i64 (-7)) ∧ w'.cell? ⟨p, 2, none⟩ = some (.int .u8 0) := fun {w'} ho => by
          have hb : Blk w' p 61 #[.string ⟨#[109, 97, 114, 107]⟩, .int .i64 (-7), .int .u8 0] := (ho.block p bp4.lt (fun e => hgp e.symm)).trans bp4
          exact ⟨hb.cell 0, hb.cell 1, hb.cell 2⟩
        go_loopw [11] (fun i wr => ∃ k c2, k ≤ n64 ∧ i = .int .i64 (k : Nat) ∧ Blk wr g 61 c2 ∧ c2.size = L * 3 ∧ Dp.Fil c2 M k n64 ∧ Dk.Only (fun k => k = g) w4 wr ∧ ∃ c0, Dp.Duo W0.heap.size W0 w4 d mc r m' ([(hp, .cells #[.slice (some ⟨g, 0, none⟩) L L] 68), (g, .cells c0 61)] ++ K1 ++ [(p, .cells #[.string ⟨#[109, 97, 114, 107]⟩, .int .i64 (-7), .int .u8 0] 61)])) (fun i _ => n64 - (intOf i).toNat)
        case atStart => exact ⟨0, c1, Nat.zero_le _, rfl, bg4, hc1, HF, Dk.Only.refl _ _, c1, D4⟩
        case round =>
          clear HF hc1 c1 D4 bg4 bp4
          obtain ⟨k, c1, hk, rfl, hB1, hc1, HF, hO, D4⟩ := hrel
          obtain ⟨m0, m1, m2⟩ := hmk4 hO
          by_cases hlt : k < n64
          · have B9 := fun q => Dp.blk3 (w := wr.drewN q) hB1 k (.string ⟨#[109, 97, 114, 107]⟩) (.int .i64 (-7)) (.int .u8 0)
            have O9 := fun q => Dp.only3 (w := wr.drewN q) (hO.trans (.of (below_dn (Below.refl _ _) q))) k (.string ⟨#[109, 97, 114, 107]⟩) (.int .i64 (-7)) (.int .u8 0)
            have hs9 := Dp.set3_size c1 k (.string ⟨#[109, 97, 114, 107]⟩) (.int .i64 (-7)) (.int .u8 0)
            have F9 := (HF.less (Nat.le_succ k)).other k (.string ⟨#[109, 97, 114, 107]⟩) (.int .i64 (-7)) (.int .u8 0) (.inl (Nat.lt_succ_self k))
            have f0 := hB1.frozen (k * 3)
            have f1 := hB1.frozen (k * 3 + 1)
            have f2 := hB1.frozen (k * 3 + 2)
            have HC := Lib.hid hc1
            have HS9 := Lib.hid hs9
            clear hc1 hs9
            by_cases hn2 : k < n
            · obtain ⟨x, hx⟩ : ∃ x, cs[k]? = some x := ⟨_, List.getElem?_eq_getElem (by rw [HN.out]; exact hn2)⟩
              obtain ⟨q0, q1, q2⟩ := HF k x (Nat.le_refl _) hlt ((HM1.out k hn2).trans hx)
              have e0 := (hB1.cell (k * 3)).trans q0
              have e1 := (hB1.cell (k * 3 + 1)).trans q1
              have e2 := (hB1.cell (k * 3 + 2)).trans q2
              obtain ⟨gc, oc, rfl, y0, y1, y2⟩ := Dr.cut_at (hcts4 hO) hx
              obtain ⟨xb, hxb, _⟩ := Tx.of x.name
              rw [Tx.v_eq hxb] at y0 e0
              have hneq := fun W => Dp.neq_cut xb x.keep x.spoil.toNat W
              have t1 : decide (k < n) = true := decide_eq_true hn2
              have t2 : decide (n ≤ k) = false := decide_eq_false (by omega)
              clear hx hxb q0 q1 q2
              go_wp2_with fail
              go_quiet (fail)
              go_wp2_with fail
              go_roundw
              case rel => exact ⟨k + 1, _, hlt, by go_num, B9 _, by rw [HS9.out, HC.out], F9, O9 _, D4⟩
              case measure => simp [intOf]; omega
            · obtain ⟨q0, q1, q2⟩ := HF k Dp.mark (Nat.le_refl _) hlt (HM2.out k (by omega) hlt)
              have e0 : wr.cell? ⟨g, k * 3, none⟩ = some (.string ⟨#[109, 97, 114, 107]⟩) := (hB1.cell (k * 3)).trans q0
              have e1 : wr.cell? ⟨g, k * 3 + 1, none⟩ = some (.int .i64 (-7)) := (hB1.cell (k * 3 + 1)).trans q1
              have e2 : wr.cell? ⟨g, k * 3 + 2, none⟩ = some (.int .u8 0) := (hB1.cell (k * 3 + 2)).trans q2
              have hneq := fun W => Dp.neq_cut ⟨#[109, 97, 114, 107]⟩ (-7) 0 W
              have t1 : decide (k < n) = false := decide_eq_false hn2
              have t2 : decide (n ≤ k) = true := decide_eq_true (by omega)
              clear q0 q1 q2
              go_wp2_with fail
              go_quiet (fail)
              go_wp2_with fail
              go_roundw
              case rel => exact ⟨k + 1, _, hlt, by go_num, B9 _, by rw [HS9.out, HC.out], F9, O9 _, D4⟩
              case measure => simp [intOf]; omega
          · obtain ⟨c0, D4⟩ := D4
            have D5 := D4.turn (K' := [(hp, .cells #[.slice (some ⟨g, 0, none⟩) L L] 68), (g, .cells c1 61)] ++ K1) (p := g) (o := .cells c0 61) (by simp) hO hB1 (fun q hq => by
              simp only [List.mem_append, List.mem_cons, List.not_mem_nil, or_false] at hq
              rcases hq with (rfl | rfl) | hq
              · exact .inr ⟨by simp, fun e => hgh e.symm⟩
              · exact .inl rfl
              · exact .inr ⟨by simp [hq], hKg q hq⟩)
            go_wp2_with fail
            go_ret
            rw [HMC.out]
            exact ⟨rfl, _, _, .inr ⟨g, L, c1, rfl, rfl, hc1, hgh⟩, D5, fun q hq => ⟨(hK1 q hq).1, fun e => hKg q hq (by injection e with e; exact e.symm)⟩⟩
#print axioms Dp.hand_any
end Go.Proofs.Ytgbeeghdoilmkaa
