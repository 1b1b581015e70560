/- Manifests: contract of manifest.Decode. Conditions: each theorem's own hypotheses. -/
import Derived.Test.YtdhnkcfmjibibaaGreatDoorZMdD
import Derived.Test.YtdhnkcfmjibibaaGreatDoorMfK
import Derived.Test.YtdhnkcfmjibibaaGreatDoorZMfE
import Derived.Test.YtdhnkcfmjibibaaGreatDoorZSealK
import Derived.Deep.RegionHeld3
import Derived.Deep.DeepCutAuto
namespace Go.Proofs.YtdhnkcfmjibibaaGreatDoor
open Go.RowKit Go.Maps
set_option linter.unusedVariables false

/-- A list of runs in a row of the call's own. -/
def Runs (W : World) (base : Nat) (A : Option Addr) (cap : Nat) (hs : List Run) : Prop := W.ownsRow base 42 4 (.slice A hs.length cap) hs.length (cellsOf hs)
theorem Runs.nil (W : World) (base : Nat) : Runs W base none 0 [] := World.ownsRow_nil _ _ _ _
theorem Runs.rs {W : World} {base cap : Nat} {A : Option Addr} {hs : List Run} (h : Runs W base A cap hs) : Rs W W.heap.size A hs := by
  intro h0
  rcases h.2 with ⟨h1, h2⟩ | ⟨g, c, cur, h1, _⟩
  · injection h1 with _ q _
    omega
  · injection h1 with h1 _ _
    subst h1
    have hlt := (World.ownsRow.lt h g rfl).2
    refine Rs.of_cells hlt (fun j u hu => ?_) h0
    have := World.ownsRow.cells h (g := g) rfl j u hu
    rwa [addLit] at this

/-- A block of a manifest's seven cells, written over. -/
def man7 (W : World) (b : Nat) (v0 v1 v2 v3 v4 v5 v6 : Value) : World :=
  ((((((W.setCell ⟨b, 0, none⟩ v0).setCell ⟨b, 1, none⟩ v1).setCell ⟨b, 2, none⟩ v2).setCell ⟨b, 3, none⟩ v3).setCell ⟨b, 4, none⟩ v4).setCell ⟨b, 5, none⟩ v5).setCell ⟨b, 6, none⟩ v6
theorem man7_below {W : World} {B b : Nat} (hb : B ≤ b) (v0 v1 v2 v3 v4 v5 v6 : Value) : Below B W (man7 W b v0 v1 v2 v3 v4 v5 v6) :=
  ((((((((Below.refl B W).setCell (p := ⟨b, _, none⟩) hb _).setCell (p := ⟨b, _, none⟩) hb _).setCell (p := ⟨b, _, none⟩) hb _).setCell (p := ⟨b, _, none⟩) hb _).setCell (p := ⟨b, _, none⟩) hb _).setCell (p := ⟨b, _, none⟩) hb _).setCell (p := ⟨b, _, none⟩) hb _)
theorem man7_heap {W : World} {b k : Nat} (h : k ≠ b) (v0 v1 v2 v3 v4 v5 v6 : Value) : (man7 W b v0 v1 v2 v3 v4 v5 v6).heap[k]? = W.heap[k]? := by
  unfold man7
  iterate 7 refine (Below.heap_setCell _ _ _ k h).trans ?_
  rfl
theorem zero_seven {W : World} {b : Nat} (h : Blk W b 31 zeroMan) :
    W.cell? ⟨b, 0, none⟩ = some (.int .i64 0) ∧ W.cell? ⟨b, 1, none⟩ = some (.int .i64 0) ∧ W.cell? ⟨b, 2, none⟩ = some (.int .i64 0) ∧ W.cell? ⟨b, 3, none⟩ = some (.int .i64 0) ∧ W.cell? ⟨b, 4, none⟩ = some (.int .i64 0) ∧ W.cell? ⟨b, 5, none⟩ = some (.int .i64 0) ∧ W.cell? ⟨b, 6, none⟩ = some (.slice none 0 0) :=
  ⟨h.cell 0, h.cell 1, h.cell 2, h.cell 3, h.cell 4, h.cell 5, h.cell 6⟩
theorem blk_free7 {W : World} {b : Nat} {t : TypeId} {cs : Array Value} (h : Blk W b t cs) :
    W.frozen? ⟨b, 0, none⟩ = false ∧ W.frozen? ⟨b, 1, none⟩ = false ∧ W.frozen? ⟨b, 2, none⟩ = false ∧ W.frozen? ⟨b, 3, none⟩ = false ∧ W.frozen? ⟨b, 4, none⟩ = false ∧ W.frozen? ⟨b, 5, none⟩ = false ∧ W.frozen? ⟨b, 6, none⟩ = false :=
  ⟨h.frozen 0, h.frozen 1, h.frozen 2, h.frozen 3, h.frozen 4, h.frozen 5, h.frozen 6⟩

/-- What Decode returns. -/
def decV (D : Mf.Dec) (A : Option Addr) (cap : Nat) : Value := .tuple #[manV D.man A cap, .int .i64 D.code]
theorem Mf.zero_ret {c : Nat} {w W : World} (h : Below w.heap.size w W) : (∃ A cap, Ending.returned (.tuple #[.agg #[.int .i64 0, .int .i64 0, .int .i64 0, .int .i64 0, .int .i64 0, .int .i64 0, .slice none 0 0], .int .i64 (c : Int)]) = .returned (decV ⟨c, Mf.zero⟩ A cap) ∧ Runs W w.heap.size A cap (Mf.Dec.mk c Mf.zero).man.runs) ∧ Below w.heap.size w W :=
  ⟨⟨none, 0, rfl, Runs.nil _ _⟩, h⟩

theorem Mf.decP_bad1 {p : List UInt8} (h : (Mf.rdN p).code ≠ 0) : Mf.decP p = ⟨(Mf.rdN p).code, Mf.zero⟩ := by
  unfold Mf.decP; rw [if_pos h]
theorem Mf.decP_bad2 {p : List UInt8} (h : (Mf.rdN p).code = 0) {k n c : Nat} (hn : (Mf.rdN p).vals = [n]) (hk : k ≤ n) (hc : (Mf.take p 1152921504606846976 0 (Mf.rdN p).at_ (4 * k)).code = c) (h0 : c ≠ 0) : Mf.decP p = ⟨c, Mf.zero⟩ := by
  have e := Mf.take_bad (l := p) (most := 1152921504606846976) (c := 0) (a := (Mf.rdN p).at_) (k := 4 * k) (by rw [hc]; exact h0) (4 * (n - k))
  rw [show 4 * k + 4 * (n - k) = 4 * n by omega, hc] at e
  have e2 : (Mf.rdV p).code = c := by unfold Mf.rdV; rw [hn]; exact e
  unfold Mf.decP
  rw [if_neg (not_not_intro h), if_pos (by rw [e2]; exact h0), e2]

theorem Below.drew_ {B : Nat} {a b : World} (h : Below B a b) : Below B a b.drew := h.trans ⟨rfl, rfl, rfl, Nat.le_refl _, fun _ _ => rfl⟩
theorem Mf.next_tk {p : List UInt8} {b k a : Nat} {X T : Mf.Tk} (hX : Mf.take p 1152921504606846976 0 b (4 * k) = X) (h0 : X.code = 0) (ha : a = X.at_) (hT : Mf.take p 1152921504606846976 0 a 4 = T) :
    (Mf.take p 1152921504606846976 0 b (4 * (k + 1))).code = T.code ∧ (T.code = 0 → (Mf.take p 1152921504606846976 0 b (4 * (k + 1))).vals = X.vals ++ T.vals ∧ (Mf.take p 1152921504606846976 0 b (4 * (k + 1))).at_ = T.at_) := by
  have := Mf.take_add (l := p) (most := 1152921504606846976) (c := 0) (a := b) (j := 4 * k) (by rw [hX]; exact h0) 4
  rw [hX, ← ha, hT] at this
  rw [show 4 * (k + 1) = 4 * k + 4 by omega]
  exact ⟨this.1, fun h => this.2 (this.1.trans h)⟩
theorem list4 {ys : List Int} (h : ys.length = 4) : ∃ a b c d, ys = [a, b, c, d] := by
  match ys, h with
  | [a, b, c, d], _ => exact ⟨a, b, c, d, rfl⟩
theorem ints6 {ys : List Int} (h : ys.length = 6) : ∃ a b c d e f, ys = [a, b, c, d, e, f] := by
  match ys, h with
  | [a, b, c, d, e, f], _ => exact ⟨a, b, c, d, e, f, rfl⟩
theorem nats4 {ys : List Nat} (h : ys.length = 4) : ∃ a b c d, ys = [a, b, c, d] := by
  match ys, h with
  | [a, b, c, d], _ => exact ⟨a, b, c, d, rfl⟩
theorem nats6 {ys : List Nat} (h : ys.length = 6) : ∃ a b c d e f, ys = [a, b, c, d, e, f] := by
  match ys, h with
  | [a, b, c, d, e, f], _ => exact ⟨a, b, c, d, e, f, rfl⟩
theorem run_cells (w : World) (r : Run) : ∀ j u, (cellsOf [r])[j]? = some u → (w.alloc (.cells #[.int .i64 r.num, .int .i64 r.lo, .int .i64 r.hi, .int .i64 r.cnt] 42)).cell? ((⟨w.heap.size, 0, none⟩ : Addr).add j) = some u :=
  (Blk.new w 42 #[.int .i64 r.num, .int .i64 r.lo, .int .i64 r.hi, .int .i64 r.cnt]).news
theorem Mf.take_one (l : List UInt8) (most c a : Nat) : Mf.take l most c a 1 = Mf.tkStep l most ⟨c, [], a⟩ := rfl
theorem Mf.take_two {p : List UInt8} {a1 : Nat} {T2 : Mf.Tk} (hT2 : Mf.take p 24 (Mf.rdH p).code a1 1 = T2) (h2 : (Mf.rdH p).code = 0 → a1 = (Mf.rdH p).at_) :
    (T2.code ≠ 0 → T2.code = (Mf.rdN p).code) ∧ (T2.code = 0 → T2 = Mf.rdN p ∧ (Mf.rdH p).code = 0) := by
  by_cases h : (Mf.rdH p).code = 0
  · have e : T2 = Mf.rdN p := by rw [← hT2, h2 h, Mf.rdN]
    exact ⟨fun _ => by rw [e], fun _ => ⟨e, h⟩⟩
  · have e1 : T2.code = (Mf.rdH p).code := by
      rw [← hT2, Mf.take_one]
      exact Mf.tkStep_bad (T := ⟨(Mf.rdH p).code, [], a1⟩) h
    have e2 : (Mf.rdN p).code = (Mf.rdH p).code := by
      rw [Mf.rdN, Mf.take_one]
      exact Mf.tkStep_bad (T := ⟨(Mf.rdH p).code, [], (Mf.rdH p).at_⟩) h
    exact ⟨fun _ => by rw [e1, e2], fun h' => absurd (e1.symm.trans h') h⟩

theorem Mf.start_fine {p : List UInt8} {a1 a2 : Nat} {T2 : Mf.Tk} {z : Int} {zs : List Int} (h3 : (T2.code ≠ 0 → T2.code = (Mf.rdN p).code) ∧ (T2.code = 0 → T2 = Mf.rdN p ∧ (Mf.rdH p).code = 0))
    (k2 : (Mf.rdH p).code = 0 → a1 = (Mf.rdH p).at_ ∧ zs = (Mf.rdH p).vals.map Int.ofNat) (k3 : T2.code = 0 → a2 = T2.at_ ∧ [z] = T2.vals.map Int.ofNat) (h : T2.code = 0) :
    (Mf.rdN p).code = 0 ∧ z = (Mf.rdN p).vals.getD 0 0 ∧ 0 ≤ (Mf.rdN p).vals.getD 0 0 ∧ zs = (Mf.rdH p).vals.map Int.ofNat ∧
      (Mf.take p 1152921504606846976 0 (Mf.rdN p).at_ (4 * 0)).code = 0 ∧ a2 = (Mf.take p 1152921504606846976 0 (Mf.rdN p).at_ (4 * 0)).at_ ∧ [] = Mf.runsOf (Mf.take p 1152921504606846976 0 (Mf.rdN p).at_ (4 * 0)).vals := by
  obtain ⟨e1, e2⟩ := h3.2 h
  obtain ⟨k4, k5⟩ := k3 h
  rw [e1] at k4 k5 h
  obtain ⟨n, hn, _⟩ := Mf.rd_facts h
  have k6 := (k2 e2).2
  clear h3 k2 k3 e1 e2
  generalize Mf.rdN p = N at *
  generalize Mf.rdH p = HH at *
  rw [hn] at k5 ⊢
  refine ⟨h, by simpa using k5, Nat.zero_le _, k6, ?_, ?_, ?_⟩ <;> rw [Nat.mul_zero, Mf.take]
  · exact k4
  · rfl

theorem Mf.decP_end {p : List UInt8} {n : Nat} {X : Mf.Tk} (h : (Mf.rdN p).code = 0) (hn : (Mf.rdN p).vals = [n]) (hX : Mf.take p 1152921504606846976 0 (Mf.rdN p).at_ (4 * n) = X) (h0 : X.code = 0) :
    Mf.decP p = if ¬ X.at_ = p.length then ⟨37, Mf.zero⟩ else if ¬ Mf.check (Mf.manOf (Mf.rdH p).vals X.vals) = 0 then ⟨Mf.check (Mf.manOf (Mf.rdH p).vals X.vals), Mf.zero⟩ else ⟨0, Mf.manOf (Mf.rdH p).vals X.vals⟩ := by
  have e : Mf.rdV p = X := by rw [Mf.rdV, hn]; exact hX
  unfold Mf.decP
  rw [if_neg (not_not_intro h), e, if_neg (not_not_intro h0)]
theorem wf_nat {v : Nat} (h : v ≤ 1152921504606846976) : (Lit.int .i64 (v : Int)).wf = true := by
  simp [Lit.wf, IntKind.min, IntKind.max, IntKind.bits, IntKind.signed]; omega
theorem Mf.fit_man {h v : List Nat} (hh : ∀ x ∈ h, x ≤ 1152921504606846976) (hv : ∀ x ∈ v, x ≤ 1152921504606846976) (hl : (Mf.runsOf v).length ≤ 4398046511104) : Mf.Fit (Mf.manOf h v) := by
  have g : ∀ i, h.getD i 0 ≤ 1152921504606846976 := fun i => by
    by_cases hi : i < h.length
    · rw [List.getD_eq_getElem?_getD, List.getElem?_eq_getElem hi]
      exact hh _ (List.getElem_mem hi)
    · rw [List.getD_eq_getElem?_getD, List.getElem?_eq_none (by omega)]
      exact Nat.zero_le _
  refine ⟨?_, wf_nat (g 5), fun r hr => ?_, hl⟩
  · have := g 0
    show -9223372036854775808 ≤ ((h.getD 0 0 : Nat) : Int) ∧ ((h.getD 0 0 : Nat) : Int) ≤ 9223372036854775807
    omega
  · obtain ⟨a, b, c, d, ha, _, _, _, rfl⟩ := Mf.runsOf_mem v r hr
    exact wf_nat (hv a ha)

/-- The state at the head of Decode's loop. -/
structure DcSt (P : ByteArray) (D : Mf.Dec) (w : World) (q : Nat) (zs : List Int) (z : Int) (k : Nat) (a c : Nat) (A : Option Addr) (cap : Nat) (rs : List Run) (wr : World) : Prop where
  res : Blk wr w.heap.size 31 zeroMan
  man : Blk wr q 31 (zcells zs ++ [Value.slice A rs.length cap]).toArray
  num : Blk wr (q + 1) 3 #[.int .i64 z]
  rd : Blk wr (q + 1 + 1) 114 #[.string P, .int .i64 a, .int .i64 c]
  own : Runs wr (q + 5) A cap rs
  below : Below w.heap.size w wr
  q5 : q + 5 ≤ wr.heap.size
  len : rs.length = k
  bad : c ≠ 0 → D = ⟨c, Mf.zero⟩
  fine : c = 0 → (Mf.rdN P.data.toList).code = 0 ∧ z = (Mf.rdN P.data.toList).vals.getD 0 0 ∧ k ≤ (Mf.rdN P.data.toList).vals.getD 0 0 ∧ zs = (Mf.rdH P.data.toList).vals.map Int.ofNat ∧
    (Mf.take P.data.toList 1152921504606846976 0 (Mf.rdN P.data.toList).at_ (4 * k)).code = 0 ∧ a = (Mf.take P.data.toList 1152921504606846976 0 (Mf.rdN P.data.toList).at_ (4 * k)).at_ ∧ rs = Mf.runsOf (Mf.take P.data.toList 1152921504606846976 0 (Mf.rdN P.data.toList).at_ (4 * k)).vals

set_option maxRecDepth 100000 in
set_option maxHeartbeats 4000000 in
theorem decode_any (s : ByteArray) (D : Mf.Dec) (w : World) (hs : s.size ≤ 9223372036854775807) (hT : TabS w) (hD : Mf.decode s.data.toList = D) :
    Calls Tryz.prog 39 #[.string s] w fun e w' => (∃ A cap, e = .returned (decV D A cap) ∧ Runs w' w.heap.size A cap D.man.runs) ∧ Below w.heap.size w w' := by
  obtain ⟨i0, hi, hz0, hz1, hz2⟩ := info_parts infoRun
  obtain ⟨R, hR⟩ : ∃ R, Sl.parse s.data.toList = R := ⟨_, rfl⟩
  have hpl := parse_len_pay _ _ hR
  have hll : s.data.toList.length = s.size := Array.length_toList
  rw [hll] at hpl
  obtain ⟨P, hP, hPd, hPs⟩ := str_of R.pay
  obtain ⟨m, hm⟩ : ∃ m : Nat, (if R.code = 0 then 0 + R.len else 0) = m := ⟨_, rfl⟩
  have hpar : ∀ W, TabS W → Calls Tryz.prog 73 #[.string s, .int .i64 0] W fun e w' => e = .returned (.tuple #[.int .i64 R.kind, .string P, .int .i64 m, .int .i64 R.code]) ∧ Below W.heap.size W w' := fun W hT =>
    (parse_any s 0 R W hs (Nat.zero_le _) hT (by rw [List.drop_zero]; exact hR)).mono fun e w' ⟨h1, h2⟩ => ⟨by rw [h1, parseV, hP, hm], h2⟩
  unfold Mf.decode at hD
  rw [hR, hll] at hD
  have HPAR := Lib.hid hpar
  have HT := Lib.hid hT
  clear hpar hT hR hP
  go_enter Tryz.func39, Tryz.ntmps39
  have b0 : Blk (w.alloc (.cells zeroMan 31)) w.heap.size 31 zeroMan := Blk.new w _ _
  have B0 : Below w.heap.size w (w.alloc (.cells zeroMan 31)) := (Below.refl _ _).alloc (Nat.le_refl _) _
  have HB0 := Lib.hid b0
  clear b0
  by_cases h1 : R.code = 0
  rotate_left
  · rw [if_pos h1] at hD
    have e1 : ((R.code : Int) != 0) = true := by rw [bne_iff_ne]; omega
    subst hD
    clear h1
    go_wp2_with (go_at_call 73; refine (HPAR.out _ (HT.out.below B0)).mono ?_; rintro e w1 ⟨rfl, hB1⟩
                 have b1 : Blk w1 w.heap.size 31 zeroMan := (hB1.block w.heap.size (by simp)).trans HB0.out
                 have B1 : Below w.heap.size w w1 := B0.trans (hB1.mono B0.size)
                 obtain ⟨x0, x1, x2, x3, x4, x5, x6⟩ := zero_seven b1
                 obtain ⟨f0, f1, f2, f3, f4, f5, f6⟩ := blk_free7 b1)
    refine bodyPost_ret (v := .tuple #[.agg #[.int .i64 0, .int .i64 0, .int .i64 0, .int .i64 0, .int .i64 0, .int .i64 0, .slice none 0 0], .int .i64 R.code]) (by simp [results, Tryz.results39, go_sem, x0, x1, x2, x3, x4, x5, x6]) rfl (Mf.zero_ret (c := R.code) (B1.trans (man7_below (Nat.le_refl _) _ _ _ _ _ _ _)))
  have e1 : ((R.code : Int) != 0) = false := by rw [bne_eq_false_iff_eq]; omega
  rw [if_pos h1] at hm
  rw [if_neg (not_not_intro h1)] at hD
  by_cases h2 : R.len = s.size
  rotate_left
  · rw [if_pos h2] at hD
    have e2 : ((m : Int) != (s.size : Int)) = true := by rw [bne_iff_ne]; omega
    subst hD
    clear h1 h2 hm
    go_wp2_with (go_at_call 73; refine (HPAR.out _ (HT.out.below B0)).mono ?_; rintro e w1 ⟨rfl, hB1⟩
                 have b1 : Blk w1 w.heap.size 31 zeroMan := (hB1.block w.heap.size (by simp)).trans HB0.out
                 have B1 : Below w.heap.size w w1 := B0.trans (hB1.mono B0.size)
                 obtain ⟨x0, x1, x2, x3, x4, x5, x6⟩ := zero_seven b1
                 obtain ⟨f0, f1, f2, f3, f4, f5, f6⟩ := blk_free7 b1)
    refine bodyPost_ret (v := .tuple #[.agg #[.int .i64 0, .int .i64 0, .int .i64 0, .int .i64 0, .int .i64 0, .int .i64 0, .slice none 0 0], .int .i64 37]) (by simp [results, Tryz.results39, go_sem, x0, x1, x2, x3, x4, x5, x6]) rfl (Mf.zero_ret (c := 37) (B1.trans (man7_below (Nat.le_refl _) _ _ _ _ _ _ _)))
  have e2 : ((m : Int) != (s.size : Int)) = false := by rw [bne_eq_false_iff_eq]; omega
  rw [if_neg (not_not_intro h2)] at hD
  by_cases h3 : R.kind = 3
  rotate_left
  · rw [if_pos h3] at hD
    have e3 : ((R.kind : Int) != 3) = true := by rw [bne_iff_ne]; omega
    subst hD
    clear h1 h2 h3 hm
    go_wp2_with (go_at_call 73; refine (HPAR.out _ (HT.out.below B0)).mono ?_; rintro e w1 ⟨rfl, hB1⟩
                 have b1 : Blk w1 w.heap.size 31 zeroMan := (hB1.block w.heap.size (by simp)).trans HB0.out
                 have B1 : Below w.heap.size w w1 := B0.trans (hB1.mono B0.size)
                 obtain ⟨x0, x1, x2, x3, x4, x5, x6⟩ := zero_seven b1
                 obtain ⟨f0, f1, f2, f3, f4, f5, f6⟩ := blk_free7 b1)
    refine bodyPost_ret (v := .tuple #[.agg #[.int .i64 0, .int .i64 0, .int .i64 0, .int .i64 0, .int .i64 0, .int .i64 0, .slice none 0 0], .int .i64 35]) (by simp [results, Tryz.results39, go_sem, x0, x1, x2, x3, x4, x5, x6]) rfl (Mf.zero_ret (c := 35) (B1.trans (man7_below (Nat.le_refl _) _ _ _ _ _ _ _)))
  have e3 : ((R.kind : Int) != 3) = false := by rw [bne_eq_false_iff_eq]; omega
  rw [if_neg (not_not_intro h3), ← hPd] at hD
  clear h1 h2 h3 hm
  go_wp2_with (go_at_call 73; refine (HPAR.out _ (HT.out.below B0)).mono ?_; rintro e w1 ⟨rfl, hB1⟩
               have b1 : Blk w1 w.heap.size 31 zeroMan := (hB1.block w.heap.size (by simp)).trans HB0.out
               have B1 : Below w.heap.size w w1 := B0.trans (hB1.mono B0.size)
               obtain ⟨x0, x1, x2, x3, x4, x5, x6⟩ := zero_seven b1
               obtain ⟨f0, f1, f2, f3, f4, f5, f6⟩ := blk_free7 b1)
  obtain ⟨q, hq⟩ : ∃ q, w1.heap.size = q := ⟨_, rfl⟩
  have hwq : w.heap.size < q := by rw [← hq]; exact b1.lt
  obtain ⟨W1, hW1⟩ : ∃ W1, ((((w1.alloc (.cells #[.int .i64 0, .int .i64 0, .int .i64 0, .int .i64 0, .int .i64 0, .int .i64 0, .slice none 0 0] 31)).alloc (.cells #[.int .i64 0] 3)).alloc (.cells #[.string P, .int .i64 0, .int .i64 0] 114)).alloc (.cells #[.pointer (some ⟨w1.heap.size, 0, none⟩), .pointer (some ⟨w1.heap.size, 1, none⟩), .pointer (some ⟨w1.heap.size, 2, none⟩), .pointer (some ⟨w1.heap.size, 3, none⟩), .pointer (some ⟨w1.heap.size, 4, none⟩), .pointer (some ⟨w1.heap.size, 5, none⟩)] 116)) = W1 := ⟨_, rfl⟩
  rw [hW1]
  have r1 : Blk W1 w.heap.size 31 zeroMan := by rw [← hW1]; exact (((b1.alloc _).alloc _).alloc _).alloc _
  have m1 : Blk W1 q 31 zeroMan := by rw [← hW1, ← hq]; exact (((Blk.new w1 _ _).alloc _).alloc _).alloc _
  have n1 : Blk W1 (q + 1) 3 #[.int .i64 0] := by
    rw [← hW1, show q + 1 = (w1.alloc (.cells #[.int .i64 0, .int .i64 0, .int .i64 0, .int .i64 0, .int .i64 0, .int .i64 0, .slice none 0 0] 31)).heap.size by rw [World.size_alloc, hq]]
    exact ((Blk.new _ _ _).alloc _).alloc _
  have d1 : Blk W1 (q + 1 + 1) 114 #[.string P, .int .i64 0, .int .i64 0] := by
    rw [← hW1, show q + 1 + 1 = ((w1.alloc (.cells #[.int .i64 0, .int .i64 0, .int .i64 0, .int .i64 0, .int .i64 0, .int .i64 0, .slice none 0 0] 31)).alloc (.cells #[.int .i64 0] 3)).heap.size by rw [World.size_alloc, World.size_alloc, hq]]
    exact (Blk.new _ _ _).alloc _
  have p1 : Blk W1 (q + 1 + 1 + 1) 116 #[.pointer (some ⟨q, 0, none⟩), .pointer (some ⟨q, 1, none⟩), .pointer (some ⟨q, 2, none⟩), .pointer (some ⟨q, 3, none⟩), .pointer (some ⟨q, 4, none⟩), .pointer (some ⟨q, 5, none⟩)] := by
    rw [← hW1, hq, show q + 1 + 1 + 1 = (((w1.alloc (.cells #[.int .i64 0, .int .i64 0, .int .i64 0, .int .i64 0, .int .i64 0, .int .i64 0, .slice none 0 0] 31)).alloc (.cells #[.int .i64 0] 3)).alloc (.cells #[.string P, .int .i64 0, .int .i64 0] 114)).heap.size by rw [World.size_alloc, World.size_alloc, World.size_alloc, hq]]
    exact Blk.new _ _ _
  have BW1 : Below w.heap.size w W1 := by rw [← hW1]; exact (((B1.alloc B1.size _).alloc (by have := B1.size; simp; omega) _).alloc (by have := B1.size; simp; omega) _).alloc (by have := B1.size; simp; omega) _
  have z1 : W1.heap.size = q + 4 := by rw [← hW1, World.size_alloc, World.size_alloc, World.size_alloc, World.size_alloc, hq]
  have hpp : ∀ i, i < 6 → W1.cell? ⟨q + 1 + 1 + 1, i, none⟩ = some (.pointer (some ⟨q, i, none⟩)) := fun i hi => by
    rw [p1.cell i]
    match i, hi with
    | 0, _ => rfl
    | 1, _ => rfl
    | 2, _ => rfl
    | 3, _ => rfl
    | 4, _ => rfl
    | 5, _ => rfl
  have hPl : P.size ≤ 9223372036854775807 := by rw [hPs]; omega
  rw [hq]
  clear x0 x1 x2 x3 x4 x5 x6 f0 f1 f2 f3 f4 f5 f6 hW1 hpl hPs hPd
  refine (take_any P 1152921504606846976 0 0 6 (q + 1 + 1) q (q + 1 + 1 + 1) 31 [0, 0, 0, 0, 0, 0] [.slice none 0 0] W1 hPl (fun _ => Nat.zero_le _) (by omega) (by omega) rfl d1 m1 hpp (by omega) (by omega) (by omega) (Mf.rdH P.data.toList) rfl).mono ?_
  rintro e w2 ⟨rfl, a1, zs, hzl, d2, m2, s2, k2⟩
  obtain ⟨h0, h1, h2, h3, h4, h5, rfl⟩ := ints6 hzl
  have r2 := s2.blk (by omega) (by omega) r1
  have n2 := s2.blk (by omega) (by omega) n1
  have z2 : w2.heap.size = q + 4 := s2.size.trans z1
  have BW2 := BW1.trans (s2.below (B := w.heap.size) (by omega) (by omega))
  clear r1 m1 n1 d1 p1 hpp z1 BW1 s2 b1 B1 hB1
  go_wp2_with fail
  have ha1 : (Mf.rdH P.data.toList).code = 0 → a1 ≤ P.size := fun h => by
    have := (Mf.take_ok (l := P.data.toList) (most := 1152921504606846976) (c := 0) (a := 0) (Nat.zero_le _) (k := 6) h).2.2.2
    have e : Mf.take P.data.toList 1152921504606846976 0 0 6 = Mf.rdH P.data.toList := rfl
    rw [e, ← (k2 h).1, Array.length_toList] at this
    exact this
  have hp2 : ∀ i, i < 1 → (w2.alloc (.cells #[.pointer (some ⟨q + 1, 0, none⟩)] 116)).cell? ⟨q + 4, i, none⟩ = some (.pointer (some ⟨q + 1, i, none⟩)) := fun i hi => by
    obtain rfl : i = 0 := by omega
    rw [← z2]
    exact (Blk.new w2 _ _).cell 0
  obtain ⟨T2, hT2⟩ : ∃ T2, Mf.take P.data.toList 24 (Mf.rdH P.data.toList).code a1 1 = T2 := ⟨_, rfl⟩
  refine (take_any P 24 (Mf.rdH P.data.toList).code a1 1 (q + 1 + 1) (q + 1) (q + 4) 3 [0] [] _ hPl ha1 (by omega) (by omega) rfl (d2.alloc _) (n2.alloc _) hp2 (by omega) (by omega) (by omega) T2 hT2).mono ?_
  rintro e w3 ⟨rfl, a2, ys, hyl, d3, n3, s3, k3⟩
  have r3 := s3.blk (by omega) (by omega) (r2.alloc _)
  have m3 := s3.blk (by omega) (by omega) (m2.alloc _)
  have z3 : q + 5 ≤ w3.heap.size := by rw [s3.size, World.size_alloc, z2]; omega
  have BW3 := (BW2.alloc BW2.size _).trans (s3.below (B := w.heap.size) (by omega) (by omega))
  obtain ⟨z, rfl⟩ : ∃ z, ys = [z] := List.length_eq_one_iff.1 hyl
  have hT3 := Mf.take_two (p := P.data.toList) hT2 (fun h => (k2 h).1)
  have hbad0 : T2.code ≠ 0 → D = ⟨T2.code, Mf.zero⟩ := fun h => by
    rw [← hD]
    have e := hT3.1 h
    rw [e] at h ⊢
    exact Mf.decP_bad1 h
  have K0 : DcSt P D w q [h0, h1, h2, h3, h4, h5] z 0 a2 T2.code none 0 [] w3 := ⟨r3, m3, n3, d3, Runs.nil _ _, BW3, z3, rfl, hbad0, Mf.start_fine hT3 k2 k3⟩
  have HD := Lib.hid hD
  clear hT3 k2 k3 d2 m2 n2 r2 d3 n3 r3 m3 s3 hT2 hp2 z2 z3 BW2 BW3 ha1 hyl a1 hD
  go_wp2_with fail
  go_loopw [11] (fun i wr => ∃ (k a c : Nat) (A : Option Addr) (cap : Nat) (rs : List Run), i = .int .i64 k ∧ DcSt P D w q [h0, h1, h2, h3, h4, h5] z k a c A cap rs wr) (fun i _ => z.toNat - (intOf i).toNat)
  case atStart => exact ⟨0, a2, _, none, 0, [], rfl, K0⟩
  case round =>
    clear K0 hbad0
    obtain ⟨k, a, c, A, cap, rs, rfl, K⟩ := hrel
    have hn0 : wr.cell? ⟨q + 1, 0, none⟩ = some (.int .i64 z) := K.num.cell 0
    have d0 : wr.cell? ⟨q + 1 + 1, 0, none⟩ = some (.string P) := K.rd.cell 0
    have d1 : wr.cell? ⟨q + 1 + 1, 1, none⟩ = some (.int .i64 a) := K.rd.cell 1
    have d2 : wr.cell? ⟨q + 1 + 1, 2, none⟩ = some (.int .i64 c) := K.rd.cell 2
    have hq5 := K.q5
    by_cases hc : c = 0
    · subst hc
      replace d2 : wr.cell? ⟨q + 1 + 1, 2, none⟩ = some (.int .i64 0) := d2
      obtain ⟨g0, g1, g2, g3, g4, g5, g6⟩ := K.fine rfl
      obtain ⟨n, hn, hn24, hh6, hhv, hhat, hnat⟩ := Mf.rd_facts g0
      obtain ⟨X, hX⟩ : ∃ X, Mf.take P.data.toList 1152921504606846976 0 (Mf.rdN P.data.toList).at_ (4 * k) = X := ⟨_, rfl⟩
      rw [hX] at g4 g5 g6
      rw [hn] at g1 g2
      replace g1 : z = (n : Nat) := g1
      replace g2 : k ≤ n := g2
      have hXo := Mf.take_ok (l := P.data.toList) (most := 1152921504606846976) (c := 0) (a := (Mf.rdN P.data.toList).at_) hnat (k := 4 * k) (by rw [hX]; exact g4)
      rw [hX] at hXo
      obtain ⟨hX1, hX2, hX3, hX4⟩ := hXo
      clear hX3
      rw [Array.length_toList] at hX4
      have hal : a ≤ P.size := by rw [g5]; exact hX4
      by_cases hlt : k < n
      · have ez : decide ((k : Int) < z) = true := decide_eq_true (by omega)
        obtain ⟨T, hT⟩ : ∃ T, Mf.take P.data.toList 1152921504606846976 0 a 4 = T := ⟨_, rfl⟩
        have hp4 : ∀ i, i < 4 → ((wr.alloc (.cells #[.int .i64 0, .int .i64 0, .int .i64 0, .int .i64 0] 42)).alloc (.cells #[.pointer (some ⟨wr.heap.size, 0, none⟩), .pointer (some ⟨wr.heap.size, 1, none⟩), .pointer (some ⟨wr.heap.size, 2, none⟩), .pointer (some ⟨wr.heap.size, 3, none⟩)] 116)).cell? ⟨wr.heap.size + 1, i, none⟩ = some (.pointer (some ⟨wr.heap.size, i, none⟩)) := fun i hi => by
          rw [show wr.heap.size + 1 = (wr.alloc (.cells #[.int .i64 0, .int .i64 0, .int .i64 0, .int .i64 0] 42)).heap.size by rw [World.size_alloc], (Blk.new _ _ _).cell i]
          match i, hi with
          | 0, _ => rfl
          | 1, _ => rfl
          | 2, _ => rfl
          | 3, _ => rfl
        have HP4 := Lib.hid hp4
        have HTT := Lib.hid hT
        have HX := Lib.hid hX
        have HN := Lib.hid hn
        have G := Lib.hid (And.intro g0 (And.intro g3 (And.intro g4 (And.intro g5 (And.intro g6 hX1)))))
        clear hp4 hT hX hn g0 g3 g4 g5 g6 hX1 hX2 hX4 hhv hhat hnat hh6
        obtain ⟨W4, hW4⟩ : ∃ W4, ((wr.alloc (.cells #[.int .i64 0, .int .i64 0, .int .i64 0, .int .i64 0] 42)).alloc (.cells #[.pointer (some ⟨wr.heap.size, 0, none⟩), .pointer (some ⟨wr.heap.size, 1, none⟩), .pointer (some ⟨wr.heap.size, 2, none⟩), .pointer (some ⟨wr.heap.size, 3, none⟩)] 116)) = W4 := ⟨_, rfl⟩
        have c1 : zcells [0, 0, 0, 0] ++ [] = [Value.int .i64 0, .int .i64 0, .int .i64 0, .int .i64 0] := rfl
        have b4 : Blk W4 wr.heap.size 42 (zcells [0, 0, 0, 0] ++ []).toArray := by rw [c1, ← hW4]; exact (Blk.new _ _ _).alloc _
        have b5 : Blk W4 (q + 1 + 1) 114 #[.string P, .int .i64 a, .int .i64 0] := by rw [← hW4]; exact (K.rd.alloc _).alloc _
        have hp4 := HP4.out
        rw [hW4] at hp4
        have htk := take_any P 1152921504606846976 0 a 4 (q + 1 + 1) wr.heap.size (wr.heap.size + 1) 42 [0, 0, 0, 0] [] W4 hPl (fun _ => hal) (by omega) (by omega) rfl b5 b4 hp4 (by omega) (by omega) (by omega) T HTT.out
        have r4 : Blk W4 w.heap.size 31 zeroMan := by rw [← hW4]; exact (K.res.alloc _).alloc _
        have m4 : Blk W4 q 31 (zcells [h0, h1, h2, h3, h4, h5] ++ [Value.slice A rs.length cap]).toArray := by rw [← hW4]; exact (K.man.alloc _).alloc _
        have n4 : Blk W4 (q + 1) 3 #[.int .i64 z] := by rw [← hW4]; exact (K.num.alloc _).alloc _
        have s4 : W4.heap.size = wr.heap.size + 2 := by rw [← hW4, World.size_alloc, World.size_alloc]
        have hh4 : ∀ k, k < wr.heap.size → W4.heap[k]? = wr.heap[k]? := fun k hk => by rw [← hW4]; exact (Below.heap_alloc _ _ _ (by simp; omega)).trans (Below.heap_alloc _ _ _ hk)
        have B4 : Below w.heap.size w W4 := by rw [← hW4]; exact (K.below.alloc K.below.size _).alloc (by have := K.below.size; simp; omega) _
        have HW4 := Lib.hid hW4
        have HTK := Lib.hid htk
        clear htk hp4 hW4 c1
        go_wp2_with fail
        rw [HW4.out]
        refine HTK.out.mono ?_
        rintro e w4 ⟨rfl, a4, ys, hyl, d4, x4, v4, k4⟩
        have r5 := v4.blk (by omega) (by omega) r4
        have m5 := v4.blk (by omega) (by omega) m4
        have n5 := v4.blk (by omega) (by omega) n4
        have s5 : w4.heap.size = wr.heap.size + 2 := v4.size.trans s4
        have o5 : Runs w4 (q + 5) A cap rs := own_keep K.own (Nat.le_refl _) fun k hk hl => (v4.block k (by omega) (by omega)).trans (hh4 k hl)
        have B5 : Below w.heap.size w w4 := B4.trans (v4.below (B := w.heap.size) (by omega) (by omega))
        obtain ⟨y0, y1, y2, y3, rfl⟩ := list4 hyl
        have l0 : w4.cell? ⟨wr.heap.size, 0, none⟩ = some (.int .i64 y0) := x4.cell 0
        have l1 : w4.cell? ⟨wr.heap.size, 1, none⟩ = some (.int .i64 y1) := x4.cell 1
        have l2 : w4.cell? ⟨wr.heap.size, 2, none⟩ = some (.int .i64 y2) := x4.cell 2
        have l3 : w4.cell? ⟨wr.heap.size, 3, none⟩ = some (.int .i64 y3) := x4.cell 3
        have l6 : w4.cell? ⟨q, 6, none⟩ = some (.slice A rs.length cap) := m5.cell 6
        have hlen := K.len
        clear b4 b5 r4 m4 n4 hh4 B4
        have o6 : (w4.alloc (.cells #[.int .i64 y0, .int .i64 y1, .int .i64 y2, .int .i64 y3] 42)).ownsRow (q + 5) 42 4 (.slice A rs.length cap) rs.length (cellsOf rs) := World.ownsRow.alloc o5 _
        have hap : (rs.length + 1) * 32 ≤ 140737488355328 := by omega
        have hap2 : q + 5 ≤ (w4.alloc (.cells #[.int .i64 y0, .int .i64 y1, .int .i64 y2, .int .i64 y3] 42)).heap.size := by rw [World.size_alloc]; omega
        have S5 := Lib.hid s5
        have S4 := Lib.hid s4
        have HLN := Lib.hid hlen
        have K4 := Lib.hid k4
        have HKK := Lib.hid K
        have O6 := Lib.hid o6
        have O5 := Lib.hid o5
        clear s5 s4 hlen k4 o6 o5 K hyl
        go_upto_region 18 with fail
        go_wp2_with (at_builtin; refine wpList_append_own (hs := ?e1) (hx := ?e2) (hown := O6.out) (hnews := run_cells w4 ⟨y0, y1, y2, y3⟩) _ rfl (.tmp 73) (.tmp 75) 29 ?e0 (q + 5) 42 i0 (.agg #[.int .i64 0, .int .i64 0, .int .i64 0, .int .i64 0]) 4 32 Tryz.underlying29 hi hz0 hz1 hz2 ?e3 (by decide) (.slice A rs.length cap) rs.length (cellsOf rs) ⟨w4.heap.size, 0, none⟩ 1 1 (cellsOf [⟨y0, y1, y2, y3⟩]) ?e4 (cellsOf_one _) (by unfold maxLen; omega) hap hap2 ?_)
        case e0 => rfl
        case e3 => rfl
        case e4 => rfl
        case e1 => simp [Act.eval]
        case e2 => simp [Act.eval]
        intro v2 w5 hown5 hgrow5 _
        obtain ⟨g', cap', rfl, _, _⟩ := hown5.form (by omega)
        have ne : ∀ b, b < q + 5 → some b ≠ (Value.slice A rs.length cap).ownBlock := fun b hb e => by have := (O6.out.lt _ e.symm).1; omega
        have r6 := (r5.alloc _).grown hgrow5 (ne _ (by omega))
        have m6 := (m5.alloc _).grown hgrow5 (ne _ (by omega))
        have n6 := (n5.alloc _).grown hgrow5 (ne _ (by omega))
        have d6 := (d4.alloc _).grown hgrow5 (ne _ (by omega))
        have B6 : Below w.heap.size w w5 := (B5.alloc B5.size _).grown hgrow5 (by have := B5.size; simp; omega) (fun b e => by have := (O6.out.lt b e).1; omega)
        have z6 : q + 5 ≤ w5.heap.size := by have := hgrow5.size; simp at this; have := S5.out; omega
        have c6 : w5.cell? ⟨q, 6, none⟩ = some (.slice A rs.length cap) := m6.cell 6
        have f6 : w5.frozen? ⟨q, 6, none⟩ = false := m6.frozen 6
        have happ : cellsOf rs ++ cellsOf [⟨y0, y1, y2, y3⟩] = cellsOf (rs ++ [⟨y0, y1, y2, y3⟩]) := (cellsOf_append _ _).symm
        rw [happ] at hown5
        have HO5 := Lib.hid hown5
        have HZ6 := Lib.hid z6
        have NX := Lib.hid (Mf.next_tk HX.out G.out.2.2.1 G.out.2.2.2.1 HTT.out)
        clear hown5 hgrow5 happ z6 r5 m5 n5 d4 x4 v4 B5 l0 l1 l2 l3 l6
        go_wp2_with fail
        go_roundw
        case rel =>
          refine ⟨k + 1, a4, T.code, some ⟨g', 0, none⟩, cap', rs ++ [⟨y0, y1, y2, y3⟩], by go_num, r6.far (by show w.heap.size ≠ q; omega) _, ?_, n6.far (by show q + 1 ≠ q; omega) _, d6.far (by show q + 1 + 1 ≠ q; omega) _, ?_, B6.setCell (Nat.le_of_lt hwq) _, by simp; exact HZ6.out, by simp [HLN.out], ?_, ?_⟩
          · have := m6.set_ 6 (.slice (some ⟨g', 0, none⟩) (rs ++ [(⟨y0, y1, y2, y3⟩ : Run)]).length cap')
            rw [List.length_append] at this ⊢
            exact this
          · unfold Runs
            rw [List.length_append]
            exact own_keep HO5.out (Nat.le_refl _) fun b hb _ => Below.heap_setCell _ _ _ b (by show b ≠ q; omega)
          · intro h
            rw [← HD.out]
            exact Mf.decP_bad2 G.out.1 HN.out (by omega) NX.out.1 h
          · intro h
            obtain ⟨v1, v2⟩ := K4.out h
            obtain ⟨u1, u2⟩ := NX.out.2 h
            have h4 : T.vals.length = 4 := by
              have := congrArg List.length v2
              rw [List.length_map] at this
              exact this.symm
            obtain ⟨j0, j1, j2, j3, hj⟩ := nats4 h4
            rw [hj] at v2 u1
            simp only [List.map_cons, List.map_nil, List.cons.injEq, and_true] at v2
            obtain ⟨rfl, rfl, rfl, rfl⟩ := v2
            refine ⟨G.out.1, by rw [HN.out]; exact g1, by rw [HN.out]; show k + 1 ≤ n; omega, G.out.2.1, NX.out.1.trans h, by rw [u2, v1], ?_⟩
            rw [u1, Mf.runsOf_snoc k X.vals G.out.2.2.2.2.2, ← G.out.2.2.2.2.1]
            rfl
        case measure => simp only [intOf]; omega
      · obtain rfl : k = n := by omega
        have ez : decide ((k : Int) < z) = false := decide_eq_false (by omega)
        have hE := Mf.decP_end g0 hn hX g4
        rw [HD.out, show P.data.toList.length = P.size from Array.length_toList] at hE
        obtain ⟨x0, x1, x2, x3, x4, x5, x6⟩ := zero_seven K.res
        obtain ⟨f0, f1, f2, f3, f4, f5, f6⟩ := blk_free7 K.res
        have BK := K.below
        have fd2 : wr.frozen? ⟨q + 1 + 1, 2, none⟩ = false := K.rd.frozen 2
        by_cases hat : X.at_ = P.size
        · have el : decide (a < P.size) = false := decide_eq_false (by omega)
          have el2 : P.size ≤ a := by omega
          rw [if_neg (not_not_intro hat)] at hE
          have hfit := Mf.fit_man hhv hX2 (by rw [Mf.runsOf_len k X.vals hX1]; omega)
          obtain ⟨v0, v1, v2, v3, v4, v5, hv⟩ := nats6 hh6
          rw [hv] at hE g3 hfit
          simp only [List.map_cons, List.map_nil, List.cons.injEq, and_true] at g3
          obtain ⟨rfl, rfl, rfl, rfl, rfl, rfl⟩ := g3
          obtain ⟨M, hM⟩ : ∃ M, Mf.manOf [v0, v1, v2, v3, v4, v5] X.vals = M := ⟨_, rfl⟩
          rw [hM] at hE hfit
          obtain ⟨n', hn'⟩ : ∃ n', Mf.check M = n' := ⟨_, rfl⟩
          rw [hn'] at hE
          have hMr : M.runs = rs := by rw [← hM]; exact g6.symm
          have w0 : wr.cell? ⟨q, 0, none⟩ = some (.int .i64 M.w) := by rw [← hM]; exact K.man.cell 0
          have w1 : wr.cell? ⟨q, 1, none⟩ = some (.int .i64 M.c) := by rw [← hM]; exact K.man.cell 1
          have w2 : wr.cell? ⟨q, 2, none⟩ = some (.int .i64 M.m) := by rw [← hM]; exact K.man.cell 2
          have w3 : wr.cell? ⟨q, 3, none⟩ = some (.int .i64 M.seq) := by rw [← hM]; exact K.man.cell 3
          have w4 : wr.cell? ⟨q, 4, none⟩ = some (.int .i64 M.next) := by rw [← hM]; exact K.man.cell 4
          have w5 : wr.cell? ⟨q, 5, none⟩ = some (.int .i64 M.jr) := by rw [← hM]; exact K.man.cell 5
          have w6 : wr.cell? ⟨q, 6, none⟩ = some (.slice A M.runs.length cap) := by rw [hMr]; exact K.man.cell 6
          have hRs : Rs wr wr.heap.size A M.runs := by rw [hMr]; exact K.own.rs
          have hRu : Runs wr (q + 5) A cap M.runs := by rw [hMr]; exact K.own
          have KR := K.res
          have KD := K.rd
          have qlt : q < wr.heap.size := by omega
          have FIT := Lib.hid hfit
          have HE := Lib.hid hE
          have HN' := Lib.hid hn'
          clear hat hX hn hv hh6 hhv hhat hnat g0 g1 g2 g4 g5 g6 hX1 hX2 hX4 hlt HD hfit hE hM hMr K hn'
          go_wp2_with fail
          refine (check_any M A cap wr hRs FIT.out n' HN'.out).mono ?_
          rintro e X6 ⟨rfl, hB6⟩
          have hw0 : w.heap.size < wr.heap.size := by omega
          have KR6 : Blk X6 w.heap.size 31 zeroMan := (hB6.block _ hw0).trans KR
          have KD6 : Blk X6 (q + 1 + 1) 114 #[.string P, .int .i64 a, .int .i64 0] := (hB6.block _ (by omega)).trans KD
          have KU6 : Runs X6 (q + 5) A cap M.runs := own_keep hRu (Nat.le_refl _) fun b _ hb => hB6.block b hb
          have BK6 := BK.trans (hB6.mono BK.size)
          have w06 := (hB6.cell (p := ⟨q, 0, none⟩) qlt).trans w0
          have w16 := (hB6.cell (p := ⟨q, 1, none⟩) qlt).trans w1
          have w26 := (hB6.cell (p := ⟨q, 2, none⟩) qlt).trans w2
          have w36 := (hB6.cell (p := ⟨q, 3, none⟩) qlt).trans w3
          have w46 := (hB6.cell (p := ⟨q, 4, none⟩) qlt).trans w4
          have w56 := (hB6.cell (p := ⟨q, 5, none⟩) qlt).trans w5
          have w66 := (hB6.cell (p := ⟨q, 6, none⟩) qlt).trans w6
          have k2 : X6.cell? ⟨q + 1 + 1, 2, none⟩ = some (.int .i64 0) := KD6.cell 2
          have kf : X6.frozen? ⟨q + 1 + 1, 2, none⟩ = false := KD6.frozen 2
          clear x0 x1 x2 x3 x4 x5 x6 f0 f1 f2 f3 f4 f5 f6 w0 w1 w2 w3 w4 w5 w6 hB6 KR KD hRu hRs
          obtain ⟨x0, x1, x2, x3, x4, x5, x6⟩ := zero_seven KR6
          obtain ⟨f0, f1, f2, f3, f4, f5, f6⟩ := blk_free7 KR6
          by_cases hn0 : n' = 0
          · have b1 : ((n' : Int) != 0) = false := by rw [bne_eq_false_iff_eq]; omega
            have hD1 : D = ⟨0, M⟩ := by rw [HE.out, if_neg (not_not_intro hn0)]
            subst hD1
            clear hn0
            go_wp2_with fail
            refine bodyPost_ret (v := .tuple #[.agg #[.int .i64 M.w, .int .i64 M.c, .int .i64 M.m, .int .i64 M.seq, .int .i64 M.next, .int .i64 M.jr, .slice A M.runs.length cap], .int .i64 0]) (by simp [results, Tryz.results39, go_sem, x0, x1, x2, x3, x4, x5, x6]) rfl ⟨⟨A, cap, rfl, ?_⟩, (BK6.setCell (p := ⟨q + 1 + 1, 2, none⟩) (by show w.heap.size ≤ q + 1 + 1; omega) (.int .i64 n')).trans (man7_below (Nat.le_refl _) _ _ _ _ _ _ _)⟩
            refine World.ownsRow.lower (own_keep KU6 (Nat.le_refl _) fun b hb _ => ?_) (show w.heap.size ≤ q + 5 by omega)
            exact (man7_heap (show b ≠ w.heap.size by omega) _ _ _ _ _ _ _).trans (Below.heap_setCell _ _ _ b (by show b ≠ q + 1 + 1; omega))
          · have b1 : ((n' : Int) != 0) = true := by rw [bne_iff_ne]; omega
            have hD1 : D = ⟨n', Mf.zero⟩ := by rw [HE.out, if_pos hn0]
            subst hD1
            clear hn0
            go_wp2_with fail
            go_region
            all_goals (try go_wp2_with fail)
            refine bodyPost_ret (v := .tuple #[.agg #[.int .i64 0, .int .i64 0, .int .i64 0, .int .i64 0, .int .i64 0, .int .i64 0, .slice none 0 0], .int .i64 n']) (by simp [results, Tryz.results39, go_sem, x0, x1, x2, x3, x4, x5, x6]) rfl (Mf.zero_ret (c := n') (Below.drew_ ((BK6.setCell (p := ⟨q + 1 + 1, 2, none⟩) (by show w.heap.size ≤ q + 1 + 1; omega) (.int .i64 n')).trans (man7_below (Nat.le_refl _) _ _ _ _ _ _ _))))
        · have el : decide (a < P.size) = true := decide_eq_true (by omega)
          have el2 : a < P.size := by omega
          rw [if_pos hat] at hE
          subst hE
          clear hat hX hn hh6 hhv hhat hnat g0 g1 g2 g3 g4 g5 g6 hX1 hX2 hX4 hlt HD
          go_wp2_with fail
          go_region
          all_goals (try go_wp2_with fail)
          refine bodyPost_ret (v := .tuple #[.agg #[.int .i64 0, .int .i64 0, .int .i64 0, .int .i64 0, .int .i64 0, .int .i64 0, .slice none 0 0], .int .i64 37]) (by simp [results, Tryz.results39, go_sem, x0, x1, x2, x3, x4, x5, x6]) rfl (Mf.zero_ret (c := 37) (Below.drew_ ((BK.setCell (p := ⟨q + 1 + 1, 2, none⟩) (by show w.heap.size ≤ q + 1 + 1; omega) (.int .i64 37)).trans (man7_below (Nat.le_refl _) _ _ _ _ _ _ _))))
    · obtain rfl := K.bad hc
      have ec : ((c : Int) == 0) = false := by rw [beq_eq_false_iff_ne]; omega
      have ec' : ((c : Int) != 0) = true := by rw [bne_iff_ne]; omega
      obtain ⟨x0, x1, x2, x3, x4, x5, x6⟩ := zero_seven K.res
      obtain ⟨f0, f1, f2, f3, f4, f5, f6⟩ := blk_free7 K.res
      have BK := K.below
      clear hc
      by_cases hz : (k : Int) < z
      · have ez : decide ((k : Int) < z) = true := decide_eq_true hz
        clear hz
        go_wp2_with fail
        go_region
        all_goals (try go_wp2_with fail)
        refine bodyPost_ret (v := .tuple #[.agg #[.int .i64 0, .int .i64 0, .int .i64 0, .int .i64 0, .int .i64 0, .int .i64 0, .slice none 0 0], .int .i64 c]) (by simp [results, Tryz.results39, go_sem, x0, x1, x2, x3, x4, x5, x6]) rfl (Mf.zero_ret (c := c) (Below.drew_ (BK.trans (man7_below (Nat.le_refl _) _ _ _ _ _ _ _))))
      · have ez : decide ((k : Int) < z) = false := decide_eq_false hz
        clear hz
        go_wp2_with fail
        go_region
        all_goals (try go_wp2_with fail)
        refine bodyPost_ret (v := .tuple #[.agg #[.int .i64 0, .int .i64 0, .int .i64 0, .int .i64 0, .int .i64 0, .int .i64 0, .slice none 0 0], .int .i64 c]) (by simp [results, Tryz.results39, go_sem, x0, x1, x2, x3, x4, x5, x6]) rfl (Mf.zero_ret (c := c) (Below.drew_ (BK.trans (man7_below (Nat.le_refl _) _ _ _ _ _ _ _))))
end Go.Proofs.YtdhnkcfmjibibaaGreatDoor
