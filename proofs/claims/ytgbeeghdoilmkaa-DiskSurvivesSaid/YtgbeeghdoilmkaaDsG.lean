/- The law DiskSurvives: its walk. Conditions: each theorem's own hypotheses. -/
import Derived.Test.YtgbeeghdoilmkaaDsF
import Derived.Test.YtgbeeghdoilmkaaDwI
import Derived.Test.YtgbeeghdoilmkaaDwK
import Derived.Deep.RegionHeldLaw
import Derived.Deep.DeepCutAuto
namespace Go.Proofs.Ytgbeeghdoilmkaa
open Go.RowKit Go.Maps Go.Sort
set_option linter.unusedVariables false

theorem Ds.arm_false {m : Dk.M} {b : Bool} (h : m.left = 0) : Ds.Arm m false b := by
  unfold Ds.Arm
  rw [if_neg (by decide)]
  exact h
theorem Ds.arm_true {m : Dk.M} {b : Bool} (h1 : m.left = 1) (h2 : m.off = false) (h3 : m.done = b) : Ds.Arm m true b := by
  unfold Ds.Arm
  rw [if_pos rfl]
  exact ⟨h1, h2, h3⟩
theorem Ds.Arm.off {m : Dk.M} {a b : Bool} (h : Ds.Arm m a b) (ho : m.off = true) : a = false ∧ m.left = 0 := by
  unfold Ds.Arm at h
  cases a with
  | true =>
    rw [if_pos rfl] at h
    rw [ho] at h
    cases h.2.1
  | false =>
    rw [if_neg (by decide)] at h
    exact ⟨rfl, h⟩
/-- Behind Arm(1, q). -/
theorem Ds.Arm.arm {m : Dk.M} {a b : Bool} (h : Ds.Arm m a b) (q : Bool) : Ds.Arm (Dk.arm m 1 q) (!m.off) q ∧ (Dk.arm m 1 q).off = m.off ∧ (Dk.arm m 1 q).files = m.files := by
  unfold Dk.arm
  cases ho : m.off with
  | true =>
    rw [if_pos rfl]
    exact ⟨Ds.arm_false (h.off ho).2, ho, rfl⟩
  | false =>
    rw [if_neg (by decide)]
    exact ⟨Ds.arm_true rfl rfl rfl, rfl, rfl⟩
def Ds.lastOne : ByteArray := ⟨#[116, 104, 101, 46, 108, 97, 115, 116, 46, 111, 110, 101]⟩
theorem Ds.last_law {m : Dk.M} (ho : m.off = false) (hl : m.left = 0 ∨ m.left = 1) (nm : List UInt8) (hn : Dk.named nm = true) :
    ((Dk.create m nm).2 = 0 ∧ (Dk.delete (Dk.create m nm).1 nm).2 = 0) ∨ (Dk.create m nm).2 = 41 ∨ (Dk.create m nm).2 = 43 ∨ (Dk.create m nm).2 = 45 := by
  unfold Dk.create
  by_cases h0 : Dk.code m nm = 0
  · rw [if_pos h0]; exact .inr (.inl rfl)
  rw [if_neg h0]
  have h42 : Dk.code m nm = 42 := by
    unfold Dk.code at h0 ⊢
    rw [ho, if_neg (by decide), hn, if_pos rfl] at h0 ⊢
    split
    · rename_i h; rw [if_pos h] at h0; exact absurd rfl h0
    · rfl
  rw [if_neg (fun h => h h42)]
  by_cases h2 : 4096 ≤ m.files.length
  · rw [if_pos h2]; exact .inr (.inr (.inl rfl))
  rw [if_neg h2]
  unfold Dk.acc
  rcases hl with h | h
  · rw [if_pos h]
    refine .inl ⟨rfl, ?_⟩
    have hmem : Dk.empty nm ∈ Dk.ins Dk.F.name (Dk.empty nm) m.files := (Dk.mem_ins Dk.F.name).2 (.inl rfl)
    have hc : Dk.code { m with writes := IntKind.i64.wrap (m.writes + 1), files := Dk.ins Dk.F.name (Dk.empty nm) m.files } nm = 0 := by
      unfold Dk.code
      show (if m.off = true then (45 : Int) else _) = 0
      rw [ho, if_neg (by decide), hn, if_pos rfl, if_pos]
      unfold Dk.get
      rw [List.find?_isSome]
      exact ⟨_, hmem, by show ((Dk.empty nm).name == nm) = true; exact beq_self_eq_true nm⟩
    unfold Dk.delete
    rw [if_neg (fun hx => hx hc)]
    unfold Dk.acc
    rw [if_pos h]
  · rw [if_neg (by omega), if_neg (by omega)]
    exact .inr (.inr (.inr rfl))
theorem Ds.Arm.left {m : Dk.M} {a b : Bool} (h : Ds.Arm m a b) : m.left = 0 ∨ m.left = 1 := by
  unfold Ds.Arm at h
  split at h
  · exact .inr h.1
  · exact .inl h
theorem Ds.acc0 {m : Dk.M} (h : m.left = 0) (b : Bool) (fs : List Dk.F) : ∃ M, Dk.acc m b fs = (M, 0) ∧ M.off = m.off ∧ M.left = 0 ∧ M.files = fs := by
  unfold Dk.acc
  rw [if_pos h]
  exact ⟨_, rfl, rfl, h, rfl⟩
theorem Ds.acc1 {m : Dk.M} (h : m.left = 1) (b : Bool) (fs : List Dk.F) : ∃ M, Dk.acc m b fs = (M, 45) ∧ M.off = true ∧ M.left = 0 ∧ M.files = if b = true then fs else m.files := by
  unfold Dk.acc
  rw [if_neg (by omega), if_neg (by omega)]
  exact ⟨_, rfl, rfl, rfl, rfl⟩
theorem Ds.last_true {m : Dk.M} {s : Dw.S} (h : Ds.last m s = true) : s.what = 2 ∨ (s.what ≠ 3 ∧ m.done = true) := by
  unfold Ds.last at h
  split at h
  · rename_i e; exact .inl e
  · split at h
    · cases h
    · rename_i e; exact .inr ⟨e, h⟩
theorem Ds.last_false {m : Dk.M} {s : Dw.S} (h : Ds.last m s = false) : s.what = 3 ∨ (s.what ≠ 2 ∧ m.done = false) := by
  unfold Ds.last at h
  split at h
  · cases h
  · rename_i e2
    split at h
    · rename_i e; exact .inl e
    · exact .inr ⟨e2, h⟩
theorem Ds.Arm.no {m : Dk.M} {b : Bool} (h : Ds.Arm m false b) : m.left = 0 := by
  unfold Ds.Arm at h
  rwa [if_neg (by decide)] at h
theorem Ds.Arm.yes {m : Dk.M} {b : Bool} (h : Ds.Arm m true b) : m.left = 1 ∧ m.off = false ∧ m.done = b := by
  unfold Ds.Arm at h
  rwa [if_pos rfl] at h
def Ds.o79 : Op := Op.load 50 (Operand.tmp 78)
attribute [go_sem] Ds.o79
/-- The first k are cut. -/
def Ds.part (g : Dk.F → Dk.F) : List Dk.F → Nat → List Dk.F
  | [], _ => []
  | x :: l, 0 => x :: l
  | x :: l, k + 1 => g x :: Ds.part g l k
theorem Ds.part_zero (g : Dk.F → Dk.F) : ∀ l, Ds.part g l 0 = l
  | [] => rfl
  | _ :: _ => rfl
theorem Ds.part_len (g : Dk.F → Dk.F) : ∀ l k, (Ds.part g l k).length = l.length
  | [], _ => rfl
  | _ :: _, 0 => rfl
  | _ :: l, k + 1 => congrArg (· + 1) (Ds.part_len g l k)
theorem Ds.part_all (g : Dk.F → Dk.F) : ∀ l, Ds.part g l l.length = l.map g
  | [] => rfl
  | x :: l => congrArg (g x :: ·) (Ds.part_all g l)
theorem Ds.part_get (g : Dk.F → Dk.F) : ∀ (l : List Dk.F) (k : Nat), (Ds.part g l k)[k]? = l[k]?
  | [], _ => rfl
  | _ :: _, 0 => rfl
  | _ :: l, k + 1 => by
    show (Ds.part g l k)[k]? = l[k]?
    exact Ds.part_get g l k
theorem Ds.part_set (g : Dk.F → Dk.F) : ∀ (l : List Dk.F) (k : Nat) (f : Dk.F), l[k]? = some f → (Ds.part g l k).set k (g f) = Ds.part g l (k + 1)
  | [], _, f, h => by cases h
  | x :: l, 0, f, h => by
    obtain rfl := Option.some.inj h
    show g x :: l = g x :: Ds.part g l 0
    rw [Ds.part_zero]
  | x :: l, k + 1, f, h => congrArg (g x :: ·) (Ds.part_set g l k f h)
theorem Ds.left_eq {cs : List Dk.Cut} {f : Dk.F} (h : f.sure ≤ f.data.length) {d : List UInt8} (hd : d = (Dk.left cs f).data) : Dk.left cs f = ⟨f.name, d, d.length⟩ := by
  subst hd
  have := Dk.leave_len (Dk.cutOf cs f.name) f h
  unfold Dk.left
  rw [this]
  rfl
theorem Ds.St.ne {B d : Nat} {W0 w : World} {m : Dk.M} {v : Value} {L : List Dk.F} {K : List (Nat × Obj)} (h : Ds.St B W0 w d m v L K) {p : Nat} {o : Obj} (hp : (p, o) ∈ K) : v.ownBlock ≠ some p := by
  obtain ⟨F, h1, h2, h3, h4, h5, h6⟩ := h
  exact (h4 _ hp).2.2.2
theorem Ds.St.set3 {B d g c n : Nat} {W0 w : World} {m : Dk.M} {L : List Dk.F} {K : List (Nat × Obj)} (h : Ds.St B W0 w d m (.slice (some ⟨g, 0, none⟩) n c) L K) (hn : L.length = n) {k : Nat} (hk : k < L.length) (f : Dk.F) :
    Ds.St B W0 (((w.setCell ⟨g, k * 3, none⟩ (Tx.v f.name)).setCell ⟨g, k * 3 + 1, none⟩ (Tx.v f.data)).setCell ⟨g, k * 3 + 2, none⟩ (.int .i64 f.sure)) d m (.slice (some ⟨g, 0, none⟩) n c) (L.set k f) K := by
  subst hn
  exact h.list ⟨h.row.set3 hk f, (((Dk.Only.refl (fun q => (Value.slice (some ⟨g, 0, none⟩) L.length c).ownBlock = some q) w).setCell (p := ⟨g, k * 3, none⟩) (.inl rfl) _).setCell (p := ⟨g, k * 3 + 1, none⟩) (.inl rfl) _).setCell (p := ⟨g, k * 3 + 2, none⟩) (.inl rfl) _, fun k h => .inl h⟩
set_option maxRecDepth 100000 in
set_option maxHeartbeats 80000000 in
theorem Ds.survives (W : World) (c : Int) (hc : -9223372036854775808 ≤ c ∧ c ≤ 9223372036854775807) (A : Option Addr) (cp : Nat) (N : List Dw.S) (hF : Dw.Steps W A N) (hl : N.length ≤ 1400000000000) :
    Calls Try.prog 4 #[.int .i64 c, .slice A N.length cp] W fun e W' => e = .returned (.bool true) ∧ Below W.heap.size W W' := by
  have k0 := Dw.begun_any W
  by_cases hcc : c < 0 ∨ 1073741824 < c
  · have k1 := fun w => Dk.new_none c hcc w
    have t3 : (decide (c < 0) || decide (1073741824 < c)) = true := by
      rcases hcc with h | h
      · rw [decide_eq_true h]; rfl
      · rw [decide_eq_true h, Bool.or_true]
    rcases hcc with hcc | hcc
    · have t1 : decide (c < 0) = true := decide_eq_true hcc
      go_enter Try.func4, Try.ntmps4
      go_wp2_with (first
        | (go_at_call 15; refine k0.mono ?_; rintro e w1 ⟨rfl, b1⟩)
        | (go_at_call 9; refine (k1 _).mono ?_; rintro e w2 ⟨rfl, rfl⟩))
      go_ret
      exact ⟨rfl, b1⟩
    · have t1 : decide (c < 0) = false := decide_eq_false (by omega)
      have t2 : decide (1073741824 < c) = true := decide_eq_true hcc
      go_enter Try.func4, Try.ntmps4
      go_wp2_with (first
        | (go_at_call 15; refine k0.mono ?_; rintro e w1 ⟨rfl, b1⟩)
        | (go_at_call 9; refine (k1 _).mono ?_; rintro e w2 ⟨rfl, rfl⟩))
      go_ret
      exact ⟨rfl, b1⟩
  obtain ⟨n, rfl⟩ := Int.eq_ofNat_of_zero_le (show 0 ≤ c by omega)
  have hn : n ≤ 1073741824 := by omega
  have t1 : decide ((n : Int) < 0) = false := decide_eq_false (by omega)
  have t2 : decide (1073741824 < (n : Int)) = false := decide_eq_false (by omega)
  have k1 := fun {w : World} (h : Below W.heap.size W w) => Dw.new_on hn h h.size
  clear hcc hc
  go_enter Try.func4, Try.ntmps4
  go_wp2_with (first
    | (go_at_call 15; refine k0.mono ?_; rintro e w1 ⟨rfl, b1⟩)
    | (go_at_call 9; refine (k1 b1).mono ?_; rintro e w2 ⟨d, rfl, o2⟩))
  have St0 : Ds.St W.heap.size W w2 d (Dk.fresh n) (.slice none 0 0) [] [] := by
    obtain ⟨F, h1, h2, h3, h4⟩ := o2
    exact ⟨F, h1, fun k hk => ⟨h2 k hk, fun e => by cases e⟩, Ds.Ls.nil _ _, fun p hp => (List.not_mem_nil hp).elim, h3, h4⟩
  have HP0 : Hid (([] : List Dk.F).Perm (Dk.fresh n).files) := Lib.hid (.refl _)
  have HA0 : Hid (Ds.Arm (Dk.fresh n) false false) := Lib.hid (Ds.arm_false rfl)
  clear k0 k1 b1 o2 t1 t2
  go_loopw [7, 8, 9, 10] (fun l a b i wr => ∃ k m v L x y, k ≤ N.length ∧ i = .int .i64 (k : Nat) ∧ l = v ∧ a = .bool x ∧ b = .bool y ∧ Ds.St W.heap.size W wr d m v L [] ∧ Hid (L.Perm m.files) ∧ Hid (Ds.Arm m x y)) (fun _ _ _ i _ => N.length - (intOf i).toNat)
  case atStart => exact ⟨0, _, _, _, _, _, Nat.zero_le _, rfl, rfl, rfl, rfl, St0, HP0, HA0⟩
  case round =>
    clear St0 HP0 HA0
    obtain ⟨k, m, v, L, x, y, hk, rfl, rfl, rfl, rfl, T0, HP, HA⟩ := hrel
    by_cases hlt : k < N.length
    · obtain ⟨s, hs⟩ : ∃ s, N[k]? = some s := ⟨_, List.getElem?_eq_getElem hlt⟩
      obtain ⟨g, off, rfl, hg, hst⟩ := hF (fun e => by rw [e] at hlt; exact absurd hlt (Nat.not_lt_zero _))
      obtain ⟨hcell, hfit⟩ := hst k s hs
      have hfits : ∀ {w}, Below W.heap.size W w → Dw.Fit w s := fun hB => hfit.below hB
      have T1 := T0.push (.cells (Dw.cells s) 45)
      have kdone := fun {w m1 v1 L1 K1} (T : Ds.St W.heap.size W w d m1 v1 L1 K1) => T.call (Dw.done_good T.good s) fun F hA hG => Dw.done_any hA hG s (hfits T.below)
      have ktold := fun {w m1 m2 v1 L1 L2 K1} (T : Ds.St W.heap.size W w d m1 v1 L1 K1) (hp : L1.Perm m2.files) (hG : Dk.Good m2) (hT : Ds.To s L1 L2) => T.told s (hfits T.below) hp hG hT
      have hway := Ds.way (m := m) s
      have hpl := fun hr hc => Ds.told (L := L) T0.good HP.out s hr hc
      obtain ⟨ca, cc, hcv⟩ := hfit.cuts.form
      obtain ⟨nb, hnb, _⟩ := Tx.of s.name
      obtain ⟨tb, htb, _⟩ := Tx.of s.to_
      obtain ⟨sb, hsb, _⟩ := Tx.of s.data
      have hcl := fun {w} (hB : Below W.heap.size W w) => Dw.Steps.eight (k := k) hg hcell hB hnb htb hsb
      have hcuts : ∀ {w}, Below W.heap.size W w → Dk.Cts w s.cv s.cuts := fun hB => (hfits hB).cuts
      have hmany := hfit.many
      have hnames := hfit.names
      clear hs hst hcell hfit
      obtain ⟨what, nm, to_, da, at_, nn, dn, cv, cs⟩ := s
      simp only at hcv hnb htb hsb hcl hcuts hmany hnames
      subst hcv
      unfold Dw.cells at T1 kdone ktold
      simp only at T1 kdone ktold
      simp only [Tx.v_eq hnb, Tx.v_eq htb, Tx.v_eq hsb] at T1 kdone ktold
      obtain ⟨cn, hcn⟩ : ∃ cn, cs.length = cn := ⟨_, rfl⟩
      simp only [hcn] at T1 kdone ktold hcl hcuts hmany hway hpl
      obtain ⟨x0, x1, x2, x3, x4, x5, x6, x7⟩ := hcl T0.below
      obtain ⟨lv, lc, rfl⟩ := T0.row.form
      have HCN := Lib.hid hcn
      have HW := Lib.hid (And.intro hnb (And.intro htb hsb))
      have hbx : ∀ {w m1 v1 L1}, Ds.St W.heap.size W w d m1 v1 L1 ([] ++ [(wr.heap.size, .cells #[.int .i64 what, .string nb, .string tb, .string sb, .int .i64 at_, .int .i64 nn, .bool dn, .slice ca cn cc] 45)]) → w.cell? ⟨wr.heap.size, 0, none⟩ = some (.int .i64 what) ∧ w.cell? ⟨wr.heap.size, 1, none⟩ = some (.string nb) ∧ w.cell? ⟨wr.heap.size, 2, none⟩ = some (.string tb) ∧ w.cell? ⟨wr.heap.size, 3, none⟩ = some (.string sb) ∧ w.cell? ⟨wr.heap.size, 4, none⟩ = some (.int .i64 at_) ∧ w.cell? ⟨wr.heap.size, 5, none⟩ = some (.int .i64 nn) ∧ w.cell? ⟨wr.heap.size, 6, none⟩ = some (.bool dn) ∧ w.cell? ⟨wr.heap.size, 7, none⟩ = some (.slice ca cn cc) := fun T => by
        have hb : Blk _ wr.heap.size 45 #[.int .i64 what, .string nb, .string tb, .string sb, .int .i64 at_, .int .i64 nn, .bool dn, .slice ca cn cc] := T.blk (List.mem_append_right _ (List.mem_singleton.2 rfl))
        exact ⟨hb.cell 0, hb.cell 1, hb.cell 2, hb.cell 3, hb.cell 4, hb.cell 5, hb.cell 6, hb.cell 7⟩
      have hsub : ∀ {w m1 v1 L1}, Ds.St W.heap.size W w d m1 v1 L1 ([] ++ [(wr.heap.size, .cells #[.int .i64 what, .string nb, .string tb, .string sb, .int .i64 at_, .int .i64 nn, .bool dn, .slice ca cn cc] 45)]) → Ds.St W.heap.size W w d m1 v1 L1 [] := fun T => T.sub fun p hp => (List.not_mem_nil hp).elim
      clear hcn hnb htb hsb hF hcl hg
      by_cases e8 : what = 8
      · subst e8
        as_aux_lemma =>
        obtain ⟨A1, A2, A3⟩ := HA.out.arm dn
        obtain ⟨M, hM⟩ : ∃ M, Dk.arm m 1 dn = M := ⟨_, rfl⟩
        have kA := T1.call (Dk.arm_good T0.good 1 (by decide) dn) fun F hA hG => (Dk.arm_any hA 1 (by decide) dn).mono fun e W' ⟨a, b, c⟩ => ⟨a, Dk.Moved.of b c⟩
        rw [hM] at kA A1 A2 A3
        have HP2 : Hid (L.Perm M.files) := Lib.hid (by rw [A3]; exact HP.out)
        have kdn := fun {w1} (T : Ds.St W.heap.size W w1 d M (.slice lv L.length lc) L ([] ++ [(wr.heap.size, .cells #[.int .i64 8, .string nb, .string tb, .string sb, .int .i64 at_, .int .i64 nn, .bool dn, .slice ca cn cc] 45)])) => T.down A2
        cases ho : m.off with
        | true =>
          rw [ho] at A1 kdn
          have HA2 := Lib.hid A1
          clear hM A1 A2 A3 ho kdone ktold hway hpl hcuts hmany hnames hfits HA HP T0 T1
          go_wp2_with (first
            | (go_at_call 16; refine kA.mono ?_; clear kA; rintro e w2 ⟨rfl, T2⟩; clear x0 x1 x2 x3 x4 x5 x6 x7; obtain ⟨y0, y1, y2, y3, y4, y5, y6, y7⟩ := hbx T2; have kd2 := kdn T2; clear kdn)
            | (go_at_call 17; refine kd2.mono ?_; rintro e w3 ⟨rfl, rfl⟩))
          go_roundw
          case rel => exact ⟨k + 1, M, _, L, _, _, hlt, by go_num, rfl, rfl, rfl, hsub T2, HP2, HA2⟩
          case measure => simp [intOf]; omega
        | false =>
          rw [ho] at A1 kdn
          have HA2 := Lib.hid A1
          have hMo : M.off = false := A2.trans ho
          have kho := fun {w1} (T : Ds.St W.heap.size W w1 d M (.slice lv L.length lc) L ([] ++ [(wr.heap.size, .cells #[.int .i64 8, .string nb, .string tb, .string sb, .int .i64 at_, .int .i64 nn, .bool dn, .slice ca cn cc] 45)])) => T.holds hMo HP2.out
          clear hM A1 A2 A3 ho kdone ktold hway hpl hcuts hmany hnames hfits HA HP T0 T1 hMo
          go_wp2_with (first
            | (go_at_call 16; refine kA.mono ?_; clear kA; rintro e w2 ⟨rfl, T2⟩; clear x0 x1 x2 x3 x4 x5 x6 x7; obtain ⟨y0, y1, y2, y3, y4, y5, y6, y7⟩ := hbx T2; have kd2 := kdn T2; have kh2 := kho T2; clear kdn kho)
            | (go_at_call 17; refine kd2.mono ?_; rintro e w3 ⟨rfl, rfl⟩)
            | (go_at_call 22; refine kh2.mono ?_; clear kh2; rintro e w4 ⟨rfl, T4⟩))
          go_roundw
          case rel => exact ⟨k + 1, M, _, L, _, _, hlt, by go_num, rfl, rfl, rfl, hsub T4, HP2, HA2⟩
          case measure => simp [intOf]; omega
      have u8 : (what == 8) = false := beq_eq_false_iff_ne.2 e8
      by_cases e9 : what = 9
      · subst e9
        as_aux_lemma =>
        have hcutl : cs.length ≤ 140737488355328 := by rw [HCN.out]; omega
        have kc := T1.call (Dk.crash_good T0.good cs) fun F hA hG => Dk.crash_any hA hG (hcuts T1.below) hcutl (fun c hc => Nat.le_trans (hnames c hc) (by decide))
        obtain ⟨M, hM⟩ : ∃ M, Dk.crash m cs = M := ⟨_, rfl⟩
        have M1 : M.off = false := by rw [← hM]; rfl
        have M2 : M.left = 0 := by rw [← hM]; rfl
        have M3 : M.files = m.files.map (Dk.left cs) := by rw [← hM]; rfl
        have HP2 : Hid ((L.map (Dk.left cs)).Perm M.files) := Lib.hid (by rw [M3]; exact HP.out.map _)
        have HA2 : Hid (Ds.Arm M false y) := Lib.hid (Ds.arm_false M2)
        rw [hM] at kc
        have HF3 : Hid (∀ f ∈ L, f.sure ≤ f.data.length ∧ f.data.length ≤ 268435456) := Lib.hid fun f hf => by have := T0.good.file f (HP.out.mem_iff.1 hf); exact ⟨this.2.2, this.2.1⟩
        have hLn : L.length ≤ 4096 := by rw [HP.out.length_eq]; exact T0.good.many
        have kd := fun {w1} (T : Ds.St W.heap.size W w1 d M (.slice lv L.length lc) (L.map (Dk.left cs)) ([] ++ [(wr.heap.size, .cells #[.int .i64 9, .string nb, .string tb, .string sb, .int .i64 at_, .int .i64 nn, .bool dn, .slice ca cn cc] 45)])) => And.intro (T.down M1) (T.holds M1 HP2.out)
        clear hM M1 M2 M3 kdone ktold hway hpl hmany hnames hfits HA HP T0 T1
        go_wp2_with (go_at_call 18; refine kc.mono ?_; clear kc; rintro e w2 ⟨rfl, T2⟩; clear x0 x1 x2 x3 x4 x5 x6 x7)
        obtain ⟨bx, hbxx⟩ : ∃ bx, wr.heap.size = bx := ⟨_, rfl⟩
        rw [hbxx] at T2 kd ⊢
        simp only [hbxx] at hsub hbx
        clear hbxx
        have R0 : Ds.St W.heap.size W w2 d M (.slice lv L.length lc) (Ds.part (Dk.left cs) L 0) ([] ++ [(bx, .cells #[.int .i64 9, .string nb, .string tb, .string sb, .int .i64 at_, .int .i64 nn, .bool dn, .slice ca cn cc] 45)]) := by rw [Ds.part_zero]; exact T2
        clear T2
        go_loopw [12] (fun i w8 => ∃ j, j ≤ L.length ∧ i = .int .i64 (j : Nat) ∧ Ds.St W.heap.size W w8 d M (.slice lv L.length lc) (Ds.part (Dk.left cs) L j) ([] ++ [(bx, .cells #[.int .i64 9, .string nb, .string tb, .string sb, .int .i64 at_, .int .i64 nn, .bool dn, .slice ca cn cc] 45)])) (fun i _ => L.length - (intOf i).toNat)
        case atStart => exact ⟨0, Nat.zero_le _, rfl, R0⟩
        case round =>
          clear R0
          obtain ⟨j, hj, rfl, R⟩ := hrel
          by_cases hjl : j < L.length
          · obtain ⟨f, hf⟩ : ∃ f, L[j]? = some f := ⟨_, List.getElem?_eq_getElem hjl⟩
            obtain ⟨f1, f2⟩ := HF3.out f (List.mem_of_getElem? hf)
            have hpg : (Ds.part (Dk.left cs) L j)[j]? = some f := by rw [Ds.part_get]; exact hf
            have hps := Ds.part_set (Dk.left cs) L j f hf
            have hpl2 := Ds.part_len (Dk.left cs) L j
            obtain ⟨g, c, hv, z0, z1, z2, zf⟩ := R.row.at_ hpg
            rw [hpl2] at hv
            injection hv with e1 _ e3
            subst e1
            subst e3
            obtain ⟨fb, hfb, _⟩ := Tx.of f.name
            obtain ⟨db, hdb, _⟩ := Tx.of f.data
            rw [Tx.v_eq hfb] at z0
            rw [Tx.v_eq hdb] at z1
            obtain ⟨y0, y1, y2, y3, y4, y5, y6, y7⟩ := hbx R
            have hgb : bx ≠ g := fun e => R.ne (List.mem_append_right _ (List.mem_singleton.2 rfl)) (e ▸ rfl)
            have kk := fun {w1} (h : Below W.heap.size W w1) => Ds.kept_any w1 f hfb hdb f1 f2 (hcuts h) hcutl
            have S0 : wr.cell? ⟨bx, 7, none⟩ = some (.slice ca cn cc) ∧ wr.frozen? ⟨g, j * 3, none⟩ = false ∧ wr.frozen? ⟨g, j * 3 + 1, none⟩ = false ∧ wr.frozen? ⟨g, j * 3 + 2, none⟩ = false := ⟨y7, zf _, zf _, zf _⟩
            have hfin : ∀ {w3} (xb : ByteArray), xb.data.toList = (Dk.left cs f).data → Below wr.drew.heap.size wr.drew w3 → Ds.St W.heap.size W (((w3.setCell ⟨g, j * 3, none⟩ (.string fb)).setCell ⟨g, j * 3 + 1, none⟩ (.string xb)).setCell ⟨g, j * 3 + 2, none⟩ (.int .i64 xb.size)) d M (.slice (some ⟨g, 0, none⟩) L.length lc) (Ds.part (Dk.left cs) L (j + 1)) ([] ++ [(bx, .cells #[.int .i64 9, .string nb, .string tb, .string sb, .int .i64 at_, .int .i64 nn, .bool dn, .slice ca cn cc] 45)]) := fun {w3} xb hx hB => by
              have h9 := (((R.later (Below.refl _ _).drew).later hB).set3 hpl2 (by rw [hpl2]; exact hjl) ⟨f.name, xb.data.toList, xb.data.toList.length⟩)
              rw [← Ds.left_eq f1 hx, hps] at h9
              rw [Ds.left_eq f1 hx] at h9
              rw [Tx.v_eq hfb, Tx.v_eq (b := xb) rfl] at h9
              exact h9
            have hS9 : ∀ {w3}, Below wr.drew.heap.size wr.drew w3 → w3.cell? ⟨bx, 7, none⟩ = some (.slice ca cn cc) ∧ w3.frozen? ⟨g, j * 3, none⟩ = false ∧ w3.frozen? ⟨g, j * 3 + 1, none⟩ = false ∧ w3.frozen? ⟨g, j * 3 + 2, none⟩ = false := fun {w3} hB => by
              have R3 := (R.later (Below.refl _ _).drew).later hB
              obtain ⟨g', c', hv', _, _, _, zf'⟩ := R3.row.at_ hpg
              injection hv' with e1 _ _
              injection e1 with e1
              injection e1 with e1 _ _
              subst e1
              exact ⟨(hbx R3).2.2.2.2.2.2.2, zf' _, zf' _, zf' _⟩
            have hZ9 : ∀ {w3}, Below wr.drew.heap.size wr.drew w3 → w3.cell? ⟨g, j * 3, none⟩ = some (.string fb) ∧ w3.cell? ⟨g, j * 3 + 1, none⟩ = some (.string db) ∧ w3.cell? ⟨g, j * 3 + 2, none⟩ = some (.int .i64 f.sure) := fun {w3} hB => by
              have R3 := (R.later (Below.refl _ _).drew).later hB
              obtain ⟨g', c', hv', q0, q1, q2, _⟩ := R3.row.at_ hpg
              injection hv' with e1 _ _
              injection e1 with e1
              injection e1 with e1 _ _
              subst e1
              exact ⟨by rw [← Tx.v_eq hfb]; exact q0, by rw [← Tx.v_eq hdb]; exact q1, q2⟩
            have HJ := Lib.hid (And.intro hf (And.intro hpg (And.intro hps (And.intro hpl2 (And.intro hfb hdb)))))
            have HR := R.below
            clear hf hpg hps hpl2 hfb hdb R zf y0 y1 y2 y3 y4 y5 y6 f1 f2 kd hcuts hbx
            obtain ⟨i0, hi, hz0, hz1, hz2⟩ := info_parts Try.infoKnown
            go_upto_region 25 with fail
            rw [show Op.load 50 (Operand.tmp 78) = Ds.o79 from rfl]
            go_region_held_law (fun W' => W'.cell? ⟨bx, 7, none⟩ = some (.slice ca cn cc) ∧ W'.frozen? ⟨g, j * 3, none⟩ = false ∧ W'.frozen? ⟨g, j * 3 + 1, none⟩ = false ∧ W'.frozen? ⟨g, j * 3 + 2, none⟩ = false)
              (first
                | with_reducible assumption
                | exact S0
                | exact S9
                | exact ⟨((World.cell?_of_block (Below.heap_setCell _ ⟨g, _, none⟩ _ bx hgb)).trans ((World.cell?_of_block (Below.heap_setCell _ ⟨g, _, none⟩ _ bx hgb)).trans (World.cell?_of_block (Below.heap_setCell _ ⟨g, _, none⟩ _ bx hgb)))).trans S9.1, by rw [World.frozen?_setCell, World.frozen?_setCell, World.frozen?_setCell]; exact S9.2.1, by rw [World.frozen?_setCell, World.frozen?_setCell, World.frozen?_setCell]; exact S9.2.2.1, by rw [World.frozen?_setCell, World.frozen?_setCell, World.frozen?_setCell]; exact S9.2.2.2⟩)
              (first
                | (go_at_call 19; refine (kk HR.drew).mono ?_; rintro e w3 ⟨xb, rfl, hxb, hB3⟩
                   have S9 := hS9 hB3
                   obtain ⟨s1, s2, s3, s4⟩ := hS9 hB3
                   obtain ⟨q0, q1, q2⟩ := hZ9 hB3))
            all_goals (try go_wp2_with fail)
            all_goals
              have R9 := hfin xb hxb hB3
              clear S0 S9 hS9 hZ9 hfin
              go_roundw
              case rel => exact ⟨j + 1, hjl, by go_num, R9⟩
              case measure => simp [intOf]; omega
          · obtain rfl : j = L.length := by omega
            rw [Ds.part_all] at R
            obtain ⟨kd2, kh2⟩ := kd R
            clear kd hcuts hbx hj hjl
            go_wp2_with (first
              | (go_at_call 17; refine kd2.mono ?_; rintro e w3 ⟨rfl, rfl⟩)
              | (go_at_call 22; refine kh2.mono ?_; clear kh2; rintro e w4 ⟨rfl, T4⟩))
            have T5 := hsub T4
            go_roundw
            case rel => exact ⟨k + 1, M, _, L.map (Dk.left cs), _, _, hlt, by go_num, rfl, rfl, rfl, T5, HP2, HA2⟩
            case measure => simp [intOf]; omega
      have u9 : (what == 9) = false := beq_eq_false_iff_ne.2 e9
      by_cases hr : 1 ≤ what ∧ what ≤ 6
      · have hw : what = 1 ∨ what = 2 ∨ what = 3 ∨ what = 4 ∨ what = 5 ∨ what = 6 := by omega
        obtain ⟨b1, hb1⟩ : ∃ b1, decide (what = 1) = b1 := ⟨_, rfl⟩
        have HB1 := Lib.hid hb1
        clear hb1
        go_upto_region 26 with fail
        go_cut [84] (fun v X => v = .bool b1 ∧ X = wr.alloc (.cells #[.int .i64 what, .string nb, .string tb, .string sb, .int .i64 at_, .int .i64 nn, .bool dn, .slice ca cn cc] 45))
        case first =>
          clear kdone ktold hway hpl hcuts hmany hnames hfits hbx hsub HA HP T0 T1 hr e8 e9
          clear hw
          by_cases h : what = 1
          · subst h
            obtain rfl : b1 = true := HB1.out.symm.trans rfl
            go_wp2_with fail
            go_meet
            exact ⟨rfl, rfl⟩
          · obtain rfl : b1 = false := HB1.out.symm.trans (decide_eq_false h)
            have p1 : (what == 1) = false := beq_eq_false_iff_ne.2 h
            go_wp2_with fail
            go_meet
            exact ⟨rfl, rfl⟩
        case rest =>
        obtain ⟨rfl, rfl⟩ := hcut
        go_upto_if 84 with fail
        go_cut [84] (fun v X => v = .bool true ∧ X = wr.alloc (.cells #[.int .i64 what, .string nb, .string tb, .string sb, .int .i64 at_, .int .i64 nn, .bool dn, .slice ca cn cc] 45))
        case first =>
          clear kdone ktold hway hpl hcuts hmany hnames hfits hbx hsub HA HP T0 T1 hr e8 e9
          rcases hw with rfl | hw
          · obtain rfl : b1 = true := HB1.out.symm.trans rfl
            go_wp2_with fail
            go_meet
            exact ⟨rfl, rfl⟩
          · obtain rfl : b1 = false := HB1.out.symm.trans (decide_eq_false (by omega))
            rcases hw with rfl | rfl | rfl | rfl | rfl <;>
            · go_wp2_with fail
              go_meet
              exact ⟨rfl, rfl⟩
        case rest =>
          obtain ⟨rfl, rfl⟩ := hcut
          clear hw
          as_aux_lemma =>
          have kd := kdone T1
          have hG2 := Dw.done_good T0.good ⟨what, nm, to_, da, at_, nn, dn, .slice ca cn cc, cs⟩
          rcases hway hr with ⟨e, hd, he0, he45⟩ | ⟨ho, hd, hcan⟩
          · rw [hd] at kd
            replace kd := kd
            cases ho : m.off with
            | true =>
              obtain rfl : e = 45 := he45.2 ho
              obtain ⟨rfl, hl0⟩ := HA.out.off ho
              have kd1 := T1.down ho
              have kd2 := fun {w1} (T : Ds.St W.heap.size W w1 d m (.slice lv L.length lc) L ([] ++ [(wr.heap.size, .cells #[.int .i64 what, .string nb, .string tb, .string sb, .int .i64 at_, .int .i64 nn, .bool dn, .slice ca cn cc] 45)])) => T.down ho
              clear ho he0 he45 hd hl0 hG2 T0 T1
              clear kdone ktold hway hpl hcuts hmany hnames hfits e8 e9 hr
              go_wp2_with (first
                | (go_at_call 17; refine kd1.mono ?_; clear kd1; rintro e w2 ⟨rfl, rfl⟩)
                | (go_at_call 20; refine kd.mono ?_; clear kd; rintro e w3 ⟨rfl, T3⟩; clear x0 x1 x2 x3 x4 x5 x6 x7; obtain ⟨y0, y1, y2, y3, y4, y5, y6, y7⟩ := hbx T3; have kd3 := kd2 T3; clear kd2)
                | (go_at_call 17; refine kd3.mono ?_; clear kd3; rintro e w4 ⟨rfl, rfl⟩))
              go_roundw
              case rel => exact ⟨k + 1, m, _, L, _, _, hlt, by go_num, rfl, rfl, rfl, hsub T3, HP, HA⟩
              case measure => simp [intOf]; omega
            | false =>
              have q1 : (e == 45) = false := beq_eq_false_iff_ne.2 fun h => by have := he45.1 h; rw [ho] at this; cases this
              have q2 : (e == 0) = false := beq_eq_false_iff_ne.2 he0
              have q3 : (e != 0) = true := bne_iff_ne.2 he0
              have kd1 := T1.down ho
              have kd2 := fun {w1} (T : Ds.St W.heap.size W w1 d m (.slice lv L.length lc) L ([] ++ [(wr.heap.size, .cells #[.int .i64 what, .string nb, .string tb, .string sb, .int .i64 at_, .int .i64 nn, .bool dn, .slice ca cn cc] 45)])) => And.intro (T.down ho) (T.holds ho HP.out)
              clear ho he0 he45 hd hG2 T0 T1
              clear kdone ktold hway hpl hcuts hmany hnames hfits e8 e9 hr
              cases x <;>
              · go_wp2_with (first
                  | (go_at_call 17; refine kd1.mono ?_; clear kd1; rintro e w2 ⟨rfl, rfl⟩)
                  | (go_at_call 20; refine kd.mono ?_; clear kd; rintro e w3 ⟨rfl, T3⟩; clear x0 x1 x2 x3 x4 x5 x6 x7; obtain ⟨y0, y1, y2, y3, y4, y5, y6, y7⟩ := hbx T3; have kd4 := kd2 T3; clear kd2; obtain ⟨kd3, kh3⟩ := kd4)
                  | (go_at_call 17; refine kd3.mono ?_; clear kd3; rintro e w4 ⟨rfl, rfl⟩)
                  | (go_at_call 22; refine kh3.mono ?_; clear kh3; rintro e w5 ⟨rfl, T5⟩))
                go_roundw
                case rel => exact ⟨k + 1, m, _, L, _, _, hlt, by go_num, rfl, rfl, rfl, hsub T5, HP, HA⟩
                case measure => simp [intOf]; omega
          · rw [hd] at kd hG2
            obtain ⟨L', hT, hp'⟩ := hpl hr hcan
            have hG0 := T0.good
            have kt := fun {w1 M} (T : Ds.St W.heap.size W w1 d M (.slice lv L.length lc) L ([] ++ [(wr.heap.size, .cells #[.int .i64 what, .string nb, .string tb, .string sb, .int .i64 at_, .int .i64 nn, .bool dn, .slice ca cn cc] 45)])) => ktold T HP.out hG0 hT
            have kd1 := T1.down ho
            cases x with
            | false =>
              have hl0 := HA.out.no
              obtain ⟨M, ha, m1, m2, m3⟩ := Ds.acc0 hl0 (Ds.last m ⟨what, nm, to_, da, at_, nn, dn, .slice ca cn cc, cs⟩) (Ds.eff m ⟨what, nm, to_, da, at_, nn, dn, .slice ca cn cc, cs⟩)
              rw [ha] at kd
              replace kd := kd
              rw [← m3] at hp'
              have hMo := m1.trans ho
              have HP2 := Lib.hid hp'
              have HA2 : Hid (Ds.Arm M false y) := Lib.hid (Ds.arm_false m2)
              have kd2 := fun {w1 v1} (T : Ds.St W.heap.size W w1 d M v1 L' ([] ++ [(wr.heap.size, .cells #[.int .i64 what, .string nb, .string tb, .string sb, .int .i64 at_, .int .i64 nn, .bool dn, .slice ca cn cc] 45)])) => And.intro (T.down hMo) (T.holds hMo HP2.out)
              clear ho hd hcan hG2 hG0 hT hp' m1 m2 m3 ha hl0 hMo HP HA T0 T1
              clear kdone ktold hway hpl hcuts hmany hnames hfits e8 e9 hr
              go_wp2_with (first
                | (go_at_call 17; refine kd1.mono ?_; clear kd1; rintro e w2 ⟨rfl, rfl⟩)
                | (go_at_call 20; refine kd.mono ?_; clear kd; rintro e w3 ⟨rfl, T3⟩; clear x0 x1 x2 x3 x4 x5 x6 x7; obtain ⟨y0, y1, y2, y3, y4, y5, y6, y7⟩ := hbx T3; have kt3 := kt T3; clear kt)
                | (go_at_call 21; refine kt3.mono ?_; clear kt3; rintro e w6 ⟨v6, rfl, T6⟩; clear y0 y1 y2 y3 y4 y5 y6 y7; have kd4 := kd2 T6; clear kd2; obtain ⟨kd3, kh3⟩ := kd4)
                | (go_at_call 17; refine kd3.mono ?_; clear kd3; rintro e w4 ⟨rfl, rfl⟩)
                | (go_at_call 22; refine kh3.mono ?_; clear kh3; rintro e w5 ⟨rfl, T5⟩))
              go_roundw
              case rel => exact ⟨k + 1, M, _, L', _, _, hlt, by go_num, rfl, rfl, rfl, hsub T5, HP2, HA2⟩
              case measure => simp [intOf]; omega
            | true =>
              obtain ⟨hl1, _, hy⟩ := HA.out.yes
              obtain ⟨M, ha, m1, m2, m3⟩ := Ds.acc1 hl1 (Ds.last m ⟨what, nm, to_, da, at_, nn, dn, .slice ca cn cc, cs⟩) (Ds.eff m ⟨what, nm, to_, da, at_, nn, dn, .slice ca cn cc, cs⟩)
              rw [ha] at kd
              replace kd := kd
              have HA2 : Hid (Ds.Arm M false y) := Lib.hid (Ds.arm_false m2)
              cases hla : Ds.last m ⟨what, nm, to_, da, at_, nn, dn, .slice ca cn cc, cs⟩ with
              | true =>
                rw [hla, if_pos rfl] at m3
                rw [← m3] at hp'
                have HP2 := Lib.hid hp'
                have hz := Ds.last_true hla
                simp only at hz
                rw [hy] at hz
                have hw2 : (what = 2) ∨ (what ≠ 2 ∧ what ≠ 3 ∧ y = true) := by
                  rcases hz with h | ⟨h, h'⟩
                  · exact .inl h
                  · by_cases h2 : what = 2
                    · exact .inl h2
                    · exact .inr ⟨by omega, by omega, h'⟩
                have kd2 := fun {w1 v1} (T : Ds.St W.heap.size W w1 d M v1 L' ([] ++ [(wr.heap.size, .cells #[.int .i64 what, .string nb, .string tb, .string sb, .int .i64 at_, .int .i64 nn, .bool dn, .slice ca cn cc] 45)])) => T.down m1
                clear ho hd hcan hG2 hG0 hT hp' m1 m2 m3 ha hl1 hla hy hz HP HA T0 T1
                clear kdone ktold hway hpl hcuts hmany hnames hfits e8 e9 hr
                rcases hw2 with rfl | ⟨hr2, hr3, rfl⟩ <;> (try have r2 : (what == 2) = false := beq_eq_false_iff_ne.2 hr2) <;> (try have r3 : (what == 3) = false := beq_eq_false_iff_ne.2 hr3) <;> (try have r4 : (what != 3) = true := bne_iff_ne.2 hr3) <;> (try clear hr2 hr3) <;>
                · go_wp2_with (first
                    | (go_at_call 17; refine kd1.mono ?_; clear kd1; rintro e w2 ⟨rfl, rfl⟩)
                    | (go_at_call 20; refine kd.mono ?_; clear kd; rintro e w3 ⟨rfl, T3⟩; clear x0 x1 x2 x3 x4 x5 x6 x7; obtain ⟨y0, y1, y2, y3, y4, y5, y6, y7⟩ := hbx T3; have kt3 := kt T3; clear kt)
                    | (go_at_call 21; refine kt3.mono ?_; clear kt3; rintro e w6 ⟨v6, rfl, T6⟩; clear y0 y1 y2 y3 y4 y5 y6 y7; have kd3 := kd2 T6; clear kd2)
                    | (go_at_call 17; refine kd3.mono ?_; clear kd3; rintro e w4 ⟨rfl, rfl⟩))
                  go_roundw
                  case rel => exact ⟨k + 1, M, _, L', _, _, hlt, by go_num, rfl, rfl, rfl, hsub T6, HP2, HA2⟩
                  case measure => simp [intOf]; omega
              | false =>
                rw [hla, if_neg (by decide)] at m3
                have HP2 : Hid (L.Perm M.files) := Lib.hid (by rw [m3]; exact HP.out)
                have hz := Ds.last_false hla
                simp only at hz
                rw [hy] at hz
                have hw2 : (what = 3) ∨ (what ≠ 2 ∧ what ≠ 3 ∧ y = false) := by
                  rcases hz with h | ⟨h, h'⟩
                  · exact .inl h
                  · by_cases h2 : what = 3
                    · exact .inl h2
                    · exact .inr ⟨by omega, by omega, h'⟩
                have kd2 := fun {w1} (T : Ds.St W.heap.size W w1 d M (.slice lv L.length lc) L ([] ++ [(wr.heap.size, .cells #[.int .i64 what, .string nb, .string tb, .string sb, .int .i64 at_, .int .i64 nn, .bool dn, .slice ca cn cc] 45)])) => T.down m1
                clear kt ho hd hcan hG2 hG0 hT hp' m1 m2 m3 ha hl1 hla hy hz HP HA T0 T1
                clear kdone ktold hway hpl hcuts hmany hnames hfits e8 e9 hr
                rcases hw2 with rfl | ⟨hr2, hr3, rfl⟩ <;> (try have r2 : (what == 2) = false := beq_eq_false_iff_ne.2 hr2) <;> (try have r3 : (what == 3) = false := beq_eq_false_iff_ne.2 hr3) <;> (try have r4 : (what != 3) = true := bne_iff_ne.2 hr3) <;> (try clear hr2 hr3) <;>
                · go_wp2_with (first
                    | (go_at_call 17; refine kd1.mono ?_; clear kd1; rintro e w2 ⟨rfl, rfl⟩)
                    | (go_at_call 20; refine kd.mono ?_; clear kd; rintro e w3 ⟨rfl, T3⟩; clear x0 x1 x2 x3 x4 x5 x6 x7; obtain ⟨y0, y1, y2, y3, y4, y5, y6, y7⟩ := hbx T3; have kd3 := kd2 T3; clear kd2)
                    | (go_at_call 17; refine kd3.mono ?_; clear kd3; rintro e w4 ⟨rfl, rfl⟩))
                  go_roundw
                  case rel => exact ⟨k + 1, M, _, L, _, _, hlt, by go_num, rfl, rfl, rfl, hsub T3, HP2, HA2⟩
                  case measure => simp [intOf]; omega
      · have v1 : (what == 1) = false := beq_eq_false_iff_ne.2 (by omega)
        have v2 : (what == 2) = false := beq_eq_false_iff_ne.2 (by omega)
        have v3 : (what == 3) = false := beq_eq_false_iff_ne.2 (by omega)
        have v4 : (what == 4) = false := beq_eq_false_iff_ne.2 (by omega)
        have v5 : (what == 5) = false := beq_eq_false_iff_ne.2 (by omega)
        have v6 : (what == 6) = false := beq_eq_false_iff_ne.2 (by omega)
        cases ho : m.off with
        | true =>
          have kd2 := T1.down ho
          clear ho kdone ktold hway hpl hcuts hmany hnames hfits hbx e8 e9 hr
          go_wp2_with (go_at_call 17; refine kd2.mono ?_; rintro e w3 ⟨rfl, rfl⟩)
          go_roundw
          case rel => exact ⟨k + 1, m, _, L, _, _, hlt, by go_num, rfl, rfl, rfl, hsub T1, HP, HA⟩
          case measure => simp [intOf]; omega
        | false =>
          have kd2 := T1.down ho
          have kh2 := T1.holds ho HP.out
          clear ho kdone ktold hway hpl hcuts hmany hnames hfits hbx e8 e9 hr
          go_wp2_with (first
            | (go_at_call 17; refine kd2.mono ?_; rintro e w3 ⟨rfl, rfl⟩)
            | (go_at_call 22; refine kh2.mono ?_; clear kh2; rintro e w4 ⟨rfl, T4⟩))
          go_roundw
          case rel => exact ⟨k + 1, m, _, L, _, _, hlt, by go_num, rfl, rfl, rfl, hsub T4, HP, HA⟩
          case measure => simp [intOf]; omega
    · obtain rfl : N.length = k := by omega
      clear hF hk hlt
      as_aux_lemma =>
      obtain ⟨lv, lc, rfl⟩ := T0.row.form
      have hfin : ∀ {w M}, Ds.St W.heap.size W w d M (.slice lv L.length lc) L [] → M.off = false → (M.left = 0 ∨ M.left = 1) → ∃ z e f, Calls Try.prog 23 #[.pointer (some ⟨d, 0, none⟩), .string ⟨#[116, 104, 101, 46, 108, 97, 115, 116, 46, 111, 110, 101]⟩] w (fun x W' => x = .returned (.int .i64 e) ∧ Ds.St W.heap.size W W' d z (.slice lv L.length lc) L []) ∧ (∀ {w2}, Ds.St W.heap.size W w2 d z (.slice lv L.length lc) L [] → Calls Try.prog 24 #[.pointer (some ⟨d, 0, none⟩), .string ⟨#[116, 104, 101, 46, 108, 97, 115, 116, 46, 111, 110, 101]⟩] w2 (fun x W' => x = .returned (.int .i64 f) ∧ ∃ z2, Ds.St W.heap.size W W' d z2 (.slice lv L.length lc) L [])) ∧ ((e = 0 ∧ f = 0) ∨ e = 41 ∨ e = 43 ∨ e = 45) := fun {w M} T ho hl =>
        ⟨_, _, _, T.call (Dk.create_good T.good _) fun F hA hG => Dk.create_any hA hG Ds.lastOne (by decide), fun T2 => (T2.call (Dk.delete_good T2.good _) fun F hA hG => Dk.delete_any hA hG Ds.lastOne (by decide)).mono fun e W' ⟨a, b⟩ => ⟨a, _, b⟩, Ds.last_law ho hl _ (by kernel_rfl)⟩
      cases ho : m.off with
      | true =>
        have kd2 := T0.down ho
        have kc := T0.call (Dk.crash_good T0.good []) fun F hA hG => Dk.crash_any hA hG (.inl ⟨⟨none, 0, rfl⟩, rfl⟩) (by simp) (by simp)
        have hz := fun {w} (T : Ds.St W.heap.size W w d (Dk.crash m []) (.slice lv L.length lc) L []) => hfin T rfl (.inl rfl)
        obtain ⟨M, hM⟩ : ∃ M, Dk.crash m [] = M := ⟨_, rfl⟩
        rw [hM] at kc hz
        clear hfin ho HP HA hM T0
        go_upto_region 49 with (first
          | (go_at_call 17; refine kd2.mono ?_; clear kd2; rintro e w3 ⟨rfl, rfl⟩)
          | (go_at_call 18; refine kc.mono ?_; clear kc; rintro e w4 ⟨rfl, T4⟩))
        obtain ⟨z, e, f, kcr, kdl, hef⟩ := hz T4
        clear hz
        rcases hef with ⟨rfl, rfl⟩ | rfl | rfl | rfl <;>
        · go_wp2_with (first
            | (go_at_call 23; refine kcr.mono ?_; clear kcr; rintro e w5 ⟨rfl, T5⟩; have kdl2 := kdl T5; clear kdl)
            | (go_at_call 24; refine kdl2.mono ?_; clear kdl2; rintro e w6 ⟨rfl, z2, T6⟩))
          go_ret
          exact ⟨rfl, T6.below⟩
      | false =>
        have kd2 := T0.down ho
        obtain ⟨z, e, f, kcr, kdl, hef⟩ := hfin T0 ho HA.out.left
        clear hfin ho HP HA T0
        rcases hef with ⟨rfl, rfl⟩ | rfl | rfl | rfl <;>
        · go_wp2_with (first
            | (go_at_call 17; refine kd2.mono ?_; clear kd2; rintro e w3 ⟨rfl, rfl⟩)
            | (go_at_call 23; refine kcr.mono ?_; clear kcr; rintro e w5 ⟨rfl, T5⟩; have kdl2 := kdl T5; clear kdl)
            | (go_at_call 24; refine kdl2.mono ?_; clear kdl2; rintro e w6 ⟨rfl, z2, T6⟩))
          go_ret
          exact ⟨rfl, T6.below⟩
#print axioms Ds.survives
end Go.Proofs.Ytgbeeghdoilmkaa
