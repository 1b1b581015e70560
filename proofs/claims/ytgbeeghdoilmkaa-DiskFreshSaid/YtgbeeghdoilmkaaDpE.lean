/- Two disks side by side: whole, and the law DiskPlays. Conditions: each theorem's own hypotheses. -/
import Derived.Test.YtgbeeghdoilmkaaDpD
import Derived.Test.YtgbeeghdoilmkaaDwL
namespace Go.Proofs.Ytgbeeghdoilmkaa
open Go.RowKit Go.Maps Go.Sort
set_option linter.unusedVariables false

/-- A row of cuts of the call's own. -/
def Dp.cutCells : List Dk.Cut → List Value
  | [] => []
  | c :: l => Tx.v c.name :: .int .i64 c.keep :: .int .u8 c.spoil.toNat :: Dp.cutCells l
theorem Dp.cutCells_len : ∀ l, (Dp.cutCells l).length = l.length * 3
  | [] => rfl
  | f :: l => by rw [Dp.cutCells, List.length_cons, List.length_cons, List.length_cons, Dp.cutCells_len l, List.length_cons]; omega
theorem Dp.cutCells_append : ∀ a b, Dp.cutCells (a ++ b) = Dp.cutCells a ++ Dp.cutCells b
  | [], _ => rfl
  | h :: a, b => by rw [List.cons_append, Dp.cutCells, Dp.cutCells, Dp.cutCells_append a b]; rfl
theorem Dp.cutCells_one : ∀ (l : List Dk.Cut), ∀ u ∈ Dp.cutCells l, u.oneCell' = true
  | [], u, hu => by cases hu
  | h :: l, u, hu => by
    rw [Dp.cutCells] at hu
    rcases List.mem_cons.1 hu with rfl | hu
    · rfl
    rcases List.mem_cons.1 hu with rfl | hu
    · rfl
    rcases List.mem_cons.1 hu with rfl | hu
    · rfl
    exact Dp.cutCells_one l u hu
theorem Dp.cutCells_get : ∀ (l : List Dk.Cut) (q : Nat) (h : Dk.Cut), l[q]? = some h → (Dp.cutCells l)[q * 3]? = some (Tx.v h.name) ∧ (Dp.cutCells l)[q * 3 + 1]? = some (.int .i64 h.keep) ∧ (Dp.cutCells l)[q * 3 + 2]? = some (.int .u8 h.spoil.toNat)
  | [], q, h, hq => by simp at hq
  | x :: l, 0, h, hq => by
    obtain rfl := Option.some.inj hq
    exact ⟨rfl, rfl, rfl⟩
  | x :: l, q + 1, h, hq => by
    have := Dp.cutCells_get l q h hq
    rw [show (q + 1) * 3 = q * 3 + 1 + 1 + 1 from by omega, Dp.cutCells]
    exact this
def Dp.Cuts (W : World) (B : Nat) (v : Value) (l : List Dk.Cut) : Prop := W.ownsRow B 61 3 v l.length (Dp.cutCells l)
theorem Dp.Cuts.form {W : World} {B : Nat} {v : Value} {l : List Dk.Cut} (h : Dp.Cuts W B v l) : ∃ a c, v = .slice a l.length c := by
  rcases h.2 with ⟨h1, h2⟩ | ⟨g, cap, cur, h1, _⟩
  · exact ⟨none, 0, by rw [h1, h2]⟩
  · exact ⟨_, _, h1⟩
theorem Dp.Cuts.lt {W : World} {B : Nat} {v : Value} {l : List Dk.Cut} (h : Dp.Cuts W B v l) {k : Nat} (hk : v.ownBlock = some k) : B ≤ k ∧ k < W.heap.size := World.ownsRow.lt h k hk
theorem Dp.Cuts.cts {W : World} {B : Nat} {v : Value} {l : List Dk.Cut} (h : Dp.Cuts W B v l) : Dk.Cts W v l := by
  by_cases h0 : 0 < l.length
  · obtain ⟨g, c, rfl, _⟩ := World.ownsRow.form h h0
    refine .inr ⟨g, 0, c, rfl, (h.lt (k := g) rfl).2, fun k x hk => ?_⟩
    have hlt := (List.getElem?_eq_some_iff.1 hk).1
    obtain ⟨h1, h2, h3⟩ := Dp.cutCells_get l k x hk
    rw [Nat.zero_add]
    refine ⟨?_, ?_, ?_⟩
    · rw [World.ownsRow.cellAt h (k * 3) (by omega), h1]
    · rw [World.ownsRow.cellAt h (k * 3 + 1) (by omega), h2]
    · rw [World.ownsRow.cellAt h (k * 3 + 2) (by omega), h3]
  · obtain rfl : l = [] := List.length_eq_zero_iff.1 (by omega)
    obtain ⟨a, c, rfl⟩ := h.form
    exact .inl ⟨⟨a, c, rfl⟩, rfl⟩
theorem Dp.Cuts.keep {W W' : World} {B : Nat} {v : Value} {l : List Dk.Cut} (h : Dp.Cuts W B v l) (hk : ∀ k, v.ownBlock = some k → W'.heap[k]? = W.heap[k]?) : Dp.Cuts W' B v l := by
  refine ⟨h.1, ?_⟩
  rcases h.2 with h | ⟨g, cap, cur, rfl, hb, hg, r⟩
  · exact .inl h
  · exact .inr ⟨g, cap, cur, rfl, hb, (hk g rfl).trans hg, r⟩
theorem Dp.Duo.add {B d r g : Nat} {W0 w w' : World} {m m' : Dk.M} {K : List (Nat × Obj)} {o : Obj} (h : Dp.Duo B W0 w d m r m' K) (hB : Below w.heap.size w w') (hg : w'.heap[g]? = some o) (hge : w.heap.size ≤ g) : Dp.Duo B W0 w' d m r m' (K ++ [(g, o)]) := by
  have hz := h.size
  obtain ⟨F, G, h1, h2, h3, h4, h5, h6, h7, h8⟩ := h
  refine ⟨F, G, h1.later hB (Nat.le_refl _), h2.later hB (Nat.le_refl _), h3, h4, fun p hp => ?_, h6, h7, h8.trans (hB.mono hz)⟩
  rcases List.mem_append.1 hp with hp | hp
  · obtain ⟨a, b, c⟩ := h5 p hp
    exact ⟨a, (hB.block _ (Dp.lt_of b)).trans b, c⟩
  · obtain rfl := List.mem_singleton.1 hp
    exact ⟨Nat.le_trans hz hge, hg, fun hf => by have := h1.lt hf; omega, fun hf => by have := h2.lt hf; omega⟩
/-- A row of cuts kept beside two disks. -/
theorem Dp.Duo.row {B d r : Nat} {W0 w w' : World} {m m' : Dk.M} {K : List (Nat × Obj)} {v : Value} {l : List Dk.Cut} (h : Dp.Duo B W0 w d m r m' K) (hB : Below w.heap.size w w') (ho : Dp.Cuts w' w.heap.size v l) :
    ∃ K', Dp.Duo B W0 w' d m r m' (K ++ K') ∧ ∀ w2 m1 m2, Dp.Duo B W0 w2 d m1 r m2 (K ++ K') → Dk.Cts w2 v l := by
  have h0 := ho
  rcases ho.2 with ⟨hv, hx⟩ | ⟨g, cap, cur, hv, hb, hg, _⟩
  · refine ⟨[], by rw [List.append_nil]; exact h.later hB, fun w2 m1 m2 _ => (h0.keep fun k hk => ?_).cts⟩
    rw [hv] at hk
    cases hk
  · refine ⟨_, h.add hB hg hb, fun w2 m1 m2 D => (h0.keep fun k hk => ?_).cts⟩
    rw [hv] at hk
    obtain rfl : g = k := Option.some.inj hk
    rw [D.blk (List.mem_append_right _ (List.mem_singleton.2 rfl)), hg]
/-- All of every file is kept. -/
def Dp.all (m : Dk.M) : List Dk.Cut := m.files.map fun f => ⟨f.name, 1099511627776, 0⟩
set_option maxRecDepth 100000 in
set_option maxHeartbeats 4000000 in
theorem Dp.whole_any {B d r : Nat} {W0 w : World} {m m' : Dk.M} {K : List (Nat × Obj)} (h : Dp.Duo B W0 w d m r m' K) (hl : Dp.Like m m') :
    Calls Try.prog 33 #[.pointer (some ⟨d, 0, none⟩), .pointer (some ⟨r, 0, none⟩)] w fun e W' => e = .returned (.bool true) ∧ Dp.Duo B W0 W' d (Dk.crash m (Dp.all m')) r (Dr.crash m' (Dp.all m')) K := by
  obtain ⟨i0, hi, hz0, hz1, hz2⟩ := info_parts Dp.infoCut
  have hmany := h.good2.many
  have hG2 := h.good2
  have h0 := h
  obtain ⟨F, G, h1, ⟨v, hS, rfl⟩, _⟩ := h
  obtain ⟨a, c, hv⟩ := hS.row.form
  go_enter Try.func33, Try.ntmps33
  go_wp2_with fail
  go_loopw [5, 6] (fun o i wr => ∃ k : Nat, k ≤ m'.files.length ∧ i = .int .i64 k ∧ Dp.Cuts wr w.heap.size o ((m'.files.take k).map fun f => ⟨f.name, 1099511627776, 0⟩) ∧ Below w.heap.size w wr) (fun _ i _ => m'.files.length - (intOf i).toNat)
  case atStart => exact ⟨0, Nat.zero_le _, rfl, World.ownsRow_nil _ _ _ _, Below.refl _ _⟩
  case round =>
    obtain ⟨k, hk, rfl, HO, hB⟩ := hrel
    have hSr := hS.later hB (Nat.le_refl _)
    have d1 := hSr.seven.2.1
    rw [hv] at d1
    by_cases hlt : k < m'.files.length
    · obtain ⟨f, hf⟩ : ∃ f, m'.files[k]? = some f := ⟨_, List.getElem?_eq_getElem hlt⟩
      obtain ⟨g, c', nb, db, hv2, _, hnb, hdb, hds, c0, c1, c2⟩ := hSr.file hf
      rw [hv] at hv2
      injection hv2 with hv2 _ hcc
      subst hv2 hcc
      have hmore := Lib.hid (show ((m'.files.take (k + 1)).map fun f => (⟨f.name, 1099511627776, 0⟩ : Dk.Cut)) = ((m'.files.take k).map fun f => ⟨f.name, 1099511627776, 0⟩) ++ [⟨f.name, 1099511627776, 0⟩] by rw [Dk.take_more hf, List.map_append]; rfl)
      obtain ⟨l0, hl0⟩ : ∃ l0, ((m'.files.take k).map fun f => (⟨f.name, 1099511627776, 0⟩ : Dk.Cut)) = l0 := ⟨_, rfl⟩
      have hll : l0.length ≤ 4096 := by rw [← hl0, List.length_map, List.length_take]; omega
      rw [hl0] at HO hmore
      obtain ⟨oa, oc, rfl⟩ := HO.form
      have hone : ∀ (w : World), ∀ j u, (Dp.cutCells [⟨f.name, 1099511627776, 0⟩])[j]? = some u → (w.alloc (.cells #[.string nb, .int .i64 1099511627776, .int .u8 0] 61)).cell? ((⟨w.heap.size, 0, none⟩ : Addr).add j) = some u := fun w => by
        have h : Dp.cutCells [⟨f.name, 1099511627776, 0⟩] = #[Value.string nb, .int .i64 1099511627776, .int .u8 0].toList := by
          show [Tx.v f.name, _, _] = _
          rw [Tx.v_eq hnb]; rfl
        rw [h]
        exact World.news_of_block (Blk.new w 61 #[.string nb, .int .i64 1099511627776, .int .u8 0])
      have HV := Lib.hid hv
      clear hnb hdb hds hf hl0 hv
      go_wp2_with (at_builtin; refine wpList_append_own _ rfl (.tmp 16) (.tmp 26) 43 rfl w.heap.size 61 i0 (.agg #[.string ⟨#[]⟩, .int .i64 0, .int .u8 0]) 3 32 Try.underlying43 hi hz0 hz1 hz2 rfl (by decide) _ _ _ rfl (World.ownsRow.alloc HO _) ⟨_, 0, none⟩ 1 1 (Dp.cutCells [⟨f.name, 1099511627776, 0⟩]) rfl rfl (hone _) (Dp.cutCells_one _) (by unfold maxLen; omega) (by omega) (by have := hB.size; (try simp); omega) ?_; intro v3 w3 hown3 hgrow3 _)
      go_roundw
      case rel =>
        refine ⟨k + 1, hlt, by go_num, ?_, (hB.alloc hB.size _).grown hgrow3 (by have := hB.size; simp; omega) (fun q hq => (HO.lt hq).1)⟩
        rw [hmore.out]
        unfold Dp.Cuts
        rw [List.length_append, Dp.cutCells_append]
        exact hown3
      case measure => simp [intOf]; omega
    · obtain rfl : k = m'.files.length := by omega
      rw [List.take_length] at HO
      obtain ⟨K', D1, hcts⟩ := h0.row hB HO
      have hall : (Dp.all m').length ≤ 4096 := by unfold Dp.all; rw [List.length_map]; exact hmany
      have hnm : ∀ c ∈ Dp.all m', c.name.length ≤ 9223372036854775807 := fun c hc => by
        unfold Dp.all at hc
        obtain ⟨f, hf, rfl⟩ := List.mem_map.1 hc
        have h := (hG2.file f hf).1
        unfold Dk.named at h
        rw [Bool.and_eq_true, decide_eq_true_iff] at h
        show f.name.length ≤ _
        omega
      have e1 : (m'.files.map fun f => (⟨f.name, 1099511627776, 0⟩ : Dk.Cut)) = Dp.all m' := rfl
      rw [e1] at hcts HO
      have kc2 := D1.call2 (Dr.crash_good hG2 (Dp.all m')) fun F hA hG => Dr.crash_any hA hG (hcts _ _ _ D1) (by omega)
      have kc1 := fun {w2 m2} (D : Dp.Duo B W0 w2 d m r m2 (K ++ K')) => D.call1 (Dk.crash_good D.good1 (Dp.all m')) fun F hA hG => Dk.crash_any hA hG (hcts _ _ _ D) (by omega) hnm
      have hlk := Dp.like_crash hl (Dp.all m')
      have hal := fun {w2} (D : Dp.Duo B W0 w2 d (Dk.crash m (Dp.all m')) r (Dr.crash m' (Dp.all m')) (K ++ K')) => D.alike hlk
      obtain ⟨oa, oc, rfl⟩ := HO.form
      obtain ⟨M1, hM1⟩ : ∃ z, Dk.crash m (Dp.all m') = z := ⟨_, rfl⟩
      obtain ⟨M2, hM2⟩ : ∃ z, Dr.crash m' (Dp.all m') = z := ⟨_, rfl⟩
      rw [hM2] at kc2
      rw [hM1] at kc1
      rw [hM1, hM2] at hal
      have HM := Lib.hid (And.intro hM1 hM2)
      obtain ⟨nl, hnl⟩ : ∃ nl, (Dp.all m').length = nl := ⟨_, rfl⟩
      rw [hnl] at kc1 kc2 ⊢
      clear hM1 hM2 hcts hlk hnm hall e1 hnl HO
      go_wp2_with (first
        | (go_at_call 64; refine kc2.mono ?_; clear kc2; rintro e w2 ⟨rfl, D2⟩; have kc3 := kc1 D2; clear kc1)
        | (go_at_call 18; refine kc3.mono ?_; clear kc3; rintro e w3 ⟨rfl, D3⟩; have kal := hal D3; clear hal)
        | (go_at_call 13; refine kal.mono ?_; clear kal; rintro e w4 ⟨rfl, D4⟩))
      go_ret
      rw [HM.out.1, HM.out.2]
      exact ⟨rfl, D4.sub fun q hq => List.mem_append_left _ hq⟩
#print axioms Dp.whole_any
end Go.Proofs.Ytgbeeghdoilmkaa
