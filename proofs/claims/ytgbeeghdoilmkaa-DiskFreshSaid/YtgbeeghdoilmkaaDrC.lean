/- Disks (the document's): images. Conditions: each theorem's own hypotheses. -/
import Derived.Test.YtgbeeghdoilmkaaDrA
namespace Go.Proofs.Ytgbeeghdoilmkaa
open Go.RowKit Go.Maps Go.Sort
set_option linter.unusedVariables false

theorem Dr.not_own {w : World} {B : Nat} {v : Value} {l : List UInt8} (h : Dk.Own w B v l) {g : Nat} {t : TypeId} {cs : Array Value} (hb : Blk w g t cs) (ht : t ≠ 5) : some g ≠ v.ownBlock := by
  intro e
  rcases h.2 with ⟨rfl, _⟩ | ⟨g2, cap, cur, rfl, _, hg, _⟩
  · cases e
  · injection e with e
    subst e
    unfold Blk at hb
    rw [hb] at hg
    injection hg with hg
    injection hg with _ hg _
    exact ht hg
theorem Dr.be_cells (n : Nat) (hn : n ≤ 268435456) : (#[Value.int IntKind.u8 ((n : Int) / 16777216), Value.int IntKind.u8 ((n : Int) / 65536 % 256), Value.int IntKind.u8 ((n : Int) / 256 % 256), Value.int IntKind.u8 ((n : Int) % 256)] : Array Value) = ((Dk.be4 n).map Dk.bv).toArray := by
  have h : ∀ k : Nat, ((UInt8.ofNat (k % 256)).toNat : Int) = (k : Int) % 256 := fun k => by
    rw [UInt8.toNat_ofNat', Nat.mod_eq_of_lt (Nat.mod_lt _ (by decide))]
    omega
  unfold Dk.be4 Dk.bv
  simp only [List.map_cons, List.map_nil, h]
  congr 5
  · congr 1
    omega
section
variable {W : World} {r : Nat} {m : Dk.M} {F : Nat → Prop}
set_option maxRecDepth 100000 in
set_option maxHeartbeats 4000000 in
theorem Dr.image_any (h : Dr.At W r m F) (hG : Dk.Good m) :
    Calls Try.prog 46 #[.pointer (some ⟨r, 0, none⟩)] W fun e W' => e = .returned (Tx.v (Dk.image m)) ∧ Below W.heap.size W W' := by
  obtain ⟨v, hS, rfl⟩ := h
  obtain ⟨a, c, hv⟩ := hS.row.form
  have hm0 := hG.many
  have hle := Dk.imgs_take hG
  go_enter Try.func46, Try.ntmps46
  go_wp2_with fail
  go_loopw [3, 4] (fun l i wr => ∃ k, k ≤ m.files.length ∧ i = .int .i64 k ∧ Dk.Own wr W.heap.size l (68 :: Dk.imgs (m.files.take k)) ∧ Below W.heap.size W wr) (fun _ i _ => m.files.length - (intOf i).toNat)
  case atStart => exact ⟨0, Nat.zero_le _, rfl, Dk.Own.new W 68, (Below.refl _ _).alloc (Nat.le_refl _) _⟩
  case round =>
    obtain ⟨k, hk, rfl, hown, hB⟩ := hrel
    have hSr := hS.later hB (Nat.le_refl _)
    obtain ⟨d0, d1, _⟩ := hSr.seven
    rw [hv] at d1
    by_cases hlt : k < m.files.length
    · obtain ⟨f, hf⟩ : ∃ f, m.files[k]? = some f := ⟨_, List.getElem?_eq_getElem hlt⟩
      obtain ⟨g, c', hv2, q0, q1, q2⟩ := hSr.row.at_ hf
      rw [hv] at hv2
      injection hv2 with hv2 _ hc
      subst hv2 hc
      obtain ⟨hf1, hf2, hf3⟩ := hG.file f (List.mem_of_getElem? hf)
      have hf4 : f.name.length ≤ 32 := by
        have h := hf1
        unfold Dk.named at h
        rw [Bool.and_eq_true, decide_eq_true_iff] at h
        exact h.2.2
      obtain ⟨nb, hnb, hnbs⟩ := Tx.of f.name
      obtain ⟨db, hdb, hdbs⟩ := Tx.of f.data
      rw [Tx.v_eq hnb] at q0
      rw [Tx.v_eq hdb] at q1
      obtain ⟨z, hz⟩ : ∃ z, UInt8.ofNat f.name.length = z := ⟨_, rfl⟩
      have hzn : IntKind.u8.wrap (nb.size : Int) = (z.toNat : Int) := by
        rw [← hz, UInt8.toNat_ofNat', hnbs, Nat.mod_eq_of_lt (by omega)]
        unfold IntKind.wrap; simp [IntKind.bits, IntKind.signed]; omega
      obtain ⟨l, hl⟩ : ∃ l, (68 : UInt8) :: Dk.imgs (m.files.take k) = l := ⟨_, rfl⟩
      rw [hl] at hown
      have hll : l.length ≤ 1074000001 := by rw [← hl, List.length_cons]; have := hle k; omega
      have hnext : Hid ((68 : UInt8) :: Dk.imgs (m.files.take (k + 1)) = l ++ (z :: (f.name ++ Dk.be4 f.sure ++ f.data.take f.sure))) := by
        show _ = _
        rw [Dk.imgs_more hf, ← hl, ← hz]; rfl
      have HZ := Lib.hid hz
      have HL := Lib.hid hl
      have HN := Lib.hid (And.intro hnb hnbs)
      have HD := Lib.hid (And.intro hdb hdbs)
      have HF := Lib.hid hf
      have HV := Lib.hid hv
      clear hz hl hnb hnbs hdb hdbs hf hle hv
      go_upto_region 6 with fail
      have hX := Blk.new wr 38 #[Value.string nb, Value.string db, Value.int IntKind.i64 (f.sure : Int)]
      have hBX := hB.alloc hB.size (.cells #[Value.string nb, Value.string db, Value.int IntKind.i64 (f.sure : Int)] 38)
      have hoX := hown.alloc (.cells #[Value.string nb, Value.string db, Value.int IntKind.i64 (f.sure : Int)] 38)
      obtain ⟨t, ht⟩ : ∃ t, wr.heap.size = t := ⟨_, rfl⟩
      obtain ⟨X, hXX⟩ : ∃ X, wr.alloc (.cells #[Value.string nb, Value.string db, Value.int IntKind.i64 (f.sure : Int)] 38) = X := ⟨_, rfl⟩
      rw [hXX] at hX hBX hoX ⊢
      have htB := hB.size
      rw [ht] at hX htB ⊢
      clear hXX ht hSr d0 d1 q0 q1 q2 hB hown
      have p0 := hX.cell 0
      have p1 := hX.cell 1
      have p2 := hX.cell 2
      simp only [List.getElem?_toArray, List.getElem?_cons_zero, List.getElem?_cons_succ] at p0 p1 p2
      go_upto_region 9 with (first
        | (at_builtin; refine Dk.wpList_append rfl _ _ 81 9 rfl _ _ rfl rfl _ (fun ty => ho1.text nb (by rw [List.length_append]; simp; have := HN.out.2; omega) hB1.size ty) ?_; intro v2 w5 ho2; obtain ⟨ho2, hg2⟩ := ho2)
        | (at_builtin; refine Dk.wpList_append rfl _ _ 81 81 rfl _ _ rfl rfl _ (fun ty => (hoX.alloc _).cat (Dk.Src.new _ [z] 1 1 rfl) (by simp; omega) (by have := hBX.size; simp; omega) ty) ?_; intro v1 w4 ho1; obtain ⟨ho1, hg1⟩ := ho1
           have hB1 := (hBX.alloc hBX.size _).grown hg1 (by have := hBX.size; simp; omega) (fun k hk => (World.ownsRow.lt hoX k hk).1)
           have hX1 := (hX.alloc _).grown hg1 (Dr.not_own hoX hX (by decide))
           have p0 := hX1.cell 0
           simp only [List.getElem?_toArray, List.getElem?_cons_zero] at p0))
      have hX2 := hX1.grown hg2 (Dr.not_own ho1 hX1 (by decide))
      have hB2 := hB1.grown hg2 hB1.size (fun k hk => (World.ownsRow.lt ho1 k hk).1)
      obtain ⟨l2, hl2⟩ : ∃ l2, l ++ [z] ++ nb.data.toList = l2 := ⟨_, rfl⟩
      rw [hl2] at ho2
      have hll2 : l2.length ≤ 1074000034 := by
        rw [← hl2, List.length_append, List.length_append, ← Tx.size]
        have := HN.out.2
        simp
        omega
      have HL2 := Lib.hid hl2
      clear hl2 hX1 hB1 ho1 hX hBX hoX hg1 hg2 p0 p1 p2
      have p1 := hX2.cell 1
      simp only [List.getElem?_toArray, List.getElem?_cons_zero, List.getElem?_cons_succ] at p1
      have hsrc : Dk.Src (w5.alloc (.cells #[Value.int IntKind.u8 ((f.sure : Int) / 16777216), Value.int IntKind.u8 ((f.sure : Int) / 65536 % 256), Value.int IntKind.u8 ((f.sure : Int) / 256 % 256), Value.int IntKind.u8 ((f.sure : Int) % 256)] 5)) (.slice (some ⟨w5.heap.size, 0, none⟩) 4 4) (Dk.be4 f.sure) := by
        rw [Dr.be_cells f.sure (by omega)]
        exact Dk.Src.new w5 _ 4 4 rfl
      have h4 : (Dk.be4 f.sure).length = 4 := rfl
      have hds := HD.out.2
      have s1 : (f.sure : Int) ≤ (db.size : Int) := by omega
      obtain ⟨yb, hyb⟩ : ∃ yb, db.extract 0 f.sure = yb := ⟨_, rfl⟩
      have hyl : yb.data.toList = f.data.take f.sure := by rw [← hyb, Tx.extract, HD.out.1]; rfl
      have hys : yb.size ≤ 268435456 := by rw [Tx.size, hyl, List.length_take]; omega
      have HY := Lib.hid hyl
      clear hyl hds
      go_wp2_with (first
        | (at_builtin; refine Dk.wpList_append rfl _ _ 81 9 rfl _ _ rfl rfl _ (fun ty => ho3.text yb (by rw [List.length_append]; omega) hB3.size ty) ?_; intro v4 w7 ho4; obtain ⟨ho4, hg4⟩ := ho4)
        | (at_builtin; refine Dk.wpList_append rfl _ _ 81 81 rfl _ _ rfl rfl _ (fun ty => (ho2.alloc _).cat hsrc (by omega) (by have := hB2.size; simp; omega) ty) ?_; intro v3 w6 ho3; obtain ⟨ho3, hg3⟩ := ho3
           have hB3 := (hB2.alloc hB2.size _).grown hg3 (by have := hB2.size; simp; omega) (fun k hk => (World.ownsRow.lt ho2 k hk).1)
           have hX3 := (hX2.alloc _).grown hg3 (Dr.not_own ho2 hX2 (by decide))
           have p1 := hX3.cell 1
           simp only [List.getElem?_toArray, List.getElem?_cons_zero, List.getElem?_cons_succ] at p1))
      go_roundw
      case rel =>
        refine ⟨k + 1, hlt, by go_num, ?_, hB3.grown hg4 hB3.size (fun k hk => (World.ownsRow.lt ho3 k hk).1)⟩
        rw [hnext.out, ← HN.out.1]
        rw [← HL2.out, HY.out] at ho4
        simpa using ho4
      case measure => simp [intOf]; omega
    · obtain rfl : k = m.files.length := by omega
      rw [List.take_length] at hown
      have hcv := Dk.conv_own hown rfl
      have HV := Lib.hid hv
      clear hv
      go_wp2_with fail
      go_ret
      exact ⟨rfl, hB⟩
end
end Go.Proofs.Ytgbeeghdoilmkaa
