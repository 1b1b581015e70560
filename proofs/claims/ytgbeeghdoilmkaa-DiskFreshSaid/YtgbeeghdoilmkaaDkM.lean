/- Disks: Image, the program's. Conditions: each theorem's own hypotheses. -/
import Derived.Test.YtgbeeghdoilmkaaDkK
namespace Go.Proofs.Ytgbeeghdoilmkaa
open Go.RowKit Go.Maps Go.Sort
set_option linter.unusedVariables false

/-- A name, looked up for the file alone. -/
theorem Dk.Stand.run_find {W : World} {d b : Nat} {m : Dk.M} {L : List Dk.X} (h : Dk.Stand W d b m L) (s : ByteArray) (hs : s.size ≤ maxLen) :
    (Instr.lookup 75 (.map (some b)) (.string s) false).run Try.prog W = .ok (Dk.ptr (Dk.get Dk.X.nm s.data.toList L)) W := by
  have hkey : keyOf Try.prog 9 (.string s) = some (.string s.data.toList) := by
    simp [keyOf, Try.underlying9, mapKey, hs]
  obtain ⟨v, ps, hrun, hv⟩ := h.map.lookup Dk.strKeyed Try.underlying75 (Dk.zero_ptr W) Dk.R_nil hkey
  rw [hrun]
  rw [Dk.dat_at] at hv
  cases hg : Dk.get Dk.X.nm s.data.toList L with
  | some x =>
    rw [hg] at hv
    rw [Dk.R_lit hv]
    rfl
  | none =>
    rw [hg] at hv
    obtain ⟨c, rfl⟩ := Dk.R_inv hv
    cases c with
    | none => rfl
    | some a => simp [Dk.R] at hv
/-- In a sorted list each name finds its own. -/
theorem Dk.get_at {α : Type} {key : α → List UInt8} : ∀ {l : List α}, Dk.Up key l → ∀ {k : Nat} {x : α}, l[k]? = some x → Dk.get key (key x) l = some x
  | [], _, k, x, h => by cases h
  | y :: r, hu, 0, x, h => by
    obtain rfl : y = x := Option.some.inj h
    unfold Dk.get
    rw [List.find?_cons]
    simp
  | y :: r, hu, k + 1, x, h => by
    have h2 := List.pairwise_cons.1 hu
    have hx : x ∈ r := List.mem_of_getElem? h
    have hne : (key y == key x) = false := by
      rw [beq_eq_false_iff_ne]
      intro e
      have := h2.1 x hx
      rw [e] at this
      rw [WideAt.bytes_irrefl] at this
      cases this
    unfold Dk.get
    rw [List.find?_cons, hne]
    exact Dk.get_at h2.2 h
/-- The byte that stands at a place of a number. -/
theorem Dk.be4_at (n q : Nat) (hn : n ≤ 268435456) (hq : q < 4) : (Dk.be4 n)[q]? = some (UInt8.ofNat (n / 2 ^ (8 * (3 - q)) % 256)) := by
  rcases q with _ | _ | _ | _ | q
  · rfl
  · rfl
  · rfl
  · show some (UInt8.ofNat (n % 256)) = _
    rw [show 8 * (3 - (0 + 1 + 1 + 1)) = 0 from rfl, Nat.pow_zero, Nat.div_one]
  · omega
theorem Dk.take_more {α : Type} {l : List α} {q : Nat} {x : α} (h : l[q]? = some x) : l.take (q + 1) = l.take q ++ [x] := by
  obtain ⟨h1, h2⟩ := List.getElem?_eq_some_iff.1 h
  rw [List.take_succ_eq_append_getElem h1, h2]
theorem Dk.imgs_more {l : List Dk.F} {k : Nat} {f : Dk.F} (h : l[k]? = some f) : Dk.imgs (l.take (k + 1)) = Dk.imgs (l.take k) ++ Dk.img f := by
  rw [Dk.take_more h, Dk.imgs_append]
  show _ ++ (Dk.img f ++ []) = _
  rw [List.append_nil]
theorem Dk.two_far {w w' : World} {row : Option Nat} {a : Nat} {v0 v1 : Value} (hg : w.grownBy w' row) (ha : a < w.heap.size) (hr : ∀ k, row = some k → k ≠ a) (h : w.cell? ⟨a, 0, none⟩ = some v0 ∧ w.cell? ⟨a, 1, none⟩ = some v1) : w'.cell? ⟨a, 0, none⟩ = some v0 ∧ w'.cell? ⟨a, 1, none⟩ = some v1 := by
  have hb : some a ≠ row := fun e => hr a e.symm rfl
  exact ⟨(hg.cell_far ⟨a, 0, none⟩ ha hb).trans h.1, (hg.cell_far ⟨a, 1, none⟩ ha hb).trans h.2⟩

set_option maxRecDepth 100000 in
set_option maxHeartbeats 4000000 in
theorem Dk.image_any {W : World} {d : Nat} {m : Dk.M} {F : Nat → Prop} (h : Dk.At W d m F) (hG : Dk.Good m) :
    Calls Try.prog 25 #[.pointer (some ⟨d, 0, none⟩)] W fun e W' => e = .returned (Tx.v (Dk.image m)) ∧ Below W.heap.size W W' := by
  have hnm : ∀ B : World, Below W.heap.size W B → _ := fun B hB => Dk.names_of (h.later hB (Nat.le_refl _)) hG
  obtain ⟨b, L, hS, rfl⟩ := h
  go_enter Try.func25, Try.ntmps25
  go_upto_region 2 with fail
  obtain ⟨W1, hW1⟩ : ∃ W1, W.alloc (.cells #[.int .u8 68] 5) = W1 := ⟨_, rfl⟩
  have o1 : Dk.Own W1 W.heap.size (.slice (some ⟨W.heap.size, 0, none⟩) 1 1) [68] := by rw [← hW1]; exact Dk.Own.new W 68
  have hB1 : Below W.heap.size W W1 := by rw [← hW1]; exact (Below.refl _ _).alloc (Nat.le_refl _) _
  rw [hW1]
  have hc := hnm W1 hB1
  clear hnm hW1
  go_wp2_with (go_at_call 59; refine hc.mono ?_; rintro e w2 ⟨nv, rfl, hr, hB2⟩; obtain ⟨A, c, rfl⟩ : ∃ A c, nv = .slice A m.files.length c := by (rcases hr.2 with ⟨h1, h2⟩ | ⟨g, c, cur, h1, _⟩; exact ⟨none, 0, by rw [h1, h2]⟩; exact ⟨_, _, h1⟩))
  have hB2' : Below W.heap.size W w2 := hB1.trans (hB2.mono hB1.size)
  have o2 : Dk.Own w2 W.heap.size (.slice (some ⟨W.heap.size, 0, none⟩) 1 1) [68] := o1.keep fun k hk => hB2.block k (World.ownsRow.lt o1 k hk).2
  have hLl : L.length = m.files.length := by rw [← hS.fs, List.length_map]
  have hLu : Dk.Up Dk.X.nm L := by
    have := hG.up
    unfold Dk.Up at this ⊢
    rw [← hS.fs, List.pairwise_map] at this
    exact this
  have hm0 := hG.many
  have hle := Dk.imgs_take hG
  obtain ⟨B1, hBB⟩ : ∃ B1, W1.heap.size = B1 := ⟨_, rfl⟩
  rw [hBB] at hr
  clear hBB hB2 o1 hB1 hc
  go_loopw [3, 12] (fun v i wr => ∃ k, k ≤ m.files.length ∧ i = .int .i64 k ∧ Dk.Own wr W.heap.size v (68 :: Dk.imgs (m.files.take k)) ∧ wr.ownsRow B1 9 1 (.slice A m.files.length c) m.files.length ((m.files.map Dk.F.name).map encStr) ∧ Below W.heap.size W wr) (fun _ i _ => m.files.length - (intOf i).toNat)
  case atStart => exact ⟨0, Nat.zero_le _, rfl, o2, hr, hB2'⟩
  case round =>
    obtain ⟨k, hk, rfl, hown, hrw, hB⟩ := hrel
    by_cases hlt : k < m.files.length
    · obtain ⟨f, hf⟩ : ∃ f, m.files[k]? = some f := ⟨_, List.getElem?_eq_getElem hlt⟩
      obtain ⟨x, hx⟩ : ∃ x, L[k]? = some x := ⟨_, List.getElem?_eq_getElem (by omega)⟩
      have hxf : x.f = f := by
        have h1 : (L.map fun x => x.f)[k]? = some x.f := by rw [List.getElem?_map, hx]; rfl
        rw [hS.fs, hf] at h1
        exact (Option.some.inj h1).symm
      have hget := Dk.get_at hLu hx
      have hxL := List.mem_of_getElem? hx
      have hSr := hS.later hB (Nat.le_refl _)
      obtain ⟨c0, _⟩ := hSr.eight
      obtain ⟨q1, q2⟩ := hSr.two hxL
      obtain ⟨hf1, hf2, hf3⟩ := hG.file f (List.mem_of_getElem? hf)
      have hf4 : f.name.length ≤ 32 := by
        have h := hf1
        unfold Dk.named at h
        rw [Bool.and_eq_true, decide_eq_true_iff] at h
        exact h.2.2
      obtain ⟨s, hsl, hss⟩ := Tx.of f.name
      have hxs : s.data.toList = x.nm := by rw [hsl, ← hxf]
      have hlook := hSr.run_find s (by unfold maxLen; omega)
      rw [hxs, hget] at hlook
      unfold Dk.ptr at hlook
      simp only at hlook
      have hR := (hSr.file x hxL).2
      rw [hxf] at q2 hR
      obtain ⟨g, c', hA, _, _⟩ := hrw.form (by omega)
      injection hA with hA _ hcc
      subst hA hcc
      have hcell := hrw.cellAt k (by omega)
      have hev : ((m.files.map Dk.F.name).map encStr)[k]? = some (.string s) := by
        rw [List.getElem?_map, List.getElem?_map, hf]
        exact congrArg some (Tx.v_eq hsl)
      rw [hev] at hcell
      obtain ⟨z, hz⟩ : ∃ z, UInt8.ofNat f.name.length = z := ⟨_, rfl⟩
      have hzn : IntKind.u8.wrap (s.size : Int) = (z.toNat : Int) := by
        rw [← hz, UInt8.toNat_ofNat', hss, Nat.mod_eq_of_lt (by omega)]
        unfold IntKind.wrap; simp [IntKind.bits, IntKind.signed]; omega
      obtain ⟨l, hl⟩ : ∃ l, (68 : UInt8) :: Dk.imgs (m.files.take k) = l := ⟨_, rfl⟩
      rw [hl] at hown
      have hll : l.length ≤ 1074000001 := by rw [← hl, List.length_cons]; have := hle k; omega
      have hnext : Hid ((68 : UInt8) :: Dk.imgs (m.files.take (k + 1)) = l ++ (z :: (f.name ++ Dk.be4 f.sure ++ f.data.take f.sure))) := by
        show _ = _
        rw [Dk.imgs_more hf, ← hl, ← hz]; rfl
      have HZ := Lib.hid hz
      have HL := Lib.hid hl
      have HX := Lib.hid hxf
      have HSL := Lib.hid hsl
      have HSS := Lib.hid hss
      have HF := Lib.hid hf
      have HLX := Lib.hid hx
      have HG := Lib.hid hget
      have HEV := Lib.hid hev
      clear hz hl hxf hsl hss hf hx hget hev hxs hle hLu
      go_upto_region 8 with (first
        | (at_builtin; refine Dk.wpList_append rfl _ _ 81 9 rfl _ _ rfl rfl _ (fun ty => ho1.text s (by rw [List.length_append]; simp; have := HSS.out; omega) (by have := hB.size; have := hg1.size; simp at this; omega) ty) ?_; intro v2 w5 ho2; obtain ⟨ho2, hg2⟩ := ho2)
        | (at_builtin; refine Dk.wpList_append rfl _ _ 81 81 rfl _ _ rfl rfl _ (fun ty => (hown.alloc _).cat (Dk.Src.new _ [z] 1 1 rfl) (by simp; omega) (by have := hB.size; simp; omega) ty) ?_; intro v1 w4 ho1; obtain ⟨ho1, hg1⟩ := ho1))
      have hB4 := (hB.alloc (by have := hB.size; omega) (.cells #[.int .u8 (z.toNat : Int)] 5)).grown hg1 (by have := hB.size; simp; omega) (fun k hk => (World.ownsRow.lt hown k hk).1)
      have hB5 := hB4.grown hg2 (by have := hB4.size; omega) (fun k hk => (World.ownsRow.lt ho1 k hk).1)
      have hr4 := (World.ownsRow.kept (World.ownsRow.kept hrw ((Below.refl wr.heap.size wr).alloc (Nat.le_refl _) (.cells #[.int .u8 (z.toNat : Int)] 5) |> fun h => ⟨h.os, h.tape, h.output, h.size, fun k hk _ => h.block k hk⟩) (Dk.own_ne hrw hown (by decide))) hg1 (Dk.own_ne (World.ownsRow.kept hrw ((Below.refl wr.heap.size wr).alloc (Nat.le_refl _) (.cells #[.int .u8 (z.toNat : Int)] 5) |> fun h => ⟨h.os, h.tape, h.output, h.size, fun k hk _ => h.block k hk⟩) (Dk.own_ne hrw hown (by decide))) (hown.alloc _) (by decide)))
      have hr5 := World.ownsRow.kept hr4 hg2 (Dk.own_ne hr4 ho1 (by decide))
      obtain ⟨l2, hl2⟩ : ∃ l2, l ++ [z] ++ s.data.toList = l2 := ⟨_, rfl⟩
      rw [hl2] at ho2
      have hll2 : l2.length ≤ 1074000034 := by
        rw [← hl2, List.length_append, List.length_append, ← Tx.size]
        have := HSS.out
        simp
        omega
      have HL2 := Lib.hid hl2
      have hS5 := hS.later hB5 (Nat.le_refl _)
      clear hl2 hr4 hrw hg1 hg2 hB4 ho1 hlook hcell hSr hR q1 q2 c0 hB hown
      go_wp2_with fail
      go_loopw [3, 7] (fun v j wq => ∃ q : Nat, q ≤ 4 ∧ j = .int .i64 (3 - (q : Int)) ∧ Dk.Own wq W.heap.size v (l2 ++ (Dk.be4 f.sure).take q) ∧ wq.ownsRow B1 9 1 (.slice (some ⟨g, 0, none⟩) m.files.length c) m.files.length ((m.files.map Dk.F.name).map encStr) ∧ Below W.heap.size W wq) (fun _ j _ => (intOf j + 1).toNat)
      case atStart => exact ⟨0, by omega, rfl, by rw [List.take_zero, List.append_nil]; exact ho2, hr5, hB5⟩
      case round =>
        obtain ⟨q, hq, rfl, hownq, hrq, hBq⟩ := hrel
        have hSq := hS.later hBq (Nat.le_refl _)
        obtain ⟨q1, q2⟩ := hSq.two hxL
        have hRq := (hSq.file x hxL).2
        rw [HX.out] at q2 hRq
        by_cases hq4 : q < 4
        · have hbe := Dk.be4_at f.sure q (by omega) hq4
          obtain ⟨y, hy⟩ : ∃ y, UInt8.ofNat (f.sure / 2 ^ (8 * (3 - q)) % 256) = y := ⟨_, rfl⟩
          rw [hy] at hbe
          have hmore := Lib.hid (Dk.take_more hbe)
          clear hbe
          have hj1 : IntKind.i64.wrap (8 * (3 - (q : Int))) = 8 * (3 - (q : Int)) := IntWalk.i64_in _ (by omega)
          have hj2 : IntKind.i64.wrap (3 - (q : Int) - 1) = 3 - ((q + 1 : Nat) : Int) := (IntWalk.i64_in _ (by omega)).trans (by omega)
          have u1 : decide ((0 : Int) ≤ 3 - (q : Int)) = true := decide_eq_true (by omega)
          have hyv : ((f.sure : Int) / 2 ^ (8 * (3 - q)) % 256) = (y.toNat : Int) := by
            rw [← hy, UInt8.toNat_ofNat', Nat.mod_eq_of_lt (Nat.mod_lt _ (by decide))]
            simp
          have hql : (l2 ++ (Dk.be4 f.sure).take q).length ≤ 1074000040 := by
            rw [List.length_append]
            have := List.length_take_le q (Dk.be4 f.sure)
            omega
          clear hy
          go_wp2_with (at_builtin; refine Dk.wpList_append rfl _ _ 81 81 rfl _ _ rfl rfl _ (fun ty => (hownq.alloc _).cat (Dk.Src.new _ [y] 1 1 rfl) (by simp only [List.length_singleton]; omega) (by have := hBq.size; simp; omega) ty) ?_; intro v3 w6 ho3; obtain ⟨ho3, hg3⟩ := ho3)
          have hBq1 := hBq.alloc (by have := hBq.size; omega) (.cells #[Dk.bv y] 5)
          have hBq2 := hBq1.grown hg3 (by have := hBq1.size; omega) (fun k hk => (World.ownsRow.lt hownq k hk).1)
          have hrq1 := World.ownsRow.kept hrq ((Below.refl wr.heap.size wr).alloc (Nat.le_refl _) (.cells #[Dk.bv y] 5) |> fun h => ⟨h.os, h.tape, h.output, h.size, fun k hk _ => h.block k hk⟩) (Dk.own_ne hrq hownq (by decide))
          have hrq2 := World.ownsRow.kept hrq1 hg3 (Dk.own_ne hrq1 (hownq.alloc (.cells #[Dk.bv y] 5)) (by decide))
          go_roundw
          case rel => exact ⟨q + 1, by omega, by go_num, by rw [hmore.out, ← List.append_assoc]; exact ho3, hrq2, hBq2⟩
          case measure => simp [intOf]; omega
        · obtain rfl : q = 4 := by omega
          have u1 : decide ((0 : Int) ≤ 3 - ((4 : Nat) : Int)) = false := rfl
          rw [show (Dk.be4 f.sure).take 4 = Dk.be4 f.sure from rfl] at hownq
          have hl3 : (l2 ++ Dk.be4 f.sure).length ≤ 1074000040 := by
            rw [List.length_append]
            have : (Dk.be4 f.sure).length = 4 := rfl
            omega
          obtain ⟨l3, hll3⟩ : ∃ l3, l2 ++ Dk.be4 f.sure = l3 := ⟨_, rfl⟩
          rw [hll3] at hownq hl3
          have HL3 := Lib.hid hll3
          clear hll3
          have hxw : x.blk < W.heap.size := (hS.file x hxL).1.lt
          have hxo : ∀ k, u3.ownBlock = some k → k ≠ x.blk := fun k hk => by have := (World.ownsRow.lt hownq k hk).1; omega
          rcases hRq.form with ⟨hv, hd⟩ | ⟨g2, cap2, hv, hc1, hc2⟩
          · rw [hv] at q1 hRq
            have hs0 : f.sure = 0 := by rw [hd] at hf3; simpa using hf3
            rw [hs0] at q2
            have hsrc : Dk.Src wr (.slice none 0 0) (f.data.take f.sure) := .inl ⟨rfl, by rw [hs0, List.take_zero]⟩
            go_wp2_with fail
            go_region_held_law (fun W' => W'.cell? ⟨x.blk, 0, none⟩ = some (.slice none 0 0) ∧ W'.cell? ⟨x.blk, 1, none⟩ = some (.int .i64 ((0 : Nat) : Int)))
              (first
                | with_reducible assumption
                | exact ⟨q1, q2⟩
                | exact Dk.two_far hg4 (Nat.lt_of_lt_of_le hxw hBq.size) hxo ⟨q1, q2⟩)
              (first
                | (refine Dk.step_append rfl (.tmp 46) (.tmp 55) 81 81 rfl u3 (.slice none 0 0) (by simp [Act.eval]) (by simp [Act.eval]) _ (fun ty => Dk.Own.cat (w := wr.drew) hownq hsrc (by rw [List.length_take]; omega) hBq.size ty) ?_; intro v4 w7 ho4; obtain ⟨ho4, hg4⟩ := ho4))
            go_wp2_with fail
            go_roundw
            case rel =>
              refine ⟨k + 1, hlt, by go_num, ?_, World.ownsRow.kept (w := wr.drew) hrq hg4 (Dk.own_ne hrq hownq (by decide)), (hBq.drew).grown hg4 hBq.size (fun k hk => (World.ownsRow.lt hownq k hk).1)⟩
              rw [hnext.out, ← HSL.out]
              rw [← HL3.out, ← HL2.out] at ho4
              simpa using ho4
            case measure => simp [intOf]; omega
          · rw [hv] at q1 hRq
            have hsrc := hRq.src f.sure cap2 hf3
            have s1 : (f.sure : Int) ≤ (cap2 : Int) := by omega
            go_wp2_with fail
            go_region_held_law (fun W' => W'.cell? ⟨x.blk, 0, none⟩ = some (.slice (some ⟨g2, 0, none⟩) f.data.length cap2) ∧ W'.cell? ⟨x.blk, 1, none⟩ = some (.int .i64 (f.sure : Int)))
              (first
                | with_reducible assumption
                | exact ⟨q1, q2⟩
                | exact Dk.two_far hg4 (Nat.lt_of_lt_of_le hxw hBq.size) hxo ⟨q1, q2⟩)
              (first
                | (refine Dk.step_append rfl (.tmp 46) (.tmp 55) 81 81 rfl u3 (.slice (some ⟨g2, 0, none⟩) f.sure cap2) (by simp [Act.eval]) (by simp [Act.eval]) _ (fun ty => Dk.Own.cat (w := wr.drew) hownq hsrc (by rw [List.length_take]; omega) hBq.size ty) ?_; intro v4 w7 ho4; obtain ⟨ho4, hg4⟩ := ho4))
            go_wp2_with fail
            go_roundw
            case rel =>
              refine ⟨k + 1, hlt, by go_num, ?_, World.ownsRow.kept (w := wr.drew) hrq hg4 (Dk.own_ne hrq hownq (by decide)), (hBq.drew).grown hg4 hBq.size (fun k hk => (World.ownsRow.lt hownq k hk).1)⟩
              rw [hnext.out, ← HSL.out]
              rw [← HL3.out, ← HL2.out] at ho4
              simpa using ho4
            case measure => simp [intOf]; omega
    · obtain rfl : k = m.files.length := by omega
      rw [List.take_length] at hown
      have hcv := Dk.conv_own hown rfl
      go_wp2_with fail
      go_ret
      exact ⟨rfl, hB⟩
end Go.Proofs.Ytgbeeghdoilmkaa
