/- Contracts of slices.IndexFunc and slices.DeleteFunc of a row of hits: walks. Conditions: each theorem's own hypotheses. -/
import Derived.Test.YtikhahkmebkccaaGreatDoorBkN
namespace Go.Proofs.YtikhahkmebkccaaGreatDoor
open Go.RowKit Go.Maps Go.Sort Go.Shelf
set_option linter.unusedVariables false
set_option linter.unusedSimpArgs false

theorem Bk.row_at {w : World} {B : Nat} {A : Option Addr} {cap : Nat} {C : List Bk.H} {j : Nat} {x : Bk.H} (h : w.ownsRow B 61 3 (.slice A C.length cap) C.length (Bk.hcs C)) (hj : C[j]? = some x) : ∃ g, A = some ⟨g, 0, none⟩ ∧ B ≤ g ∧ g < w.heap.size ∧ C.length ≤ cap ∧ cap ≤ maxLen := by
  have hlt := (List.getElem?_eq_some_iff.1 hj).1
  rcases h.2 with ⟨h', h0⟩ | ⟨g, cap', cur, h', hb, hg, h1, h2, _⟩
  · omega
  · injection h' with h1' h2' h3'
    subst h3'
    exact ⟨g, h1', hb, (Array.getElem?_eq_some_iff.1 hg).1, h1, h2⟩
set_option maxRecDepth 100000 in
set_option maxHeartbeats 4000000 in
theorem Bk.index_any {w : World} {B pb b : Nat} {v : Value} {F : List Bk.H} (hrow : w.ownsRow B 61 3 v F.length (Bk.hcs F)) (hb : w.cell? ⟨pb, 0, none⟩ = some (.int .i64 (b : Nat))) (hpb : pb < w.heap.size) (hl : F.length ≤ 4611686018427387903) :
    Calls Tryz.prog 56 #[v, .func (.func 41) #[] #[.pointer (some ⟨pb, 0, none⟩)]] w fun e w' =>
      ∃ z : Int, e = .returned (.int .i64 z) ∧ Below w.heap.size w w' ∧ ((z = -1 ∧ ∀ x ∈ F, x.d ≤ b) ∨ ∃ (i : Nat) (x : Bk.H), z = (i : Nat) ∧ F[i]? = some x ∧ b < x.d ∧ ∀ y ∈ F.take i, y.d ≤ b) := by
  obtain ⟨A, cap, rfl⟩ := Bk.row_form hrow
  go_enter Tryz.func56, Tryz.ntmps56
  go_wp2_with fail
  go_loopg [8] (F.length + 1) (fun n i wr => ∃ k : Nat, n + k = F.length + 1 ∧ k ≤ F.length ∧ i = .int .i64 k ∧ Below w.heap.size w wr ∧ Hid (∀ x ∈ F.take k, x.d ≤ b))
  case atStart => exact ⟨0, by omega, by omega, rfl, Below.refl _ _, Lib.hid (by simp)⟩
  case round =>
    obtain ⟨k, hn, hk, rfl, hbw, hall⟩ := hrel
    by_cases hkn : k = F.length
    · have u1 : decide (k < F.length) = false := decide_eq_false (by omega)
      go_wp2_with fail
      go_ret
      refine ⟨_, rfl, hbw, .inl ⟨rfl, ?_⟩⟩
      have := hall.out
      rw [hkn, List.take_length] at this
      exact this
    · have u1 : decide (k < F.length) = true := decide_eq_true (by omega)
      obtain ⟨x, hx⟩ : ∃ x, F[k]? = some x := ⟨_, List.getElem?_eq_getElem (by omega)⟩
      obtain ⟨g, rfl, hg1, hg2, hg3, hg4⟩ := Bk.row_at hrow hx
      have hrow' := Bk.own_of hrow (w' := wr) fun j hj => hbw.block j (by
        have : j = g := by simpa [Value.ownBlock] using hj.symm
        omega)
      obtain ⟨d0, d1, d2⟩ := Bk.row3 hrow' hx
      have hfar := Bk.ne_far ((World.cell?_of_block (hbw.block pb hpb)).trans hb) (by have := hbw.size; omega) x.d x.c
      have hxa := hall.out
      have HX := Lib.hid (And.intro hx (And.intro hn hxa))
      have hkl : k < F.length := by omega
      clear hrow hrow' hall hn hxa hkn
      unfold Tx.v at d2 hfar
      by_cases hbx : b < x.d
      · have u2 : decide (b < x.d) = true := decide_eq_true hbx
        rw [u2] at hfar
        go_wp2_with (go_at_call 41; refine hfar.mono ?_; clear hfar; rintro e w1 ⟨rfl, hb1⟩)
        go_ret
        exact ⟨_, rfl, hbw.trans (hb1.mono hbw.size), .inr ⟨k, x, rfl, HX.out.1, hbx, HX.out.2.2⟩⟩
      · have u2 : decide (b < x.d) = false := decide_eq_false hbx
        rw [u2] at hfar
        go_wp2_with (go_at_call 41; refine hfar.mono ?_; clear hfar; rintro e w1 ⟨rfl, hb1⟩)
        go_roundg (gk - 1)
        case measure => have := HX.out.2.1; omega
        case rel =>
          refine ⟨k + 1, by have := HX.out.2.1; omega, by omega, congrArg (Value.int .i64) (by omega), hbw.trans (hb1.mono hbw.size), Lib.hid ?_⟩
          rw [List.take_add_one, HX.out.1]
          intro y hy
          rcases List.mem_append.1 hy with hy | hy
          · exact HX.out.2.2 y hy
          · simp only [Option.toList_some, List.mem_singleton] at hy
            subst hy
            omega
theorem Bk.grown_of {w w' : World} {r : Option Nat} (h : Below w.heap.size w w') : w.grownBy w' r := ⟨h.os, h.tape, h.output, h.size, fun k hk _ => h.block k hk⟩
/-- Between two rounds of DeleteFunc's loop. -/
def Bk.DlR (B b g cap : Nat) (F : List Bk.H) (w : World) (m : Nat) (si sj : Value) (wr : World) : Prop :=
  ∃ (i j : Nat) (C : List Bk.H), m + j = F.length ∧ si = .int .i64 (i : Nat) ∧ sj = .int .i64 (j : Nat) ∧ i < j ∧ w.grownBy wr (some g) ∧ wr.ownsRow B 61 3 (.slice (some ⟨g, 0, none⟩) F.length cap) F.length (Bk.hcs C) ∧
    C.length = F.length ∧ C.take i = (F.take j).filter (fun h => decide (h.d ≤ b)) ∧ C.drop j = F.drop j
theorem Bk.filter_all {b : Nat} {F : List Bk.H} (h : ∀ x ∈ F, x.d ≤ b) : F.filter (fun h => decide (h.d ≤ b)) = F := List.filter_eq_self.2 fun x hx => by simpa using h x hx
theorem Bk.drop_at {C F : List Bk.H} {j : Nat} (h : C.drop j = F.drop j) : C[j]? = F[j]? ∧ C.drop (j + 1) = F.drop (j + 1) := by
  constructor
  · have := congrArg (fun l => l[0]?) h
    simpa using this
  · have := congrArg (List.drop 1) h
    simpa [List.drop_drop] using this
set_option maxRecDepth 100000 in
set_option maxHeartbeats 4000000 in
theorem Bk.delete_any {w : World} {B pb b : Nat} {v : Value} {F : List Bk.H} (hrow : w.ownsRow B 61 3 v F.length (Bk.hcs F)) (hb : w.cell? ⟨pb, 0, none⟩ = some (.int .i64 (b : Nat))) (hpb : pb < w.heap.size) (hoff : some pb ≠ v.ownBlock) (hl : F.length ≤ 4611686018427387903) :
    Calls Tryz.prog 40 #[v, .func (.func 41) #[] #[.pointer (some ⟨pb, 0, none⟩)]] w fun e w' =>
      ∃ v', e = .returned v' ∧ v'.ownBlock = v.ownBlock ∧ w'.ownsRow B 61 3 v' (F.filter fun h => decide (h.d ≤ b)).length (Bk.hcs (F.filter fun h => decide (h.d ≤ b))) ∧ w.grownBy w' v.ownBlock := by
  have hidx := Bk.index_any hrow hb hpb hl
  obtain ⟨A, cap, rfl⟩ := Bk.row_form hrow
  go_enter Tryz.func40, Tryz.ntmps40
  go_upto_region 2 with (go_at_call 56; refine hidx.mono ?_; clear hidx; rintro e w1 ⟨z, rfl, hb1, hcase⟩)
  rcases hcase with ⟨rfl, hall⟩ | ⟨i0, x0, rfl, hx0, hbx, hpre⟩
  · go_wp2_with fail
    go_ret
    refine ⟨_, rfl, rfl, ?_, Bk.grown_of hb1⟩
    rw [Bk.filter_all hall]
    exact Bk.own_of hrow fun k hk => hb1.block k (hrow.lt k hk).2
  · obtain ⟨g, rfl, hg1, hg2, hg3, hg4⟩ := Bk.row_at hrow hx0
    have hgp : g ≠ pb := fun e => hoff (by rw [e]; rfl)
    have hil := (List.getElem?_eq_some_iff.1 hx0).1
    have hst : Bk.DlR B b g cap F w (F.length - (i0 + 1)) (.int .i64 (i0 : Nat)) (.int .i64 ((i0 + 1 : Nat) : Int)) w1 := by
      refine ⟨i0, i0 + 1, F, by omega, rfl, rfl, by omega, Bk.grown_of hb1, Bk.own_of hrow fun k hk => hb1.block k (hrow.lt k hk).2, rfl, ?_, rfl⟩
      rw [List.take_add_one, hx0, List.filter_append, Bk.filter_all hpre]
      simp
      omega
    have HS := Lib.hid hst
    clear hst hpre hbx hx0 hb1 hrow
    go_wp2_with fail
    go_loopg [5, 6] (F.length - (i0 + 1)) (fun m si sj wr => Bk.DlR B b g cap F w m si sj wr)
    case atStart => exact HS.out
    case round =>
      clear HS w1
      obtain ⟨i, j, C, hmj, rfl, rfl, hij, hgw, hrw, hcl, htk, hdr⟩ := hrel
      have hpc := (World.cell?_of_block (hgw.block pb hpb (fun e => hgp (by injection e with e; exact e.symm))) (a := ⟨pb, 0, none⟩)).trans hb
      by_cases hjn : j = F.length
      · have u1 : decide (j < F.length) = false := decide_eq_false (by omega)
        have hclr := Bk.clear_any hrw (i := i) (m := F.length - i) (c := cap - i) (by omega) (by omega)
        obtain ⟨xs', hx1, hx2, hx3⟩ := Bk.row_wipe (Builtin.zeroCells #[.int .i64 0, .int .i64 0, .string ⟨#[]⟩] (F.length - i)).toList (i * 3) wr _ hrw
        generalize (Builtin.zeroCells #[.int .i64 0, .int .i64 0, .string ⟨#[]⟩] (F.length - i)).toList = zs at hclr hx1 hx3
        have HX := Lib.hid (And.intro hx1 (And.intro hx2 (And.intro hx3 (And.intro htk (And.intro hgw hcl)))))
        clear hx1 hx2 hx3 htk hgw hcl hdr hrw
        go_wp2_with fail
        go_ret
        obtain ⟨hx1, hx2, hx3, htk, hgw, hcl⟩ := HX.out
        rw [hjn, List.take_length] at htk
        have hlen : (F.filter fun h => decide (h.d ≤ b)).length = i := by
          rw [← htk, List.length_take, hcl]
          omega
        refine ⟨_, rfl, rfl, ?_, hgw.trans hx3⟩
        have h := Bk.row_cut hx1 (i := i) (by omega)
        rw [hx2, Bk.hcs_take, htk] at h
        rw [hlen]
        exact h
      · have u1 : decide (j < F.length) = true := decide_eq_true (by omega)
        obtain ⟨hcj, hdr'⟩ := Bk.drop_at hdr
        obtain ⟨x, hx⟩ : ∃ x, F[j]? = some x := ⟨_, List.getElem?_eq_getElem (by omega)⟩
        obtain ⟨y, hy⟩ : ∃ y, C[i]? = some y := ⟨_, List.getElem?_eq_getElem (by omega)⟩
        rw [hx] at hcj
        obtain ⟨d0, d1, d2⟩ := Bk.row3 hrw hcj
        have hgs := hgw.size
        have hpc2 : (wr.alloc (.cells #[.int .i64 (x.d : Nat), .int .i64 0, .string ⟨x.c.toArray⟩] 61)).cell? ⟨pb, 0, none⟩ = some (.int .i64 (b : Nat)) := (World.cell?_of_block (Below.heap_alloc wr _ pb (by omega))).trans hpc
        have hfar := Bk.ne_far hpc2 (by simp; omega) x.d x.c
        have hbb := Blk.new wr 61 #[.int .i64 (x.d : Nat), .int .i64 0, .string ⟨x.c.toArray⟩]
        have hal : Below wr.heap.size wr (wr.alloc (.cells #[.int .i64 (x.d : Nat), .int .i64 0, .string ⟨x.c.toArray⟩] 61)) := (Below.refl _ _).alloc (Nat.le_refl _) _
        have hfl : ∀ l : List Bk.H, l = F → (l.take (j + 1)).filter (fun h => decide (h.d ≤ b)) = (F.take j).filter (fun h => decide (h.d ≤ b)) ++ (if x.d ≤ b then [x] else []) := by
          rintro l rfl
          rw [List.take_add_one, hx, List.filter_append]
          congr 1
          by_cases hxb : x.d ≤ b <;> simp [hxb]
        have HX := Lib.hid (And.intro (hfl F rfl) (And.intro htk (And.intro hdr' (And.intro hcl (And.intro hmj (And.intro hgw (And.intro hrw (And.intro hbb hal))))))))
        have hjl : j < F.length := by omega
        clear hfl htk hdr hdr' hcl hmj hx hcj hbb hjn
        unfold Tx.v at d2 hfar
        by_cases hbx : b < x.d
        · have u2 : decide (b < x.d) = true := decide_eq_true hbx
          rw [u2] at hfar
          clear hrw hgw
          go_wp2_with (go_at_call 41; refine hfar.mono ?_; clear hfar; rintro e w1 ⟨rfl, hb1⟩)
          go_roundg (gk - 1)
          case measure => have := HX.out.2.2.2.2.1; omega
          case rel =>
            obtain ⟨h1, h2, h3, h4, h5, h6, h7, h8, h9⟩ := HX.out
            have hbel : Below wr.heap.size wr w1 := h9.trans (hb1.mono h9.size)
            refine ⟨i, j + 1, C, by omega, rfl, congrArg (Value.int .i64) (by omega), by omega, h6.trans (Bk.grown_of hbel), Bk.own_of h7 fun k hk => hbel.block k (h7.lt k hk).2, h4, ?_, h3⟩
            rw [h1, if_neg (by omega), List.append_nil]
            exact h2
        · have u2 : decide (b < x.d) = false := decide_eq_false hbx
          rw [u2] at hfar
          have hws : wr.heap.size < (wr.alloc (.cells #[.int .i64 (x.d : Nat), .int .i64 0, .string ⟨x.c.toArray⟩] 61)).heap.size := by simp
          have HW := Lib.hid hws
          clear hgw hrw hws
          go_wp2_with (go_at_call 41; refine hfar.mono ?_; clear hfar; rintro e w1 ⟨rfl, hb1⟩; have hbb1 := (show Blk w1 wr.heap.size 61 _ from (hb1.block _ HW.out).trans HX.out.2.2.2.2.2.2.2.1); have e0 := hbb1.cell 0; have e1 := hbb1.cell 1; have e2 := hbb1.cell 2; simp only [List.getElem?_toArray, List.getElem?_cons_zero, List.getElem?_cons_succ] at e0 e1 e2; have hrow1 := Bk.own_of HX.out.2.2.2.2.2.2.1 (w' := w1) (fun k hk => (hal.trans (hb1.mono hal.size)).block k (HX.out.2.2.2.2.2.2.1.lt k hk).2); obtain ⟨y0, y1, y2⟩ := Bk.row3 hrow1 hy; have q0 := hrow1.frozenAt (i * 3); have q1 := hrow1.frozenAt (i * 3 + 1); have q2 := hrow1.frozenAt (i * 3 + 2); have HR1 := Lib.hid hrow1; clear hrow1 hbb1)
          go_roundg (gk - 1)
          case measure => have := HX.out.2.2.2.2.1; omega
          case rel =>
            obtain ⟨h1, h2, h3, h4, h5, h6, h7, h8, h9⟩ := HX.out
            have hbel : Below wr.heap.size wr w1 := h9.trans (hb1.mono h9.size)
            obtain ⟨r1, r2⟩ := Bk.row_put HR1.out i x
            refine ⟨i + 1, j + 1, C.set i x, by omega, congrArg (Value.int .i64) (by omega), congrArg (Value.int .i64) (by omega), by omega, (h6.trans (Bk.grown_of hbel)).trans r2, r1, by rw [List.length_set, h4], ?_, ?_⟩
            · rw [h1, if_pos (by omega), ← h2, List.take_add_one, List.take_set_of_le (Nat.le_refl _), List.getElem?_set_self (by omega)]
              rfl
            · rw [List.drop_set_of_lt (by omega), h3]
end Go.Proofs.YtikhahkmebkccaaGreatDoor
