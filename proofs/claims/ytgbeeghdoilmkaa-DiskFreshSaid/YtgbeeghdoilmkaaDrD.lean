/- Disks (the document's): Open. Conditions: each theorem's own hypotheses. -/
import Derived.Test.YtgbeeghdoilmkaaDrC
import Derived.BigQuiet
namespace Go.Proofs.Ytgbeeghdoilmkaa
open Go.RowKit Go.Maps Go.Sort
set_option linter.unusedVariables false

theorem Dk.one_rest {l nm data rest : List UInt8} (h : Dk.one l = some (nm, data, rest)) : rest = l.drop (1 + nm.length + 4 + data.length) := by
  cases l with
  | nil => cases h
  | cons c r =>
    rw [Dk.one_cons] at h
    split at h
    · cases h
    · rename_i h1
      split at h
      · rename_i h2
        injection h with h
        injection h with e1 h
        injection h with e2 e3
        rw [← e3, ← e1, ← e2, List.drop_drop]
        simp only [List.length_take, List.length_drop]
        have := h2.2.2
        rw [show 1 + min c.toNat r.length + 4 + min (Dk.num ((r.drop c.toNat).take 4)) (r.length - (c.toNat + 4)) = (c.toNat + 4 + Dk.num ((r.drop c.toNat).take 4)) + 1 from by omega, List.drop_succ_cons]
      · cases h
/-- One file put behind an own row. -/
theorem Dr.Own.cat {w : World} {B : Nat} {v : Value} {l : List Dk.F} (h : Dr.Own w B v l) (f : Dk.F) {g c : Nat} (hc : ∀ j u, (Dr.cellsOf [f])[j]? = some u → w.cell? ((⟨g, 0, none⟩ : Addr).add j) = some u) (hl : l.length ≤ 3000000000) (hB : B ≤ w.heap.size) (ty : TypeId) :
    ∃ v' w', (Builtin.append_ #[32, 32] ty #[v, .slice (some ⟨g, 0, none⟩) 1 c]).run Try.prog w = .ok v' w' ∧ Dr.Own w' B v' (l ++ [f]) ∧ w.grownBy w' v.ownBlock := by
  obtain ⟨i, hi, hz0, hz1, hz2⟩ := info_parts Dr.info
  obtain ⟨v', w', h1, h2, h3, _⟩ := run_append_own (P := Try.prog) w B 32 ty 38 i _ 3 40 Try.underlying32 hi hz0 hz1 hz2 rfl (by decide) v l.length (Dr.cellsOf l) h ⟨g, 0, none⟩ 1 c (Dr.cellsOf [f]) rfl hc (Dr.cellsOf_one _) (by unfold maxLen; omega) (by omega) hB
  refine ⟨v', w', h1, ?_, h3⟩
  unfold Dr.Own
  rw [List.length_append, Dr.cellsOf_append]
  exact h2
theorem Dr.Own.alloc {W : World} {B : Nat} {v : Value} {l : List Dk.F} (h : Dr.Own W B v l) (o : Obj) : Dr.Own (W.alloc o) B v l := h.keep fun k hk => Below.heap_alloc W o k (World.ownsRow.lt h k hk).2
theorem Dr.Own.type {W : World} {B : Nat} {v : Value} {l : List Dk.F} (h : Dr.Own W B v l) {k : Nat} (hk : v.ownBlock = some k) : ∃ cur, W.heap[k]? = some (.cells cur 38 (0, 0)) := by
  rcases h.2 with ⟨rfl, _⟩ | ⟨g, cap, cur, rfl, _, hg, _⟩
  · cases hk
  · injection hk with hk
    subst hk
    exact ⟨_, hg⟩
/-- A file's copy reads as its cells. -/
theorem Dr.news {w : World} {g : Nat} {nm data : List UInt8} {n : Nat} {nb db : ByteArray} (hn : Tx.v nm = .string nb) (hd : Tx.v data = .string db) (hb : Blk w g 38 #[.string nb, .string db, .int .i64 n]) :
    ∀ j u, (Dr.cellsOf [⟨nm, data, n⟩])[j]? = some u → w.cell? ((⟨g, 0, none⟩ : Addr).add j) = some u := by
  have h : Dr.cellsOf [⟨nm, data, n⟩] = #[Value.string nb, .string db, .int .i64 n].toList := by
    show [Tx.v nm, Tx.v data, _] = _
    rw [hn, hd]
  rw [h]
  exact World.news_of_block hb
/-- The load of the list's own cell, under a name. -/
def Dr.o70 : Op := Op.load 32 (Operand.tmp 69)
attribute [go_sem] Dr.o70
/-- What the region of the append reads. -/
def Dr.Four (r t : Nat) (nb db : ByteArray) (n : Nat) (W : World) : Prop := W.frozen? ⟨r, 1, none⟩ = false ∧ W.cell? ⟨t, 0, none⟩ = some (.string nb) ∧ W.cell? ⟨t, 1, none⟩ = some (.string db) ∧ W.cell? ⟨t, 2, none⟩ = some (.int .i64 n)
theorem Dr.Four.keep {r t : Nat} {nb db : ByteArray} {n : Nat} {W W' : World} (h : Dr.Four r t nb db n W) (h1 : W'.heap[r]? = W.heap[r]?) (h2 : W'.heap[t]? = W.heap[t]?) : Dr.Four r t nb db n W' :=
  ⟨(World.frozen?_of_block h1).trans h.1, (World.cell?_of_block h2).trans h.2.1, (World.cell?_of_block h2).trans h.2.2.1, (World.cell?_of_block h2).trans h.2.2.2⟩
theorem Dr.Four.set {r t : Nat} {nb db : ByteArray} {n : Nat} {W : World} (h : Dr.Four r t nb db n W) (hne : t ≠ r) (u : Value) : Dr.Four r t nb db n (W.setCell ⟨r, 1, none⟩ u) :=
  ⟨by rw [World.frozen?_setCell]; exact h.1, (World.cell?_of_block (Below.heap_setCell W _ u _ hne)).trans h.2.1, (World.cell?_of_block (Below.heap_setCell W _ u _ hne)).trans h.2.2.1, (World.cell?_of_block (Below.heap_setCell W _ u _ hne)).trans h.2.2.2⟩
/-- The loop of an opening. -/
structure Dr.OpSt (W wr : World) (r c : Nat) (l : List UInt8) (R : Option (List Dk.F)) (k fu : Nat) (acc : List Dk.F) (v : Value) : Prop where
  text : Dk.scan fu acc (l.drop k) = R
  len : l.length < fu + k
  small : k ≤ l.length
  fine : Dk.Fine acc
  st : Dr.Stand wr r v { Dk.fresh c with files := acc }
  foot : ∀ k, Dr.foot r v k → W.heap.size ≤ k
  below : Below W.heap.size W wr
theorem Dr.OpSt.step {W Y2 w5 : World} {r c : Nat} {l : List UInt8} {R : Option (List Dk.F)} {k2 n : Nat} {acc : List Dk.F} {v v5 : Value} {o : Obj} {nm data : List UInt8}
    (hS : Dr.Stand Y2 r v { Dk.fresh c with files := acc }) (hB : Below W.heap.size W Y2) (hf : ∀ k, Dr.foot r v k → W.heap.size ≤ k)
    (ho : Dr.Own w5 W.heap.size v5 (acc ++ [⟨nm, data, data.length⟩])) (hg : (Y2.drew.alloc o).grownBy w5 v.ownBlock) (hro : some r ≠ v.ownBlock)
    (htext : Dk.scan n (acc ++ [⟨nm, data, data.length⟩]) (l.drop k2) = R) (hlen : l.length < n + k2) (hsm : k2 ≤ l.length) (hfine : Dk.Fine (acc ++ [⟨nm, data, data.length⟩])) :
    Dr.OpSt W (w5.setCell ⟨r, 1, none⟩ v5) r c l R k2 n (acc ++ [⟨nm, data, data.length⟩]) v5 := by
  have hrl := hS.blk.lt
  have hsz : Y2.heap.size + 1 ≤ w5.heap.size := by have := hg.size; simpa using this
  have hb5 : Blk w5 r 34 (Dr.cells v { Dk.fresh c with files := acc }) :=
    (hg.block r (by simp; omega) hro).trans ((Below.heap_alloc Y2.drew o r hrl).trans hS.blk)
  have hnr : ∀ k, v5.ownBlock = some k → k ≠ r := by
    rintro k hk rfl
    obtain ⟨cur, h⟩ := ho.type hk
    unfold Blk at hb5
    rw [hb5] at h
    injection h with h
    injection h with _ h _
    cases h
  refine ⟨htext, hlen, hsm, hfine, ⟨hb5.set_ 1 v5, ?_⟩, ?_, ?_⟩
  · exact (ho.keep fun k hk => Below.heap_setCell w5 ⟨r, 1, none⟩ v5 k (hnr k hk)).base fun _ _ => Nat.zero_le _
  · rintro k (rfl | hk)
    · exact hf _ (.inl rfl)
    · exact (World.ownsRow.lt ho k hk).1
  · have h1 : Below W.heap.size W (Y2.drew.alloc o) := (hB.drew).alloc (by have := hB.size; exact this) o
    have h2 := h1.grown hg (by have := hB.size; simp; omega) fun k hk => hf k (.inr hk)
    exact h2.setCell (hf r (.inl rfl)) v5
def Dr.openV (r : Nat) : Except Int Dk.M → Value
  | .error e => .tuple #[.pointer none, .int .i64 e]
  | .ok _ => .tuple #[.pointer (some ⟨r, 0, none⟩), .int .i64 0]
set_option maxRecDepth 100000 in
set_option maxHeartbeats 4000000 in
theorem Dr.open_any (W : World) (s : ByteArray) (hs : s.size ≤ 9223372036854775807) (n : Int) (hn : -9223372036854775808 ≤ n ∧ n < 9223372036854775808) :
    Calls Try.prog 12 #[.string s, .int .i64 n] W fun e W' => ∃ r, e = .returned (Dr.openV r (Dk.opened s.data.toList n)) ∧ Below W.heap.size W W' ∧
      ∀ m, Dk.opened s.data.toList n = .ok m → ∃ F, Dr.At W' r m F ∧ ∀ k, F k → W.heap.size ≤ k := by
  by_cases hc : n < 0 ∨ 1073741824 < n
  · have ho : Dk.opened s.data.toList n = .error 13 := by unfold Dk.opened; rw [if_pos hc]
    rw [ho]
    by_cases h : n < 0
    · have u1 : decide (n < 0) = true := decide_eq_true h
      go_enter Try.func12, Try.ntmps12
      go_wp2_with fail
      go_ret2
      first | exact ⟨0, rfl, Below.refl _ _, fun m h => by cases h⟩ | exact ⟨⟨0, rfl⟩, Below.refl _ _, fun m h => by cases h⟩ | exact ⟨⟨0, rfl⟩, Below.refl _ _⟩
    · have u1 : decide (n < 0) = false := decide_eq_false h
      have u2 : decide (1073741824 < n) = true := decide_eq_true (by omega)
      go_enter Try.func12, Try.ntmps12
      go_wp2_with fail
      go_ret2
      first | exact ⟨0, rfl, Below.refl _ _, fun m h => by cases h⟩ | exact ⟨⟨0, rfl⟩, Below.refl _ _, fun m h => by cases h⟩ | exact ⟨⟨0, rfl⟩, Below.refl _ _⟩
  · obtain ⟨c, rfl⟩ := Int.eq_ofNat_of_zero_le (show 0 ≤ n by omega)
    have u1 : decide ((c : Int) < 0) = false := decide_eq_false (by omega)
    have u2 : decide (1073741824 < (c : Int)) = false := decide_eq_false (by omega)
    cases hl : s.data.toList with
    | nil =>
      have ho : Dk.opened [] (c : Int) = .error 46 := by unfold Dk.opened; rw [if_neg hc]
      have he : (s.toList == []) = true := by rw [ByteArray.toList_eq, hl]; rfl
      rw [ho]
      clear hl
      go_enter Try.func12, Try.ntmps12
      go_wp2_with fail
      go_ret2
      first | exact ⟨0, rfl, Below.refl _ _, fun m h => by cases h⟩ | exact ⟨⟨0, rfl⟩, Below.refl _ _, fun m h => by cases h⟩ | exact ⟨⟨0, rfl⟩, Below.refl _ _⟩
    | cons x t =>
      have h1 : s.size = t.length + 1 := by rw [Tx.size, hl]; rfl
      have h0 : 0 < s.size := by omega
      have hx : s[0] = x := by
        have h : s.data.toList[0]? = some x := by rw [hl]; rfl
        have h2 : s.data.toList[0]? = some s[0] := by
          rw [List.getElem?_eq_getElem (by rw [← Tx.size]; exact h0)]; rfl
        rw [h2] at h
        exact Option.some.inj h
      have he : (s.toList == []) = false := by rw [ByteArray.toList_eq, hl]; rfl
      by_cases hx2 : x = 68
      · have hx3 : ((x.toNat : Int) != 68) = false := by rw [hx2]; rfl
        obtain ⟨R, hR⟩ : ∃ R, Dk.scan (t.length + 1) [] t = R := ⟨_, rfl⟩
        have hspec : Hid (Dk.opened (x :: t) (c : Int) = Dk.verdict c R) := by
          show _ = _
          unfold Dk.opened
          rw [if_neg hc]
          simp only
          rw [if_pos hx2, hR]
        obtain ⟨Z, hZ⟩ : ∃ Z, Dk.opened (x :: t) (c : Int) = Z := ⟨_, rfl⟩
        rw [hZ] at hspec ⊢
        clear hZ
        have HX := Lib.hid hx2
        have HL := Lib.hid hl
        have HR := Lib.hid hR
        clear hx2 hl hR
        go_enter Try.func12, Try.ntmps12
        go_wp2_with fail
        have h0 : Dr.OpSt W (W.alloc (.cells #[.int .i64 (c : Int), .slice none 0 0, .bool false, .int .i64 0, .bool false, .int .i64 0, .int .i64 0] 34)) W.heap.size c s.data.toList R 1 (t.length + 1) [] (.slice none 0 0) := by
          refine ⟨by rw [HL.out]; exact HR.out, by rw [HL.out, List.length_cons]; omega, by rw [HL.out, List.length_cons]; omega, Dk.Fine.nil, ⟨Blk.new W 34 (Dr.cells (.slice none 0 0) (Dk.fresh c)), Dr.Own.nil _ _⟩, ?_, (Below.refl _ _).alloc (Nat.le_refl _) _⟩
          rintro k (rfl | hk)
          · exact Nat.le_refl _
          · cases hk
        obtain ⟨r, hr⟩ : ∃ r, W.heap.size = r := ⟨_, rfl⟩
        rw [show Dr.OpSt W _ W.heap.size c s.data.toList R 1 (t.length + 1) [] (.slice none 0 0) = Dr.OpSt W _ r c s.data.toList R 1 (t.length + 1) [] (.slice none 0 0) from by rw [hr]] at h0
        have HRR := Lib.hid hr
        rw [hr]
        clear hr
        go_loopw [7] (fun p wr => ∃ k fu acc v, p = .int .i64 (k : Nat) ∧ Dr.OpSt W wr r c s.data.toList R k fu acc v) (fun p _ => s.size - (intOf p).toNat)
        case atStart => exact ⟨1, _, _, _, rfl, h0⟩
        case round =>
          obtain ⟨k, fu, acc, v, rfl, hO⟩ := hrel
          clear h0
          have hsm := hO.small
          have hle := hO.len
          rw [← Tx.size] at hsm hle
          obtain ⟨c0, c1, _⟩ := hO.st.seven
          obtain ⟨a, cp, hv⟩ := hO.st.row.form
          have hac : ({ Dk.fresh c with files := acc } : Dk.M).files.length = acc.length := rfl
          rw [hac] at hv
          clear hac
          subst hv
          have hmany := hO.fine.many
          by_cases hlt : k < s.size
          · obtain ⟨y, t2, hyt⟩ : ∃ y t2, s.data.toList.drop k = y :: t2 := by
              cases h : s.data.toList.drop k with
              | nil =>
                have := congrArg List.length h
                rw [List.length_drop, ← Tx.size, List.length_nil] at this
                omega
              | cons y t2 => exact ⟨y, t2, rfl⟩
            have hcall := Dk.refOne_any s hs k hlt wr
            rw [hyt] at hcall
            obtain ⟨n, rfl⟩ : ∃ n, fu = n + 1 := ⟨fu - 1, by omega⟩
            have htx := hO.text
            rw [hyt] at htx
            cases ho : Dk.one (y :: t2) with
            | none =>
              rw [ho] at hcall
              unfold Dk.refV at hcall
              rw [Dk.scan_none (by simp) ho] at htx
              have HSP : Hid (Z = .error 46) := by
                show _ = _
                rw [hspec.out, ← htx]; rfl
              have hB := hO.below
              have hBl : ∀ w' : World, Below wr.heap.size wr w' → w'.cell? ⟨r, 1, none⟩ = some (.slice a acc.length cp) ∧ r < w'.heap.size := fun w' h => ⟨(World.cell?_of_block (h.block r hO.st.blk.lt)).trans c1, Nat.lt_of_lt_of_le hO.st.blk.lt h.size⟩
              clear hyt hO htx hspec HL HR HRR ho c0 c1 hle
              go_upto_region 10 with (go_at_call 39; refine hcall.mono ?_; rintro e w2 ⟨rfl, hB2⟩; obtain ⟨e1, e2⟩ := hBl w2 hB2)
              go_quiet (fail)
              go_wp2_with fail
              go_ret2
              first | exact ⟨0, by rw [HSP.out]; rfl, below_dn ((hB.trans (hB2.mono hB.size)).alloc (by have := hB.size; have := hB2.size; omega) _) _, fun m h => by rw [HSP.out] at h; cases h⟩
            | some q =>
              obtain ⟨nm, data, rest⟩ := q
              rw [ho] at hcall
              obtain ⟨g1, g2, g3⟩ := Dk.one_good ho
              have g4 := Dk.one_rest ho
              have hyl := congrArg List.length hyt
              rw [List.length_drop, ← Tx.size, g3] at hyl
              obtain ⟨nb, hnb, hnbs⟩ := Tx.of nm
              obtain ⟨db, hdb, hdbs⟩ := Tx.of data
              rw [Dk.refV_some, Tx.v_eq hnb, Tx.v_eq hdb] at hcall
              obtain ⟨k2, hk2⟩ : ∃ k2, k + 1 + nm.length + 4 + data.length = k2 := ⟨_, rfl⟩
              rw [hk2] at hcall
              rw [← hyt, List.drop_drop, show k + (1 + nm.length + 4 + data.length) = k2 from by omega] at g4
              have hbad : ¬ (bytesBefore (Dk.lastN acc) nm = true ∧ acc.length ≠ 4096) → Hid (Z = .error 46) := by
                intro hcc
                rw [Dk.scan_some (by simp) ho, if_neg hcc] at htx
                show _ = _
                rw [hspec.out, ← htx]
                rfl
              have hgood : bytesBefore (Dk.lastN acc) nm = true ∧ acc.length ≠ 4096 → Hid (Dk.scan n (acc ++ [⟨nm, data, data.length⟩]) (s.data.toList.drop k2) = R) := by
                intro hcc
                rw [Dk.scan_some (by simp) ho, if_pos hcc] at htx
                show _ = _
                rw [← g4]
                exact htx
              have hY : ∀ w2 : World, Below wr.heap.size wr w2 → ∃ Y t, w2.alloc (.cells #[.string nb, .string db, .int .i64 (data.length : Nat)] 38) = Y ∧ w2.heap.size = t ∧ Blk Y t 38 #[.string nb, .string db, .int .i64 (data.length : Nat)] ∧
                  Dr.Stand Y r (.slice a acc.length cp) { Dk.fresh c with files := acc } ∧ Below W.heap.size W Y ∧ t ≠ r ∧ wr.heap.size ≤ t := fun w2 h => by
                refine ⟨_, _, rfl, rfl, Blk.new w2 _ _, hO.st.later (h.alloc h.size _) (Nat.le_refl _), (hO.below.trans (h.mono hO.below.size)).alloc (by have := hO.below.size; have := h.size; omega) _, ?_, h.size⟩
                have := hO.st.blk.lt
                have := h.size
                omega
              have hvl : ∀ k, (Value.slice a acc.length cp).ownBlock = some k → k < wr.heap.size := fun k hk => (World.ownsRow.lt hO.st.row k hk).2
              have hfine := hO.fine
              have hrw := hO.st.row
              have hfoot := hO.foot
              have hBl : ∀ w' : World, Below wr.heap.size wr w' → w'.cell? ⟨r, 1, none⟩ = some (.slice a acc.length cp) ∧ r < w'.heap.size := fun w' h => ⟨(World.cell?_of_block (h.block r hO.st.blk.lt)).trans c1, Nat.lt_of_lt_of_le hO.st.blk.lt h.size⟩
              clear hO htx hspec HL HR HRR ho c0 c1 hyt
              have HG := Lib.hid (And.intro g1 (And.intro g2 (And.intro g4 (And.intro hnb (And.intro hdb (And.intro hnbs hdbs))))))
              clear g1 g2 g4 hnb hdb
              have v2 : decide ((k2 : Int) < 0) = false := decide_eq_false (by omega)
              by_cases hm : acc.length = 4096
              · have HSP := hbad (fun h => h.2 hm)
                have hm2 : ((acc.length : Int) == 4096) = true := by rw [hm]; rfl
                clear hbad hgood hm
                go_upto_region 10 with (go_at_call 39; refine hcall.mono ?_; rintro e w2 ⟨rfl, hB2⟩; obtain ⟨e1, e2⟩ := hBl w2 hB2; obtain ⟨Y, t, hYe, ht, hTY, hSY, hBY, htr, htw⟩ := hY w2 hB2; obtain ⟨y0, y1, _⟩ := hSY.seven)
                go_quiet (fail)
                go_wp2_with fail
                go_ret2
                exact ⟨0, by rw [HSP.out]; rfl, below_dn hBY _, fun m h => by rw [HSP.out] at h; cases h⟩
              · have hm2 : ((acc.length : Int) == 4096) = false := by rw [beq_eq_false_iff_ne]; omega
                have HM := Lib.hid hm
                clear hm
                rcases List.eq_nil_or_concat acc with hz | ⟨pre, z, hz⟩
                · have hbl : Hid (bytesBefore (Dk.lastN acc) nm = true) := by
                    have h := HG.out.1
                    rw [hz]
                    cases nm with
                    | nil => exact absurd h (by decide)
                    | cons _ _ => rfl
                  have hq := hgood ⟨hbl.out, HM.out⟩
                  have hp : decide (0 < acc.length) = false := by rw [hz]; rfl
                  clear hbad hgood hz
                  go_upto_region 10 with (go_at_call 39; refine hcall.mono ?_; rintro e w2 ⟨rfl, hB2⟩; obtain ⟨e1, e2⟩ := hBl w2 hB2; obtain ⟨Y, t, hYe, ht, hTY, hSY, hBY, htr, htw⟩ := hY w2 hB2; obtain ⟨y0, y1, _⟩ := hSY.seven)
                  go_quiet (fail)
                  go_upto_region 12 with fail
                  obtain ⟨Y2, hY2⟩ : ∃ Y2, Y.drewN nq = Y2 := ⟨_, rfl⟩
                  have hT : Blk Y2 t 38 #[.string nb, .string db, .int .i64 (data.length : Nat)] := by rw [← hY2]; exact hTY
                  have hS2 : Dr.Stand Y2 r (.slice a acc.length cp) { Dk.fresh c with files := acc } := by rw [← hY2]; exact hSY.keep fun _ _ => rfl
                  have hB3 : Below W.heap.size W Y2 := by rw [← hY2]; exact below_dn hBY nq
                  rw [hY2]
                  have z1 := hS2.seven.2.1
                  have hrl := hS2.blk.lt
                  have htl := hT.lt
                  have zA : ∀ o : Obj, (Y2.alloc o).cell? ⟨r, 1, none⟩ = some (.slice a acc.length cp) := fun o => (World.cell?_of_block (Below.heap_alloc Y2 o r hrl)).trans z1
                  have S0 : Dr.Four r t nb db data.length Y2 := ⟨hS2.blk.frozen 1, hT.cell 0, hT.cell 1, hT.cell 2⟩
                  have SA : ∀ o : Obj, Dr.Four r t nb db data.length (Y2.drew.alloc o) := fun o => S0.keep (Below.heap_alloc Y2.drew o r hrl) (Below.heap_alloc Y2.drew o t htl)
                  have hown : Dr.Own Y2 W.heap.size (.slice a acc.length cp) acc := hS2.row.base fun k hk => hfoot k (.inr hk)
                  have hro : some r ≠ (Value.slice a acc.length cp).ownBlock := fun e => hS2.lone r e.symm rfl
                  have hto : some t ≠ (Value.slice a acc.length cp).ownBlock := fun e => by
                    have h1 := hvl t e.symm
                    omega
                  obtain ⟨g1, g2, g4, hnb, hdb, hnbs, hdbs⟩ := HG.out
                  have hsrc : ∀ o : World, Blk o Y2.heap.size 38 #[.string nb, .string db, .int .i64 (data.length : Nat)] → _ := fun o h => Dr.news (n := data.length) (Tx.v_eq hnb) (Tx.v_eq hdb) h
                  clear g1 g2 g4 hnb hdb hnbs hdbs hSY hTY hBY hY2 y0 y1 hYe ht hY hBl e1 e2 hcall
                  rw [show Op.load 32 (Operand.tmp 69) = Dr.o70 from rfl]
                  go_region_held_law (fun W' => W'.frozen? ⟨r, 1, none⟩ = false ∧ W'.cell? ⟨t, 0, none⟩ = some (.string nb) ∧ W'.cell? ⟨t, 1, none⟩ = some (.string db) ∧ W'.cell? ⟨t, 2, none⟩ = some (.int .i64 (data.length : Nat)))
                    (first
                      | with_reducible assumption
                      | exact S0
                      | exact SA _
                      | exact S5
                      | exact Dr.Four.set (by assumption) htr _)
                    (first
                      | (refine Dk.step_append rfl (.tmp 70) (.tmp 72) 32 32 rfl (.slice a acc.length cp) (.slice (some ⟨Y2.heap.size, 0, none⟩) 1 1) (by simp [Act.eval]) (by simp [Act.eval]) _ (fun ty => Dr.Own.cat (w := Y2.drew.alloc _) (hown.alloc _) ⟨nm, data, data.length⟩ (hsrc _ (Blk.new Y2.drew _ _)) (by omega) (by have := hB3.size; simp; omega) ty) ?_; intro v5 w5 ho5; obtain ⟨ho5, hg5⟩ := ho5
                         obtain ⟨A5, c5, rfl⟩ := ho5.form
                         have S5 : Dr.Four r t nb db data.length w5 := (SA _).keep (hg5.block r (by simp; omega) hro) (hg5.block t (by simp; omega) hto)
                         have z5 : w5.cell? ⟨r, 1, none⟩ = some (.slice a acc.length cp) := (World.cell?_of_block (hg5.block r (by simp; omega) hro)).trans (zA _)))
                  all_goals (try go_wp2_with fail)
                  all_goals
                    obtain ⟨g1, g2, g4, hnb, hdb, hnbs, hdbs⟩ := HG.out
                    rw [show (.slice A5 (acc.length + 1) c5 : Value) = .slice A5 (acc ++ [(⟨nm, data, data.length⟩ : Dk.F)]).length c5 from by rw [List.length_append]; rfl]
                    refine ⟨⟨k2, n, _, _, rfl, Dr.OpSt.step hS2 hB3 hfoot ho5 hg5 hro hq.out (by rw [← Tx.size]; omega) (by rw [← Tx.size]; omega) (hfine.snoc g1 g2 hbl.out HM.out)⟩, ?_⟩
                    simp only [intOf]
                    omega
                · obtain ⟨lb, hlb0, _⟩ := Tx.of z.name
                  have hlast : Dk.lastN acc = z.name := by rw [hz, List.concat_eq_append, Dk.lastN_snoc]
                  obtain ⟨j, hj⟩ : ∃ j, acc.length = j + 1 := ⟨pre.length, by rw [hz, List.length_concat]⟩
                  have hjz : acc[j]? = some z := by
                    have hjp : j = pre.length := by have := hj; rw [hz, List.length_concat] at this; omega
                    rw [hz, List.concat_eq_append, List.getElem?_append_right (by omega), hjp, Nat.sub_self]; rfl
                  obtain ⟨g, c9, hv9, _⟩ := hrw.at_ hjz
                  injection hv9 with hv9 _ hc9
                  subst hv9
                  clear hc9
                  have hlb : ∀ Y : World, Dr.Stand Y r (.slice (some ⟨g, 0, none⟩) acc.length cp) { Dk.fresh c with files := acc } → Y.cell? ⟨g, j * 3, none⟩ = some (.string lb) := by
                    intro Y hY
                    obtain ⟨g2, c2, e, q, _⟩ := hY.row.at_ hjz
                    injection e with e _ _
                    injection e with e
                    injection e with e
                    subst e
                    rw [Tx.v_eq hlb0] at q
                    exact q
                  have hp : decide (0 < acc.length) = true := decide_eq_true (by omega)
                  have v3 : IntKind.i64.wrap ((acc.length : Int) - 1) = (j : Int) := (IntWalk.i64_in _ (by omega)).trans (by omega)
                  have hjl : j < acc.length := by omega
                  cases a1 : bytesBefore lb.data.toList nb.data.toList with
                  | true =>
                    have hbl : Hid (bytesBefore (Dk.lastN acc) nm = true) := by rw [hlast, ← hlb0, ← HG.out.2.2.2.1]; exact a1
                    have hq := hgood ⟨hbl.out, HM.out⟩
                    have hleq := Dk.run_leq (P := Try.prog) nb lb 9 _ a1
                    clear hbad hgood hz hlast hlb0 hjz hj a1 hrw
                    go_upto_region 10 with (go_at_call 39; refine hcall.mono ?_; rintro e w2 ⟨rfl, hB2⟩; obtain ⟨e1, e2⟩ := hBl w2 hB2; obtain ⟨Y, t, hYe, ht, hTY, hSY, hBY, htr, htw⟩ := hY w2 hB2; obtain ⟨y0, y1, _⟩ := hSY.seven; have y3 := hlb Y hSY; have y4 : Y.cell? ⟨t, 0, none⟩ = some (.string nb) := hTY.cell 0)
                    go_quiet (fail)
                    go_upto_region 12 with fail
                    obtain ⟨Y2, hY2⟩ : ∃ Y2, Y.drewN nq = Y2 := ⟨_, rfl⟩
                    have hT : Blk Y2 t 38 #[.string nb, .string db, .int .i64 (data.length : Nat)] := by rw [← hY2]; exact hTY
                    have hS2 : Dr.Stand Y2 r (.slice (some ⟨g, 0, none⟩) acc.length cp) { Dk.fresh c with files := acc } := by rw [← hY2]; exact hSY.keep fun _ _ => rfl
                    have hB3 : Below W.heap.size W Y2 := by rw [← hY2]; exact below_dn hBY nq
                    rw [hY2]
                    have z1 := hS2.seven.2.1
                    have hrl := hS2.blk.lt
                    have htl := hT.lt
                    have zA : ∀ o : Obj, (Y2.alloc o).cell? ⟨r, 1, none⟩ = some (.slice (some ⟨g, 0, none⟩) acc.length cp) := fun o => (World.cell?_of_block (Below.heap_alloc Y2 o r hrl)).trans z1
                    have S0 : Dr.Four r t nb db data.length Y2 := ⟨hS2.blk.frozen 1, hT.cell 0, hT.cell 1, hT.cell 2⟩
                    have SA : ∀ o : Obj, Dr.Four r t nb db data.length (Y2.drew.alloc o) := fun o => S0.keep (Below.heap_alloc Y2.drew o r hrl) (Below.heap_alloc Y2.drew o t htl)
                    have hown : Dr.Own Y2 W.heap.size (.slice (some ⟨g, 0, none⟩) acc.length cp) acc := hS2.row.base fun k hk => hfoot k (.inr hk)
                    have hro : some r ≠ (Value.slice (some ⟨g, 0, none⟩) acc.length cp).ownBlock := fun e => hS2.lone r e.symm rfl
                    have hto : some t ≠ (Value.slice (some ⟨g, 0, none⟩) acc.length cp).ownBlock := fun e => by
                      have h1 := hvl t e.symm
                      omega
                    obtain ⟨g1, g2, g4, hnb, hdb, hnbs, hdbs⟩ := HG.out
                    have hsrc : ∀ o : World, Blk o Y2.heap.size 38 #[.string nb, .string db, .int .i64 (data.length : Nat)] → _ := fun o h => Dr.news (n := data.length) (Tx.v_eq hnb) (Tx.v_eq hdb) h
                    clear g1 g2 g4 hnb hdb hnbs hdbs hSY hTY hBY hY2 y0 y1 hYe ht hY hBl e1 e2 hcall
                    rw [show Op.load 32 (Operand.tmp 69) = Dr.o70 from rfl]
                    go_region_held_law (fun W' => W'.frozen? ⟨r, 1, none⟩ = false ∧ W'.cell? ⟨t, 0, none⟩ = some (.string nb) ∧ W'.cell? ⟨t, 1, none⟩ = some (.string db) ∧ W'.cell? ⟨t, 2, none⟩ = some (.int .i64 (data.length : Nat)))
                      (first
                        | with_reducible assumption
                        | exact S0
                        | exact SA _
                        | exact S5
                        | exact Dr.Four.set (by assumption) htr _)
                      (first
                        | (refine Dk.step_append rfl (.tmp 70) (.tmp 72) 32 32 rfl (.slice (some ⟨g, 0, none⟩) acc.length cp) (.slice (some ⟨Y2.heap.size, 0, none⟩) 1 1) (by simp [Act.eval]) (by simp [Act.eval]) _ (fun ty => Dr.Own.cat (w := Y2.drew.alloc _) (hown.alloc _) ⟨nm, data, data.length⟩ (hsrc _ (Blk.new Y2.drew _ _)) (by omega) (by have := hB3.size; simp; omega) ty) ?_; intro v5 w5 ho5; obtain ⟨ho5, hg5⟩ := ho5
                           obtain ⟨A5, c5, rfl⟩ := ho5.form
                           have S5 : Dr.Four r t nb db data.length w5 := (SA _).keep (hg5.block r (by simp; omega) hro) (hg5.block t (by simp; omega) hto)
                           have z5 : w5.cell? ⟨r, 1, none⟩ = some (.slice (some ⟨g, 0, none⟩) acc.length cp) := (World.cell?_of_block (hg5.block r (by simp; omega) hro)).trans (zA _)))
                    all_goals (try go_wp2_with fail)
                    all_goals
                      obtain ⟨g1, g2, g4, hnb, hdb, hnbs, hdbs⟩ := HG.out
                      rw [show (.slice A5 (acc.length + 1) c5 : Value) = .slice A5 (acc ++ [(⟨nm, data, data.length⟩ : Dk.F)]).length c5 from by rw [List.length_append]; rfl]
                      refine ⟨⟨k2, n, _, _, rfl, Dr.OpSt.step hS2 hB3 hfoot ho5 hg5 hro hq.out (by rw [← Tx.size]; omega) (by rw [← Tx.size]; omega) (hfine.snoc g1 g2 hbl.out HM.out)⟩, ?_⟩
                      simp only [intOf]
                      omega
                  | false =>
                    have HSP := hbad (fun h => by rw [hlast, ← hlb0, ← HG.out.2.2.2.1, a1] at h; cases h.1)
                    have hleq := Dk.run_leq (P := Try.prog) nb lb 9 _ a1
                    clear hbad hgood hz hlast hlb0 hjz hj a1 hrw
                    go_upto_region 10 with (go_at_call 39; refine hcall.mono ?_; rintro e w2 ⟨rfl, hB2⟩; obtain ⟨e1, e2⟩ := hBl w2 hB2; obtain ⟨Y, t, hYe, ht, hTY, hSY, hBY, htr, htw⟩ := hY w2 hB2; obtain ⟨y0, y1, _⟩ := hSY.seven; have y3 := hlb Y hSY; have y4 : Y.cell? ⟨t, 0, none⟩ = some (.string nb) := hTY.cell 0)
                    go_quiet (fail)
                    go_wp2_with fail
                    go_ret2
                    exact ⟨0, by rw [HSP.out]; rfl, below_dn hBY _, fun m h => by rw [HSP.out] at h; cases h⟩
          · obtain rfl : k = s.size := by omega
            have hRR : R = some acc := by
              have h1 := hO.text
              obtain ⟨n, rfl⟩ : ∃ n, fu = n + 1 := ⟨fu - 1, by omega⟩
              rw [Tx.size, List.drop_length, Dk.scan_nil] at h1
              exact h1.symm
            have hsp := hspec.out
            rw [hRR] at hsp
            unfold Dk.verdict at hsp
            simp only at hsp
            have hA : Dr.At wr r { Dk.fresh c with files := acc } (Dr.foot r (.slice a acc.length cp)) := ⟨_, hO.st, rfl⟩
            have hcall := Dr.used_any hA hO.fine.used hmany
            obtain ⟨u, hu⟩ : ∃ u, Dk.used acc = u := ⟨_, rfl⟩
            rw [show ({ Dk.fresh c with files := acc } : Dk.M).files = acc from rfl, hu] at hcall
            rw [hu] at hsp
            have hB := hO.below
            have hF := hO.foot
            clear hO hRR hu c0 c1 HR hspec HRR HL hle
            by_cases hcu : (c : Int) < u
            · have u1 : decide (c < u) = true := decide_eq_true (by omega)
              rw [if_pos hcu] at hsp
              have HSP := Lib.hid hsp
              clear hsp hcu
              go_wp2_with (go_at_call 40; refine hcall.mono ?_; rintro e w2 ⟨rfl, rfl⟩)
              go_ret2
              exact ⟨0, by rw [HSP.out]; rfl, hB, fun m h => by rw [HSP.out] at h; cases h⟩
            · have u1 : decide (c < u) = false := decide_eq_false (by omega)
              rw [if_neg hcu] at hsp
              have HSP := Lib.hid hsp
              clear hsp hcu
              go_wp2_with (go_at_call 40; refine hcall.mono ?_; rintro e w2 ⟨rfl, rfl⟩)
              go_ret2
              refine ⟨r, by rw [HSP.out]; rfl, hB, fun m h => ?_⟩
              rw [HSP.out] at h
              injection h with h
              subst h
              exact ⟨_, hA, hF⟩
      · have ho : Dk.opened (x :: t) (c : Int) = .error 46 := by
          unfold Dk.opened
          rw [if_neg hc]
          simp only
          rw [if_neg hx2]
        have hx3 : ((x.toNat : Int) != 68) = true := by
          rw [bne_iff_ne]
          intro e
          exact hx2 (UInt8.toNat_inj.1 (by show x.toNat = 68; omega))
        rw [ho]
        clear hl h1
        go_enter Try.func12, Try.ntmps12
        go_wp2_with fail
        go_ret2
        first | exact ⟨0, rfl, Below.refl _ _, fun m h => by cases h⟩ | exact ⟨⟨0, rfl⟩, Below.refl _ _, fun m h => by cases h⟩ | exact ⟨⟨0, rfl⟩, Below.refl _ _⟩
end Go.Proofs.Ytgbeeghdoilmkaa
