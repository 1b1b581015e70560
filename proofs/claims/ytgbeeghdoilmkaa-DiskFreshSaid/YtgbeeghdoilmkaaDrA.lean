/- Disks in memory (the document's). Conditions: each theorem's own hypotheses. -/
import Derived.Test.YtgbeeghdoilmkaaDkO
import Derived.Test.YtgbeeghdoilmkaaDkD
namespace Go.Proofs.Ytgbeeghdoilmkaa
open Go.RowKit Go.Maps Go.Sort
set_option linter.unusedVariables false

theorem Dr.info : (Try.prog.info? 38).map (fun i => (i.zero, i.size, i.bytes)) = some (some (.agg #[.string ⟨#[]⟩, .string ⟨#[]⟩, .int .i64 0]), 3, 40) := by kernel_rfl
/-- The files' cells. -/
def Dr.cellsOf : List Dk.F → List Value
  | [] => []
  | f :: l => Tx.v f.name :: Tx.v f.data :: .int .i64 f.sure :: Dr.cellsOf l
theorem Dr.cellsOf_len : ∀ l, (Dr.cellsOf l).length = l.length * 3
  | [] => rfl
  | f :: l => by rw [Dr.cellsOf, List.length_cons, List.length_cons, List.length_cons, Dr.cellsOf_len l, List.length_cons]; omega
theorem Dr.cellsOf_append : ∀ a b, Dr.cellsOf (a ++ b) = Dr.cellsOf a ++ Dr.cellsOf b
  | [], _ => rfl
  | h :: a, b => by rw [List.cons_append, Dr.cellsOf, Dr.cellsOf, Dr.cellsOf_append a b]; rfl
theorem Dr.cellsOf_one : ∀ (l : List Dk.F), ∀ u ∈ Dr.cellsOf l, u.oneCell' = true
  | [], u, hu => by cases hu
  | h :: l, u, hu => by
    rw [Dr.cellsOf] at hu
    rcases List.mem_cons.1 hu with rfl | hu
    · rfl
    rcases List.mem_cons.1 hu with rfl | hu
    · rfl
    rcases List.mem_cons.1 hu with rfl | hu
    · rfl
    exact Dr.cellsOf_one l u hu
theorem Dr.cellsOf_get : ∀ (l : List Dk.F) (q : Nat) (h : Dk.F), l[q]? = some h → (Dr.cellsOf l)[q * 3]? = some (Tx.v h.name) ∧ (Dr.cellsOf l)[q * 3 + 1]? = some (Tx.v h.data) ∧ (Dr.cellsOf l)[q * 3 + 2]? = some (.int .i64 h.sure)
  | [], q, h, hq => by simp at hq
  | x :: l, 0, h, hq => by
    obtain rfl := Option.some.inj hq
    exact ⟨rfl, rfl, rfl⟩
  | x :: l, q + 1, h, hq => by
    have := Dr.cellsOf_get l q h hq
    rw [show (q + 1) * 3 = q * 3 + 1 + 1 + 1 from by omega, Dr.cellsOf]
    exact this
/-- An own row of files. -/
def Dr.Own (W : World) (B : Nat) (v : Value) (l : List Dk.F) : Prop := W.ownsRow B 38 3 v l.length (Dr.cellsOf l)
theorem Dr.Own.nil (W : World) (B : Nat) : Dr.Own W B (.slice none 0 0) [] := World.ownsRow_nil _ _ _ _
theorem Dr.Own.keep {W W' : World} {B : Nat} {v : Value} {l : List Dk.F} (h : Dr.Own W B v l) (hk : ∀ k, v.ownBlock = some k → W'.heap[k]? = W.heap[k]?) : Dr.Own W' B v l := by
  refine ⟨h.1, ?_⟩
  rcases h.2 with h | ⟨g, cap, cur, rfl, hb, hg, r⟩
  · exact .inl h
  · exact .inr ⟨g, cap, cur, rfl, hb, (hk g rfl).trans hg, r⟩
theorem Dr.Own.base {W : World} {B C : Nat} {v : Value} {l : List Dk.F} (h : Dr.Own W B v l) (hC : ∀ k, v.ownBlock = some k → C ≤ k) : Dr.Own W C v l := by
  refine ⟨h.1, ?_⟩
  rcases h.2 with h | ⟨g, cap, cur, rfl, hb, hg, r⟩
  · exact .inl h
  · exact .inr ⟨g, cap, cur, rfl, hC g rfl, hg, r⟩
theorem Dr.Own.form {W : World} {B : Nat} {v : Value} {l : List Dk.F} (h : Dr.Own W B v l) : ∃ a c, v = .slice a l.length c := by
  rcases h.2 with ⟨h1, h2⟩ | ⟨g, cap, cur, h1, _⟩
  · exact ⟨none, 0, by rw [h1, h2]⟩
  · exact ⟨_, _, h1⟩
theorem Dr.Own.at_ {W : World} {B : Nat} {v : Value} {l : List Dk.F} (h : Dr.Own W B v l) {k : Nat} {f : Dk.F} (hk : l[k]? = some f) : ∃ g c, v = .slice (some ⟨g, 0, none⟩) l.length c ∧
    W.cell? ⟨g, k * 3, none⟩ = some (Tx.v f.name) ∧ W.cell? ⟨g, k * 3 + 1, none⟩ = some (Tx.v f.data) ∧ W.cell? ⟨g, k * 3 + 2, none⟩ = some (.int .i64 f.sure) := by
  have hlt := (List.getElem?_eq_some_iff.1 hk).1
  obtain ⟨g, c, rfl, _⟩ := World.ownsRow.form h (by omega)
  obtain ⟨h1, h2, h3⟩ := Dr.cellsOf_get l k f hk
  refine ⟨g, c, rfl, ?_, ?_, ?_⟩
  · rw [World.ownsRow.cellAt h (k * 3) (by omega), h1]
  · rw [World.ownsRow.cellAt h (k * 3 + 1) (by omega), h2]
  · rw [World.ownsRow.cellAt h (k * 3 + 2) (by omega), h3]
def Dr.cells (v : Value) (m : Dk.M) : Array Value := #[.int .i64 m.cap, v, .bool m.off, .int .i64 m.left, .bool m.done, .int .i64 m.age, .int .i64 m.writes]
/-- The document's disk in memory: its block, its row of files. -/
structure Dr.Stand (W : World) (r : Nat) (v : Value) (m : Dk.M) : Prop where
  blk : Blk W r 34 (Dr.cells v m)
  row : Dr.Own W 0 v m.files
def Dr.foot (r : Nat) (v : Value) (k : Nat) : Prop := k = r ∨ v.ownBlock = some k
def Dr.At (W : World) (r : Nat) (m : Dk.M) (F : Nat → Prop) : Prop := ∃ v, Dr.Stand W r v m ∧ F = Dr.foot r v
/-- .. and so it has become, and nothing else has changed. -/
def Dr.Moved (W W' : World) (r : Nat) (F : Nat → Prop) (m' : Dk.M) : Prop := ∃ F', Dr.At W' r m' F' ∧ Dk.Only F W W' ∧ ∀ k, F' k → F k ∨ W.heap.size ≤ k
theorem Dr.Stand.lt {W : World} {r : Nat} {v : Value} {m : Dk.M} (h : Dr.Stand W r v m) {k : Nat} (hk : Dr.foot r v k) : k < W.heap.size := by
  rcases hk with rfl | hk
  · exact h.blk.lt
  · exact (World.ownsRow.lt h.row k hk).2
theorem Dr.Stand.keep {W W' : World} {r : Nat} {v : Value} {m : Dk.M} (h : Dr.Stand W r v m) (hk : ∀ k, Dr.foot r v k → W'.heap[k]? = W.heap[k]?) : Dr.Stand W' r v m :=
  ⟨(hk r (.inl rfl)).trans h.blk, h.row.keep fun k e => hk k (.inr e)⟩
theorem Dr.Stand.later {W W' : World} {r : Nat} {v : Value} {m : Dk.M} (h : Dr.Stand W r v m) {B : Nat} (hB : Below B W W') (hs : W.heap.size ≤ B) : Dr.Stand W' r v m :=
  h.keep fun k hk => hB.block k (Nat.lt_of_lt_of_le (h.lt hk) hs)
theorem Dr.Stand.lone {W : World} {r : Nat} {v : Value} {m : Dk.M} (h : Dr.Stand W r v m) : ∀ k, v.ownBlock = some k → k ≠ r := by
  rintro k hk rfl
  have hb := h.blk
  unfold Blk at hb
  rcases h.row.2 with ⟨rfl, _⟩ | ⟨g, cap, cur, rfl, _, hg, _⟩
  · cases hk
  · injection hk with hk
    subst hk
    rw [hb] at hg
    injection hg with hg
    injection hg with _ hg _
    cases hg
theorem Dr.Stand.seven {W : World} {r : Nat} {v : Value} {m : Dk.M} (h : Dr.Stand W r v m) :
    W.cell? ⟨r, 0, none⟩ = some (.int .i64 m.cap) ∧ W.cell? ⟨r, 1, none⟩ = some v ∧ W.cell? ⟨r, 2, none⟩ = some (.bool m.off) ∧ W.cell? ⟨r, 3, none⟩ = some (.int .i64 m.left) ∧ W.cell? ⟨r, 4, none⟩ = some (.bool m.done) ∧ W.cell? ⟨r, 5, none⟩ = some (.int .i64 m.age) ∧ W.cell? ⟨r, 6, none⟩ = some (.int .i64 m.writes) :=
  ⟨h.blk.cell 0, h.blk.cell 1, h.blk.cell 2, h.blk.cell 3, h.blk.cell 4, h.blk.cell 5, h.blk.cell 6⟩
theorem Dr.At.lt {W : World} {r : Nat} {m : Dk.M} {F : Nat → Prop} (h : Dr.At W r m F) {k : Nat} (hk : F k) : k < W.heap.size := by
  obtain ⟨v, hS, rfl⟩ := h
  exact hS.lt hk
theorem Dr.At.keep {W W' : World} {r : Nat} {m : Dk.M} {F : Nat → Prop} (h : Dr.At W r m F) (hk : ∀ k, F k → W'.heap[k]? = W.heap[k]?) : Dr.At W' r m F := by
  obtain ⟨v, hS, rfl⟩ := h
  exact ⟨v, hS.keep hk, rfl⟩
theorem Dr.At.later {W W' : World} {r : Nat} {m : Dk.M} {F : Nat → Prop} (h : Dr.At W r m F) {B : Nat} (hB : Below B W W') (hs : W.heap.size ≤ B) : Dr.At W' r m F :=
  h.keep fun k hk => hB.block k (Nat.lt_of_lt_of_le (h.lt hk) hs)
theorem Dr.At.apart {W W' : World} {r : Nat} {m : Dk.M} {F G : Nat → Prop} (h : Dr.At W r m F) (ho : Dk.Only G W W') (hG : ∀ k, F k → ¬ G k) : Dr.At W' r m F :=
  h.keep fun k hk => ho.block k (h.lt hk) (hG k hk)

set_option maxRecDepth 100000 in
theorem Dr.new_none (n : Int) (hn : n < 0 ∨ 1073741824 < n) (w : World) :
    Calls Try.prog 10 #[.int .i64 n] w fun e w' => e = .returned (.pointer none) ∧ w = w' := by
  by_cases h : n < 0
  · have u1 : decide (n < 0) = true := decide_eq_true h
    go_enter Try.func10, Try.ntmps10
    go_wp2_with fail
    go_ret
    exact ⟨rfl, rfl⟩
  · have u1 : decide (n < 0) = false := decide_eq_false h
    have u2 : decide (1073741824 < n) = true := decide_eq_true (by omega)
    go_enter Try.func10, Try.ntmps10
    go_wp2_with fail
    go_ret
    exact ⟨rfl, rfl⟩
set_option maxRecDepth 100000 in
theorem Dr.new_any (n : Nat) (hn : n ≤ 1073741824) (w : World) :
    Calls Try.prog 10 #[.int .i64 n] w fun e w' => ∃ r F, e = .returned (.pointer (some ⟨r, 0, none⟩)) ∧ Dr.At w' r (Dk.fresh n) F ∧ Below w.heap.size w w' ∧ ∀ k, F k → w.heap.size ≤ k := by
  have u1 : decide ((n : Int) < 0) = false := decide_eq_false (by omega)
  have u2 : decide (1073741824 < (n : Int)) = false := decide_eq_false (by omega)
  go_enter Try.func10, Try.ntmps10
  go_wp2_with fail
  go_ret
  refine ⟨_, _, rfl, ⟨.slice none 0 0, ⟨?_, Dr.Own.nil _ _⟩, rfl⟩, (Below.refl _ _).alloc (Nat.le_refl _) _, ?_⟩
  · exact Blk.new w 34 (Dr.cells (.slice none 0 0) (Dk.fresh n))
  · rintro k (rfl | hk)
    · exact Nat.le_refl _
    · cases hk
section
variable {W : World} {r : Nat} {m : Dk.M} {F : Nat → Prop}
theorem Dr.room_any (h : Dr.At W r m F) : Calls Try.prog 45 #[.pointer (some ⟨r, 0, none⟩)] W fun e W' => e = .returned (.int .i64 m.cap) ∧ W = W' := by
  obtain ⟨v, hS, rfl⟩ := h
  obtain ⟨c0, c1, c2, c3, c4, c5, c6⟩ := hS.seven
  go_enter Try.func45, Try.ntmps45
  go_wp2_with fail
  go_ret
  exact ⟨rfl, rfl⟩
theorem Dr.age_any (h : Dr.At W r m F) : Calls Try.prog 42 #[.pointer (some ⟨r, 0, none⟩)] W fun e W' => e = .returned (.int .i64 m.age) ∧ W = W' := by
  obtain ⟨v, hS, rfl⟩ := h
  obtain ⟨c0, c1, c2, c3, c4, c5, c6⟩ := hS.seven
  go_enter Try.func42, Try.ntmps42
  go_wp2_with fail
  go_ret
  exact ⟨rfl, rfl⟩
theorem Dr.writes_any (h : Dr.At W r m F) : Calls Try.prog 43 #[.pointer (some ⟨r, 0, none⟩)] W fun e W' => e = .returned (.int .i64 m.writes) ∧ W = W' := by
  obtain ⟨v, hS, rfl⟩ := h
  obtain ⟨c0, c1, c2, c3, c4, c5, c6⟩ := hS.seven
  go_enter Try.func43, Try.ntmps43
  go_wp2_with fail
  go_ret
  exact ⟨rfl, rfl⟩
theorem Dr.down_any (h : Dr.At W r m F) : Calls Try.prog 41 #[.pointer (some ⟨r, 0, none⟩)] W fun e W' => e = .returned (.bool m.off) ∧ W = W' := by
  obtain ⟨v, hS, rfl⟩ := h
  obtain ⟨c0, c1, c2, c3, c4, c5, c6⟩ := hS.seven
  go_enter Try.func41, Try.ntmps41
  go_wp2_with fail
  go_ret
  exact ⟨rfl, rfl⟩
end
end Go.Proofs.Ytgbeeghdoilmkaa
/- Disks (the document's): what is used, names, images. Conditions: each theorem's own hypotheses. -/
namespace Go.Proofs.Ytgbeeghdoilmkaa
open Go.RowKit Go.Maps Go.Sort
set_option linter.unusedVariables false

theorem Dk.used_take (l : List Dk.F) (k : Nat) : Dk.used (l.take k) ≤ Dk.used l := by
  have := Dk.used_append (l.take k) (l.drop k)
  rw [List.take_append_drop] at this
  omega
theorem Dk.used_more {l : List Dk.F} {k : Nat} {f : Dk.F} (h : l[k]? = some f) : Dk.used (l.take (k + 1)) = Dk.used (l.take k) + f.data.length := by
  rw [Dk.take_more h, Dk.used_append]
  show _ + (f.data.length + 0) = _
  omega
section
variable {W : World} {r : Nat} {m : Dk.M} {F : Nat → Prop}
set_option maxRecDepth 100000 in
set_option maxHeartbeats 1000000 in
theorem Dr.used_any (h : Dr.At W r m F) (hu : Dk.used m.files ≤ 1099511627776) (hm : m.files.length ≤ 4096) :
    Calls Try.prog 40 #[.pointer (some ⟨r, 0, none⟩)] W fun e W' => e = .returned (.int .i64 (Dk.used m.files)) ∧ W = W' := by
  obtain ⟨v, hS, rfl⟩ := h
  obtain ⟨c0, c1, c2, c3, c4, c5, c6⟩ := hS.seven
  obtain ⟨a, c, hv⟩ := hS.row.form
  rw [hv] at c1
  go_enter Try.func40, Try.ntmps40
  go_wp2_with fail
  go_loop [3, 4] (fun n i => ∃ k : Nat, k ≤ m.files.length ∧ i = .int .i64 k ∧ Hid (n = .int .i64 (Dk.used (m.files.take k)))) (fun _ i => m.files.length - (intOf i).toNat)
  case atStart => exact ⟨0, Nat.zero_le _, rfl, Lib.hid rfl⟩
  case round =>
    obtain ⟨k, hk, rfl, HN⟩ := hrel
    obtain rfl := HN.out
    by_cases hlt : k < m.files.length
    · obtain ⟨f, hf⟩ : ∃ f, m.files[k]? = some f := ⟨_, List.getElem?_eq_getElem hlt⟩
      obtain ⟨g, c', hv2, q1, q2, q3⟩ := hS.row.at_ hf
      rw [hv] at hv2
      injection hv2 with hv2 _ hc
      subst hv2 hc
      obtain ⟨db, hdb, hdbs⟩ := Tx.of f.data
      rw [Tx.v_eq hdb] at q2
      have h1 := Dk.used_more hf
      have h2 := Dk.used_take m.files (k + 1)
      obtain ⟨u, hu0⟩ : ∃ u, Dk.used (m.files.take k) = u := ⟨_, rfl⟩
      rw [hu0] at h1 ⊢
      have hwr : IntKind.i64.wrap ((u : Int) + (db.size : Int)) = ((Dk.used (m.files.take (k + 1)) : Nat) : Int) := (IntWalk.i64_in _ (by omega)).trans (by omega)
      have HU := Lib.hid hu
      clear HN hu0 h1 h2 hf hdbs hv c0 c2 c3 c4 c5 c6 hu q1 q3
      go_wp2_with fail
      go_round
      case rel => exact ⟨k + 1, hlt, by go_num, Lib.hid rfl⟩
      case measure => simp [intOf]; omega
    · obtain rfl : k = m.files.length := by omega
      rw [List.take_length]
      clear HN hu
      go_wp2_with fail
      go_ret
      exact ⟨rfl, rfl⟩
set_option maxRecDepth 100000 in
set_option maxHeartbeats 1000000 in
theorem Dr.names_any (h : Dr.At W r m F) (hm : m.files.length ≤ 4096) :
    Calls Try.prog 36 #[.pointer (some ⟨r, 0, none⟩)] W fun e W' => ∃ v, e = .returned v ∧
      W'.ownsRow W.heap.size 9 1 v (Dk.told m).length ((Dk.told m).map encStr) ∧ Below W.heap.size W W' := by
  obtain ⟨i0, hi, hz0, hz1, hz2⟩ := info_parts Dk.strInfo
  obtain ⟨v, hS, rfl⟩ := h
  obtain ⟨c0, c1, c2, c3, c4, c5, c6⟩ := hS.seven
  obtain ⟨a, c, hv⟩ := hS.row.form
  rw [hv] at c1
  unfold Dk.told
  cases ho : m.off with
  | true =>
    rw [ho] at c2
    rw [if_pos rfl]
    go_enter Try.func36, Try.ntmps36
    go_wp2_with fail
    go_ret
    exact ⟨_, rfl, World.ownsRow_nil _ _ _ _, Below.refl _ _⟩
  | false =>
    rw [ho] at c2
    rw [if_neg (by decide), List.length_map]
    clear ho c0 c3 c4 c5 c6
    go_enter Try.func36, Try.ntmps36
    go_wp2_with fail
    go_loopw [3, 4] (fun l i wr => ∃ k : Nat, k ≤ m.files.length ∧ i = .int .i64 k ∧ wr.ownsRow W.heap.size 9 1 l k (((m.files.take k).map Dk.F.name).map encStr) ∧ Below W.heap.size W wr) (fun _ i _ => m.files.length - (intOf i).toNat)
    case atStart => exact ⟨0, Nat.zero_le _, rfl, World.ownsRow_nil _ _ _ _, Below.refl _ _⟩
    case round =>
      obtain ⟨k, hk, rfl, hrow, hB⟩ := hrel
      have hSr := hS.later hB (Nat.le_refl _)
      obtain ⟨d0, d1, d2, d3, d4, d5, d6⟩ := hSr.seven
      rw [hv] at d1
      by_cases hlt : k < m.files.length
      · obtain ⟨f, hf⟩ : ∃ f, m.files[k]? = some f := ⟨_, List.getElem?_eq_getElem hlt⟩
        obtain ⟨g, c', hv2, q1, q2, q3⟩ := hSr.row.at_ hf
        rw [hv] at hv2
        injection hv2 with hv2 _ hc
        subst hv2 hc
        have hmore := Lib.hid (Dk.take_more hf)
        obtain ⟨nb, hnb, _⟩ := Tx.of f.name
        have hnv := Tx.v_eq hnb
        rw [hnv] at q1
        have HNV := Lib.hid hnv
        have HV := Lib.hid hv
        clear hf hv d0 d2 d3 d4 d5 d6 q2 q3 hnb hnv
        go_wp2_with (at_builtin; refine wpList_append_own _ rfl _ _ 63 rfl W.heap.size 9 i0 (.string ⟨#[]⟩) 1 16 Try.underlying63 hi hz0 hz1 hz2 rfl (by decide) _ _ _ rfl (hrow.alloc _) ⟨wr.heap.size, 0, none⟩ 1 1 [.string nb] rfl rfl (cell_one_new _ _ _) (by simp [Value.oneCell']) (by unfold maxLen at *; omega) (by omega) (by have := hB.size; simp; omega) ?_; intro v' w3 hown' hg3 hnil3)
        go_roundw
        case rel =>
          refine ⟨k + 1, hlt, by go_num, ?_, (hB.alloc hB.size _).grown hg3 (by have := hB.size; simp; omega) (fun j hj => (World.ownsRow.lt hrow j hj).1)⟩
          rw [hmore.out, List.map_append, List.map_append]
          show World.ownsRow _ _ _ _ _ _ (_ ++ [Tx.v f.name])
          rw [HNV.out]
          exact hown'
        case measure => simp [intOf]; omega
      · obtain rfl : k = m.files.length := by omega
        rw [List.take_length] at hrow
        have HV := Lib.hid hv
        clear hv
        go_wp2_with fail
        go_ret
        exact ⟨_, rfl, hrow, hB⟩
end
end Go.Proofs.Ytgbeeghdoilmkaa
