/- Disks in memory (the document's). Conditions: each theorem's own hypotheses. -/
import Derived.Test.YtifkhjihgnnpfaaGreatDoorZDkO
import Derived.Test.YtifkhjihgnnpfaaGreatDoorDkD
import Derived.BigQuiet
namespace Go.Proofs.YtifkhjihgnnpfaaGreatDoor
open Go.RowKit Go.Maps Go.Sort
set_option linter.unusedVariables false

theorem Dr.info : (Tryz.prog.info? 83).map (fun i => (i.zero, i.size, i.bytes)) = some (some (.agg #[.string ⟨#[]⟩, .string ⟨#[]⟩, .int .i64 0]), 3, 40) := by kernel_rfl
/-- The files' cells. -/
def Dr.cellsOf : List Dk.F → List Value
  | [] => []
  | f :: l => Tx.v f.name :: Tx.v f.data :: .int .i64 f.sure :: Dr.cellsOf l
theorem Dr.cellsOf_len : ∀ l, (Dr.cellsOf l).length = l.length * 3
  | [] => rfl
  | f :: l => by rw [Dr.cellsOf, List.length_cons, List.length_cons, List.length_cons, Dr.cellsOf_len l, List.length_cons]; omega
theorem Dr.cellsOf_append : ∀ a b, Dr.cellsOf (a ++ b) = Dr.cellsOf a ++ Dr.cellsOf b
  | [], _ => rfl
  | h :: a, b => by rw [List.cons_append, Dr.cellsOf, Dr.cellsOf, Dr.cellsOf_append a b]; rfl
theorem Dr.cellsOf_one : ∀ (l : List Dk.F), ∀ u ∈ Dr.cellsOf l, u.oneCell' = true
  | [], u, hu => by cases hu
  | h :: l, u, hu => by
    rw [Dr.cellsOf] at hu
    rcases List.mem_cons.1 hu with rfl | hu
    · rfl
    rcases List.mem_cons.1 hu with rfl | hu
    · rfl
    rcases List.mem_cons.1 hu with rfl | hu
    · rfl
    exact Dr.cellsOf_one l u hu
theorem Dr.cellsOf_get : ∀ (l : List Dk.F) (q : Nat) (h : Dk.F), l[q]? = some h → (Dr.cellsOf l)[q * 3]? = some (Tx.v h.name) ∧ (Dr.cellsOf l)[q * 3 + 1]? = some (Tx.v h.data) ∧ (Dr.cellsOf l)[q * 3 + 2]? = some (.int .i64 h.sure)
  | [], q, h, hq => by simp at hq
  | x :: l, 0, h, hq => by
    obtain rfl := Option.some.inj hq
    exact ⟨rfl, rfl, rfl⟩
  | x :: l, q + 1, h, hq => by
    have := Dr.cellsOf_get l q h hq
    rw [show (q + 1) * 3 = q * 3 + 1 + 1 + 1 from by omega, Dr.cellsOf]
    exact this
/-- An own row of files. -/
def Dr.Own (W : World) (B : Nat) (v : Value) (l : List Dk.F) : Prop := W.ownsRow B 83 3 v l.length (Dr.cellsOf l)
theorem Dr.Own.nil (W : World) (B : Nat) : Dr.Own W B (.slice none 0 0) [] := World.ownsRow_nil _ _ _ _
theorem Dr.Own.keep {W W' : World} {B : Nat} {v : Value} {l : List Dk.F} (h : Dr.Own W B v l) (hk : ∀ k, v.ownBlock = some k → W'.heap[k]? = W.heap[k]?) : Dr.Own W' B v l := by
  refine ⟨h.1, ?_⟩
  rcases h.2 with h | ⟨g, cap, cur, rfl, hb, hg, r⟩
  · exact .inl h
  · exact .inr ⟨g, cap, cur, rfl, hb, (hk g rfl).trans hg, r⟩
theorem Dr.Own.base {W : World} {B C : Nat} {v : Value} {l : List Dk.F} (h : Dr.Own W B v l) (hC : ∀ k, v.ownBlock = some k → C ≤ k) : Dr.Own W C v l := by
  refine ⟨h.1, ?_⟩
  rcases h.2 with h | ⟨g, cap, cur, rfl, hb, hg, r⟩
  · exact .inl h
  · exact .inr ⟨g, cap, cur, rfl, hC g rfl, hg, r⟩
theorem Dr.Own.form {W : World} {B : Nat} {v : Value} {l : List Dk.F} (h : Dr.Own W B v l) : ∃ a c, v = .slice a l.length c := by
  rcases h.2 with ⟨h1, h2⟩ | ⟨g, cap, cur, h1, _⟩
  · exact ⟨none, 0, by rw [h1, h2]⟩
  · exact ⟨_, _, h1⟩
theorem Dr.Own.at_ {W : World} {B : Nat} {v : Value} {l : List Dk.F} (h : Dr.Own W B v l) {k : Nat} {f : Dk.F} (hk : l[k]? = some f) : ∃ g c, v = .slice (some ⟨g, 0, none⟩) l.length c ∧
    W.cell? ⟨g, k * 3, none⟩ = some (Tx.v f.name) ∧ W.cell? ⟨g, k * 3 + 1, none⟩ = some (Tx.v f.data) ∧ W.cell? ⟨g, k * 3 + 2, none⟩ = some (.int .i64 f.sure) := by
  have hlt := (List.getElem?_eq_some_iff.1 hk).1
  obtain ⟨g, c, rfl, _⟩ := World.ownsRow.form h (by omega)
  obtain ⟨h1, h2, h3⟩ := Dr.cellsOf_get l k f hk
  refine ⟨g, c, rfl, ?_, ?_, ?_⟩
  · rw [World.ownsRow.cellAt h (k * 3) (by omega), h1]
  · rw [World.ownsRow.cellAt h (k * 3 + 1) (by omega), h2]
  · rw [World.ownsRow.cellAt h (k * 3 + 2) (by omega), h3]
def Dr.cells (v : Value) (m : Dk.M) : Array Value := #[.int .i64 m.cap, v, .bool m.off, .int .i64 m.left, .bool m.done, .int .i64 m.age, .int .i64 m.writes]
/-- The document's disk in memory: its block, its row of files. -/
structure Dr.Stand (W : World) (r : Nat) (v : Value) (m : Dk.M) : Prop where
  blk : Blk W r 47 (Dr.cells v m)
  row : Dr.Own W 0 v m.files
def Dr.foot (r : Nat) (v : Value) (k : Nat) : Prop := k = r ∨ v.ownBlock = some k
def Dr.At (W : World) (r : Nat) (m : Dk.M) (F : Nat → Prop) : Prop := ∃ v, Dr.Stand W r v m ∧ F = Dr.foot r v
/-- .. and so it has become, and nothing else has changed. -/
def Dr.Moved (W W' : World) (r : Nat) (F : Nat → Prop) (m' : Dk.M) : Prop := ∃ F', Dr.At W' r m' F' ∧ Dk.Only F W W' ∧ ∀ k, F' k → F k ∨ W.heap.size ≤ k
theorem Dr.Stand.lt {W : World} {r : Nat} {v : Value} {m : Dk.M} (h : Dr.Stand W r v m) {k : Nat} (hk : Dr.foot r v k) : k < W.heap.size := by
  rcases hk with rfl | hk
  · exact h.blk.lt
  · exact (World.ownsRow.lt h.row k hk).2
theorem Dr.Stand.keep {W W' : World} {r : Nat} {v : Value} {m : Dk.M} (h : Dr.Stand W r v m) (hk : ∀ k, Dr.foot r v k → W'.heap[k]? = W.heap[k]?) : Dr.Stand W' r v m :=
  ⟨(hk r (.inl rfl)).trans h.blk, h.row.keep fun k e => hk k (.inr e)⟩
theorem Dr.Stand.later {W W' : World} {r : Nat} {v : Value} {m : Dk.M} (h : Dr.Stand W r v m) {B : Nat} (hB : Below B W W') (hs : W.heap.size ≤ B) : Dr.Stand W' r v m :=
  h.keep fun k hk => hB.block k (Nat.lt_of_lt_of_le (h.lt hk) hs)
theorem Dr.Stand.lone {W : World} {r : Nat} {v : Value} {m : Dk.M} (h : Dr.Stand W r v m) : ∀ k, v.ownBlock = some k → k ≠ r := by
  rintro k hk rfl
  have hb := h.blk
  unfold Blk at hb
  rcases h.row.2 with ⟨rfl, _⟩ | ⟨g, cap, cur, rfl, _, hg, _⟩
  · cases hk
  · injection hk with hk
    subst hk
    rw [hb] at hg
    injection hg with hg
    injection hg with _ hg _
    cases hg
theorem Dr.Stand.seven {W : World} {r : Nat} {v : Value} {m : Dk.M} (h : Dr.Stand W r v m) :
    W.cell? ⟨r, 0, none⟩ = some (.int .i64 m.cap) ∧ W.cell? ⟨r, 1, none⟩ = some v ∧ W.cell? ⟨r, 2, none⟩ = some (.bool m.off) ∧ W.cell? ⟨r, 3, none⟩ = some (.int .i64 m.left) ∧ W.cell? ⟨r, 4, none⟩ = some (.bool m.done) ∧ W.cell? ⟨r, 5, none⟩ = some (.int .i64 m.age) ∧ W.cell? ⟨r, 6, none⟩ = some (.int .i64 m.writes) :=
  ⟨h.blk.cell 0, h.blk.cell 1, h.blk.cell 2, h.blk.cell 3, h.blk.cell 4, h.blk.cell 5, h.blk.cell 6⟩
theorem Dr.At.lt {W : World} {r : Nat} {m : Dk.M} {F : Nat → Prop} (h : Dr.At W r m F) {k : Nat} (hk : F k) : k < W.heap.size := by
  obtain ⟨v, hS, rfl⟩ := h
  exact hS.lt hk
theorem Dr.At.keep {W W' : World} {r : Nat} {m : Dk.M} {F : Nat → Prop} (h : Dr.At W r m F) (hk : ∀ k, F k → W'.heap[k]? = W.heap[k]?) : Dr.At W' r m F := by
  obtain ⟨v, hS, rfl⟩ := h
  exact ⟨v, hS.keep hk, rfl⟩
theorem Dr.At.later {W W' : World} {r : Nat} {m : Dk.M} {F : Nat → Prop} (h : Dr.At W r m F) {B : Nat} (hB : Below B W W') (hs : W.heap.size ≤ B) : Dr.At W' r m F :=
  h.keep fun k hk => hB.block k (Nat.lt_of_lt_of_le (h.lt hk) hs)
theorem Dr.At.apart {W W' : World} {r : Nat} {m : Dk.M} {F G : Nat → Prop} (h : Dr.At W r m F) (ho : Dk.Only G W W') (hG : ∀ k, F k → ¬ G k) : Dr.At W' r m F :=
  h.keep fun k hk => ho.block k (h.lt hk) (hG k hk)

set_option maxRecDepth 100000 in
theorem Dr.new_none (n : Int) (hn : n < 0 ∨ 1073741824 < n) (w : World) :
    Calls Tryz.prog 5 #[.int .i64 n] w fun e w' => e = .returned (.pointer none) ∧ w = w' := by
  by_cases h : n < 0
  · have u1 : decide (n < 0) = true := decide_eq_true h
    go_enter Tryz.func5, Tryz.ntmps5
    go_wp2_with fail
    go_ret
    exact ⟨rfl, rfl⟩
  · have u1 : decide (n < 0) = false := decide_eq_false h
    have u2 : decide (1073741824 < n) = true := decide_eq_true (by omega)
    go_enter Tryz.func5, Tryz.ntmps5
    go_wp2_with fail
    go_ret
    exact ⟨rfl, rfl⟩
set_option maxRecDepth 100000 in
theorem Dr.new_any (n : Nat) (hn : n ≤ 1073741824) (w : World) :
    Calls Tryz.prog 5 #[.int .i64 n] w fun e w' => ∃ r F, e = .returned (.pointer (some ⟨r, 0, none⟩)) ∧ Dr.At w' r (Dk.fresh n) F ∧ Below w.heap.size w w' ∧ ∀ k, F k → w.heap.size ≤ k := by
  have u1 : decide ((n : Int) < 0) = false := decide_eq_false (by omega)
  have u2 : decide (1073741824 < (n : Int)) = false := decide_eq_false (by omega)
  go_enter Tryz.func5, Tryz.ntmps5
  go_wp2_with fail
  go_ret
  refine ⟨_, _, rfl, ⟨.slice none 0 0, ⟨?_, Dr.Own.nil _ _⟩, rfl⟩, (Below.refl _ _).alloc (Nat.le_refl _) _, ?_⟩
  · exact Blk.new w 47 (Dr.cells (.slice none 0 0) (Dk.fresh n))
  · rintro k (rfl | hk)
    · exact Nat.le_refl _
    · cases hk
section
variable {W : World} {r : Nat} {m : Dk.M} {F : Nat → Prop}
theorem Dr.age_any (h : Dr.At W r m F) : Calls Tryz.prog 83 #[.pointer (some ⟨r, 0, none⟩)] W fun e W' => e = .returned (.int .i64 m.age) ∧ W = W' := by
  obtain ⟨v, hS, rfl⟩ := h
  obtain ⟨c0, c1, c2, c3, c4, c5, c6⟩ := hS.seven
  go_enter Tryz.func83, Tryz.ntmps83
  go_wp2_with fail
  go_ret
  exact ⟨rfl, rfl⟩
theorem Dr.writes_any (h : Dr.At W r m F) : Calls Tryz.prog 16 #[.pointer (some ⟨r, 0, none⟩)] W fun e W' => e = .returned (.int .i64 m.writes) ∧ W = W' := by
  obtain ⟨v, hS, rfl⟩ := h
  obtain ⟨c0, c1, c2, c3, c4, c5, c6⟩ := hS.seven
  go_enter Tryz.func16, Tryz.ntmps16
  go_wp2_with fail
  go_ret
  exact ⟨rfl, rfl⟩
theorem Dr.down_any (h : Dr.At W r m F) : Calls Tryz.prog 18 #[.pointer (some ⟨r, 0, none⟩)] W fun e W' => e = .returned (.bool m.off) ∧ W = W' := by
  obtain ⟨v, hS, rfl⟩ := h
  obtain ⟨c0, c1, c2, c3, c4, c5, c6⟩ := hS.seven
  go_enter Tryz.func18, Tryz.ntmps18
  go_wp2_with fail
  go_ret
  exact ⟨rfl, rfl⟩
end
end Go.Proofs.YtifkhjihgnnpfaaGreatDoor
/- Disks (the document's): what is used, names, images. Conditions: each theorem's own hypotheses. -/
namespace Go.Proofs.YtifkhjihgnnpfaaGreatDoor
open Go.RowKit Go.Maps Go.Sort
set_option linter.unusedVariables false

theorem Dk.used_take (l : List Dk.F) (k : Nat) : Dk.used (l.take k) ≤ Dk.used l := by
  have := Dk.used_append (l.take k) (l.drop k)
  rw [List.take_append_drop] at this
  omega
theorem Dk.used_more {l : List Dk.F} {k : Nat} {f : Dk.F} (h : l[k]? = some f) : Dk.used (l.take (k + 1)) = Dk.used (l.take k) + f.data.length := by
  rw [Dk.take_more h, Dk.used_append]
  show _ + (f.data.length + 0) = _
  omega
section
variable {W : World} {r : Nat} {m : Dk.M} {F : Nat → Prop}
set_option maxRecDepth 100000 in
set_option maxHeartbeats 1000000 in
theorem Dr.used_any (h : Dr.At W r m F) (hu : Dk.used m.files ≤ 1099511627776) (hm : m.files.length ≤ 4096) :
    Calls Tryz.prog 14 #[.pointer (some ⟨r, 0, none⟩)] W fun e W' => e = .returned (.int .i64 (Dk.used m.files)) ∧ W = W' := by
  obtain ⟨v, hS, rfl⟩ := h
  obtain ⟨c0, c1, c2, c3, c4, c5, c6⟩ := hS.seven
  obtain ⟨a, c, hv⟩ := hS.row.form
  rw [hv] at c1
  go_enter Tryz.func14, Tryz.ntmps14
  go_wp2_with fail
  go_loop [3, 4] (fun n i => ∃ k : Nat, k ≤ m.files.length ∧ i = .int .i64 k ∧ Hid (n = .int .i64 (Dk.used (m.files.take k)))) (fun _ i => m.files.length - (intOf i).toNat)
  case atStart => exact ⟨0, Nat.zero_le _, rfl, Lib.hid rfl⟩
  case round =>
    obtain ⟨k, hk, rfl, HN⟩ := hrel
    obtain rfl := HN.out
    by_cases hlt : k < m.files.length
    · obtain ⟨f, hf⟩ : ∃ f, m.files[k]? = some f := ⟨_, List.getElem?_eq_getElem hlt⟩
      obtain ⟨g, c', hv2, q1, q2, q3⟩ := hS.row.at_ hf
      rw [hv] at hv2
      injection hv2 with hv2 _ hc
      subst hv2 hc
      obtain ⟨db, hdb, hdbs⟩ := Tx.of f.data
      rw [Tx.v_eq hdb] at q2
      have h1 := Dk.used_more hf
      have h2 := Dk.used_take m.files (k + 1)
      obtain ⟨u, hu0⟩ : ∃ u, Dk.used (m.files.take k) = u := ⟨_, rfl⟩
      rw [hu0] at h1 ⊢
      have hwr : IntKind.i64.wrap ((u : Int) + (db.size : Int)) = ((Dk.used (m.files.take (k + 1)) : Nat) : Int) := (IntWalk.i64_in _ (by omega)).trans (by omega)
      have HU := Lib.hid hu
      clear HN hu0 h1 h2 hf hdbs hv c0 c2 c3 c4 c5 c6 hu q1 q3
      go_wp2_with fail
      go_round
      case rel => exact ⟨k + 1, hlt, by go_num, Lib.hid rfl⟩
      case measure => simp [intOf]; omega
    · obtain rfl : k = m.files.length := by omega
      rw [List.take_length]
      clear HN hu
      go_wp2_with fail
      go_ret
      exact ⟨rfl, rfl⟩
end
end Go.Proofs.YtifkhjihgnnpfaaGreatDoor
/- Disks (the document's): images. Conditions: each theorem's own hypotheses. -/
namespace Go.Proofs.YtifkhjihgnnpfaaGreatDoor
open Go.RowKit Go.Maps Go.Sort
set_option linter.unusedVariables false

theorem Dr.not_own {w : World} {B : Nat} {v : Value} {l : List UInt8} (h : Dk.Own w B v l) {g : Nat} {t : TypeId} {cs : Array Value} (hb : Blk w g t cs) (ht : t ≠ 5) : some g ≠ v.ownBlock := by
  intro e
  rcases h.2 with ⟨rfl, _⟩ | ⟨g2, cap, cur, rfl, _, hg, _⟩
  · cases e
  · injection e with e
    subst e
    unfold Blk at hb
    rw [hb] at hg
    injection hg with hg
    injection hg with _ hg _
    exact ht hg
theorem Dr.be_cells (n : Nat) (hn : n ≤ 268435456) : (#[Value.int IntKind.u8 ((n : Int) / 16777216), Value.int IntKind.u8 ((n : Int) / 65536 % 256), Value.int IntKind.u8 ((n : Int) / 256 % 256), Value.int IntKind.u8 ((n : Int) % 256)] : Array Value) = ((Dk.be4 n).map Dk.bv).toArray := by
  have h : ∀ k : Nat, ((UInt8.ofNat (k % 256)).toNat : Int) = (k : Int) % 256 := fun k => by
    rw [UInt8.toNat_ofNat', Nat.mod_eq_of_lt (Nat.mod_lt _ (by decide))]
    omega
  unfold Dk.be4 Dk.bv
  simp only [List.map_cons, List.map_nil, h]
  congr 5
  · congr 1
    omega
section
variable {W : World} {r : Nat} {m : Dk.M} {F : Nat → Prop}
set_option maxRecDepth 100000 in
set_option maxHeartbeats 4000000 in
theorem Dr.image_any (h : Dr.At W r m F) (hG : Dk.Good m) :
    Calls Tryz.prog 20 #[.pointer (some ⟨r, 0, none⟩)] W fun e W' => e = .returned (Tx.v (Dk.image m)) ∧ Below W.heap.size W W' := by
  obtain ⟨v, hS, rfl⟩ := h
  obtain ⟨a, c, hv⟩ := hS.row.form
  have hm0 := hG.many
  have hle := Dk.imgs_take hG
  go_enter Tryz.func20, Tryz.ntmps20
  go_wp2_with fail
  go_loopw [3, 4] (fun l i wr => ∃ k, k ≤ m.files.length ∧ i = .int .i64 k ∧ Dk.Own wr W.heap.size l (68 :: Dk.imgs (m.files.take k)) ∧ Below W.heap.size W wr) (fun _ i _ => m.files.length - (intOf i).toNat)
  case atStart => exact ⟨0, Nat.zero_le _, rfl, Dk.Own.new W 68, (Below.refl _ _).alloc (Nat.le_refl _) _⟩
  case round =>
    obtain ⟨k, hk, rfl, hown, hB⟩ := hrel
    have hSr := hS.later hB (Nat.le_refl _)
    obtain ⟨d0, d1, _⟩ := hSr.seven
    rw [hv] at d1
    by_cases hlt : k < m.files.length
    · obtain ⟨f, hf⟩ : ∃ f, m.files[k]? = some f := ⟨_, List.getElem?_eq_getElem hlt⟩
      obtain ⟨g, c', hv2, q0, q1, q2⟩ := hSr.row.at_ hf
      rw [hv] at hv2
      injection hv2 with hv2 _ hc
      subst hv2 hc
      obtain ⟨hf1, hf2, hf3⟩ := hG.file f (List.mem_of_getElem? hf)
      have hf4 : f.name.length ≤ 32 := by
        have h := hf1
        unfold Dk.named at h
        rw [Bool.and_eq_true, decide_eq_true_iff] at h
        exact h.2.2
      obtain ⟨nb, hnb, hnbs⟩ := Tx.of f.name
      obtain ⟨db, hdb, hdbs⟩ := Tx.of f.data
      rw [Tx.v_eq hnb] at q0
      rw [Tx.v_eq hdb] at q1
      obtain ⟨z, hz⟩ : ∃ z, UInt8.ofNat f.name.length = z := ⟨_, rfl⟩
      have hzn : IntKind.u8.wrap (nb.size : Int) = (z.toNat : Int) := by
        rw [← hz, UInt8.toNat_ofNat', hnbs, Nat.mod_eq_of_lt (by omega)]
        unfold IntKind.wrap; simp [IntKind.bits, IntKind.signed]; omega
      obtain ⟨l, hl⟩ : ∃ l, (68 : UInt8) :: Dk.imgs (m.files.take k) = l := ⟨_, rfl⟩
      rw [hl] at hown
      have hll : l.length ≤ 1074000001 := by rw [← hl, List.length_cons]; have := hle k; omega
      have hnext : Hid ((68 : UInt8) :: Dk.imgs (m.files.take (k + 1)) = l ++ (z :: (f.name ++ Dk.be4 f.sure ++ f.data.take f.sure))) := by
        show _ = _
        rw [Dk.imgs_more hf, ← hl, ← hz]; rfl
      have HZ := Lib.hid hz
      have HL := Lib.hid hl
      have HN := Lib.hid (And.intro hnb hnbs)
      have HD := Lib.hid (And.intro hdb hdbs)
      have HF := Lib.hid hf
      have HV := Lib.hid hv
      clear hz hl hnb hnbs hdb hdbs hf hle hv
      go_upto_region 6 with fail
      have hX := Blk.new wr 83 #[Value.string nb, Value.string db, Value.int IntKind.i64 (f.sure : Int)]
      have hBX := hB.alloc hB.size (.cells #[Value.string nb, Value.string db, Value.int IntKind.i64 (f.sure : Int)] 83)
      have hoX := hown.alloc (.cells #[Value.string nb, Value.string db, Value.int IntKind.i64 (f.sure : Int)] 83)
      obtain ⟨t, ht⟩ : ∃ t, wr.heap.size = t := ⟨_, rfl⟩
      obtain ⟨X, hXX⟩ : ∃ X, wr.alloc (.cells #[Value.string nb, Value.string db, Value.int IntKind.i64 (f.sure : Int)] 83) = X := ⟨_, rfl⟩
      rw [hXX] at hX hBX hoX ⊢
      have htB := hB.size
      rw [ht] at hX htB ⊢
      clear hXX ht hSr d0 d1 q0 q1 q2 hB hown
      have p0 := hX.cell 0
      have p1 := hX.cell 1
      have p2 := hX.cell 2
      simp only [List.getElem?_toArray, List.getElem?_cons_zero, List.getElem?_cons_succ] at p0 p1 p2
      go_upto_region 9 with (first
        | (at_builtin; refine Dk.wpList_append rfl _ _ 84 9 rfl _ _ rfl rfl _ (fun ty => ho1.text nb (by rw [List.length_append]; simp; have := HN.out.2; omega) hB1.size ty) ?_; intro v2 w5 ho2; obtain ⟨ho2, hg2⟩ := ho2)
        | (at_builtin; refine Dk.wpList_append rfl _ _ 84 84 rfl _ _ rfl rfl _ (fun ty => (hoX.alloc _).cat (Dk.Src.new _ [z] 1 1 rfl) (by simp; omega) (by have := hBX.size; simp; omega) ty) ?_; intro v1 w4 ho1; obtain ⟨ho1, hg1⟩ := ho1
           have hB1 := (hBX.alloc hBX.size _).grown hg1 (by have := hBX.size; simp; omega) (fun k hk => (World.ownsRow.lt hoX k hk).1)
           have hX1 := (hX.alloc _).grown hg1 (Dr.not_own hoX hX (by decide))
           have p0 := hX1.cell 0
           simp only [List.getElem?_toArray, List.getElem?_cons_zero] at p0))
      have hX2 := hX1.grown hg2 (Dr.not_own ho1 hX1 (by decide))
      have hB2 := hB1.grown hg2 hB1.size (fun k hk => (World.ownsRow.lt ho1 k hk).1)
      obtain ⟨l2, hl2⟩ : ∃ l2, l ++ [z] ++ nb.data.toList = l2 := ⟨_, rfl⟩
      rw [hl2] at ho2
      have hll2 : l2.length ≤ 1074000034 := by
        rw [← hl2, List.length_append, List.length_append, ← Tx.size]
        have := HN.out.2
        simp
        omega
      have HL2 := Lib.hid hl2
      clear hl2 hX1 hB1 ho1 hX hBX hoX hg1 hg2 p0 p1 p2
      have p1 := hX2.cell 1
      simp only [List.getElem?_toArray, List.getElem?_cons_zero, List.getElem?_cons_succ] at p1
      have hsrc : Dk.Src (w5.alloc (.cells #[Value.int IntKind.u8 ((f.sure : Int) / 16777216), Value.int IntKind.u8 ((f.sure : Int) / 65536 % 256), Value.int IntKind.u8 ((f.sure : Int) / 256 % 256), Value.int IntKind.u8 ((f.sure : Int) % 256)] 5)) (.slice (some ⟨w5.heap.size, 0, none⟩) 4 4) (Dk.be4 f.sure) := by
        rw [Dr.be_cells f.sure (by omega)]
        exact Dk.Src.new w5 _ 4 4 rfl
      have h4 : (Dk.be4 f.sure).length = 4 := rfl
      have hds := HD.out.2
      have s1 : (f.sure : Int) ≤ (db.size : Int) := by omega
      obtain ⟨yb, hyb⟩ : ∃ yb, db.extract 0 f.sure = yb := ⟨_, rfl⟩
      have hyl : yb.data.toList = f.data.take f.sure := by rw [← hyb, Tx.extract, HD.out.1]; rfl
      have hys : yb.size ≤ 268435456 := by rw [Tx.size, hyl, List.length_take]; omega
      have HY := Lib.hid hyl
      clear hyl hds
      go_wp2_with (first
        | (at_builtin; refine Dk.wpList_append rfl _ _ 84 9 rfl _ _ rfl rfl _ (fun ty => ho3.text yb (by rw [List.length_append]; omega) hB3.size ty) ?_; intro v4 w7 ho4; obtain ⟨ho4, hg4⟩ := ho4)
        | (at_builtin; refine Dk.wpList_append rfl _ _ 84 84 rfl _ _ rfl rfl _ (fun ty => (ho2.alloc _).cat hsrc (by omega) (by have := hB2.size; simp; omega) ty) ?_; intro v3 w6 ho3; obtain ⟨ho3, hg3⟩ := ho3
           have hB3 := (hB2.alloc hB2.size _).grown hg3 (by have := hB2.size; simp; omega) (fun k hk => (World.ownsRow.lt ho2 k hk).1)
           have hX3 := (hX2.alloc _).grown hg3 (Dr.not_own ho2 hX2 (by decide))
           have p1 := hX3.cell 1
           simp only [List.getElem?_toArray, List.getElem?_cons_zero, List.getElem?_cons_succ] at p1))
      go_roundw
      case rel =>
        refine ⟨k + 1, hlt, by go_num, ?_, hB3.grown hg4 hB3.size (fun k hk => (World.ownsRow.lt ho3 k hk).1)⟩
        rw [hnext.out, ← HN.out.1]
        rw [← HL2.out, HY.out] at ho4
        simpa using ho4
      case measure => simp [intOf]; omega
    · obtain rfl : k = m.files.length := by omega
      rw [List.take_length] at hown
      have hcv := Dk.conv_own hown rfl
      have HV := Lib.hid hv
      clear hv
      go_wp2_with fail
      go_ret
      exact ⟨rfl, hB⟩
end
end Go.Proofs.YtifkhjihgnnpfaaGreatDoor
/- Disks (the document's): Open. Conditions: each theorem's own hypotheses. -/
namespace Go.Proofs.YtifkhjihgnnpfaaGreatDoor
open Go.RowKit Go.Maps Go.Sort
set_option linter.unusedVariables false

theorem Dk.one_rest {l nm data rest : List UInt8} (h : Dk.one l = some (nm, data, rest)) : rest = l.drop (1 + nm.length + 4 + data.length) := by
  cases l with
  | nil => cases h
  | cons c r =>
    rw [Dk.one_cons] at h
    split at h
    · cases h
    · rename_i h1
      split at h
      · rename_i h2
        injection h with h
        injection h with e1 h
        injection h with e2 e3
        rw [← e3, ← e1, ← e2, List.drop_drop]
        simp only [List.length_take, List.length_drop]
        have := h2.2.2
        rw [show 1 + min c.toNat r.length + 4 + min (Dk.num ((r.drop c.toNat).take 4)) (r.length - (c.toNat + 4)) = (c.toNat + 4 + Dk.num ((r.drop c.toNat).take 4)) + 1 from by omega, List.drop_succ_cons]
      · cases h
/-- One file put behind an own row. -/
theorem Dr.Own.cat {w : World} {B : Nat} {v : Value} {l : List Dk.F} (h : Dr.Own w B v l) (f : Dk.F) {g c : Nat} (hc : ∀ j u, (Dr.cellsOf [f])[j]? = some u → w.cell? ((⟨g, 0, none⟩ : Addr).add j) = some u) (hl : l.length ≤ 3000000000) (hB : B ≤ w.heap.size) (ty : TypeId) :
    ∃ v' w', (Builtin.append_ #[45, 45] ty #[v, .slice (some ⟨g, 0, none⟩) 1 c]).run Tryz.prog w = .ok v' w' ∧ Dr.Own w' B v' (l ++ [f]) ∧ w.grownBy w' v.ownBlock := by
  obtain ⟨i, hi, hz0, hz1, hz2⟩ := info_parts Dr.info
  obtain ⟨v', w', h1, h2, h3, _⟩ := run_append_own (P := Tryz.prog) w B 45 ty 83 i _ 3 40 Tryz.underlying45 hi hz0 hz1 hz2 rfl (by decide) v l.length (Dr.cellsOf l) h ⟨g, 0, none⟩ 1 c (Dr.cellsOf [f]) rfl hc (Dr.cellsOf_one _) (by unfold maxLen; omega) (by omega) hB
  refine ⟨v', w', h1, ?_, h3⟩
  unfold Dr.Own
  rw [List.length_append, Dr.cellsOf_append]
  exact h2
theorem Dr.Own.alloc {W : World} {B : Nat} {v : Value} {l : List Dk.F} (h : Dr.Own W B v l) (o : Obj) : Dr.Own (W.alloc o) B v l := h.keep fun k hk => Below.heap_alloc W o k (World.ownsRow.lt h k hk).2
theorem Dr.Own.type {W : World} {B : Nat} {v : Value} {l : List Dk.F} (h : Dr.Own W B v l) {k : Nat} (hk : v.ownBlock = some k) : ∃ cur, W.heap[k]? = some (.cells cur 83 (0, 0)) := by
  rcases h.2 with ⟨rfl, _⟩ | ⟨g, cap, cur, rfl, _, hg, _⟩
  · cases hk
  · injection hk with hk
    subst hk
    exact ⟨_, hg⟩
/-- A file's copy reads as its cells. -/
theorem Dr.news {w : World} {g : Nat} {nm data : List UInt8} {n : Nat} {nb db : ByteArray} (hn : Tx.v nm = .string nb) (hd : Tx.v data = .string db) (hb : Blk w g 83 #[.string nb, .string db, .int .i64 n]) :
    ∀ j u, (Dr.cellsOf [⟨nm, data, n⟩])[j]? = some u → w.cell? ((⟨g, 0, none⟩ : Addr).add j) = some u := by
  have h : Dr.cellsOf [⟨nm, data, n⟩] = #[Value.string nb, .string db, .int .i64 n].toList := by
    show [Tx.v nm, Tx.v data, _] = _
    rw [hn, hd]
  rw [h]
  exact World.news_of_block hb
/-- The load of the list's own cell, under a name. -/
def Dr.o70 : Op := Op.load 45 (Operand.tmp 69)
attribute [go_sem] Dr.o70
/-- What the region of the append reads. -/
def Dr.Four (r t : Nat) (nb db : ByteArray) (n : Nat) (W : World) : Prop := W.frozen? ⟨r, 1, none⟩ = false ∧ W.cell? ⟨t, 0, none⟩ = some (.string nb) ∧ W.cell? ⟨t, 1, none⟩ = some (.string db) ∧ W.cell? ⟨t, 2, none⟩ = some (.int .i64 n)
theorem Dr.Four.keep {r t : Nat} {nb db : ByteArray} {n : Nat} {W W' : World} (h : Dr.Four r t nb db n W) (h1 : W'.heap[r]? = W.heap[r]?) (h2 : W'.heap[t]? = W.heap[t]?) : Dr.Four r t nb db n W' :=
  ⟨(World.frozen?_of_block h1).trans h.1, (World.cell?_of_block h2).trans h.2.1, (World.cell?_of_block h2).trans h.2.2.1, (World.cell?_of_block h2).trans h.2.2.2⟩
theorem Dr.Four.set {r t : Nat} {nb db : ByteArray} {n : Nat} {W : World} (h : Dr.Four r t nb db n W) (hne : t ≠ r) (u : Value) : Dr.Four r t nb db n (W.setCell ⟨r, 1, none⟩ u) :=
  ⟨by rw [World.frozen?_setCell]; exact h.1, (World.cell?_of_block (Below.heap_setCell W _ u _ hne)).trans h.2.1, (World.cell?_of_block (Below.heap_setCell W _ u _ hne)).trans h.2.2.1, (World.cell?_of_block (Below.heap_setCell W _ u _ hne)).trans h.2.2.2⟩
/-- The loop of an opening. -/
structure Dr.OpSt (W wr : World) (r c : Nat) (l : List UInt8) (R : Option (List Dk.F)) (k fu : Nat) (acc : List Dk.F) (v : Value) : Prop where
  text : Dk.scan fu acc (l.drop k) = R
  len : l.length < fu + k
  small : k ≤ l.length
  fine : Dk.Fine acc
  st : Dr.Stand wr r v { Dk.fresh c with files := acc }
  foot : ∀ k, Dr.foot r v k → W.heap.size ≤ k
  below : Below W.heap.size W wr
theorem Dr.OpSt.step {W Y2 w5 : World} {r c : Nat} {l : List UInt8} {R : Option (List Dk.F)} {k2 n : Nat} {acc : List Dk.F} {v v5 : Value} {o : Obj} {nm data : List UInt8}
    (hS : Dr.Stand Y2 r v { Dk.fresh c with files := acc }) (hB : Below W.heap.size W Y2) (hf : ∀ k, Dr.foot r v k → W.heap.size ≤ k)
    (ho : Dr.Own w5 W.heap.size v5 (acc ++ [⟨nm, data, data.length⟩])) (hg : (Y2.drew.alloc o).grownBy w5 v.ownBlock) (hro : some r ≠ v.ownBlock)
    (htext : Dk.scan n (acc ++ [⟨nm, data, data.length⟩]) (l.drop k2) = R) (hlen : l.length < n + k2) (hsm : k2 ≤ l.length) (hfine : Dk.Fine (acc ++ [⟨nm, data, data.length⟩])) :
    Dr.OpSt W (w5.setCell ⟨r, 1, none⟩ v5) r c l R k2 n (acc ++ [⟨nm, data, data.length⟩]) v5 := by
  have hrl := hS.blk.lt
  have hsz : Y2.heap.size + 1 ≤ w5.heap.size := by have := hg.size; simpa using this
  have hb5 : Blk w5 r 47 (Dr.cells v { Dk.fresh c with files := acc }) :=
    (hg.block r (by simp; omega) hro).trans ((Below.heap_alloc Y2.drew o r hrl).trans hS.blk)
  have hnr : ∀ k, v5.ownBlock = some k → k ≠ r := by
    rintro k hk rfl
    obtain ⟨cur, h⟩ := ho.type hk
    unfold Blk at hb5
    rw [hb5] at h
    injection h with h
    injection h with _ h _
    cases h
  refine ⟨htext, hlen, hsm, hfine, ⟨hb5.set_ 1 v5, ?_⟩, ?_, ?_⟩
  · exact (ho.keep fun k hk => Below.heap_setCell w5 ⟨r, 1, none⟩ v5 k (hnr k hk)).base fun _ _ => Nat.zero_le _
  · rintro k (rfl | hk)
    · exact hf _ (.inl rfl)
    · exact (World.ownsRow.lt ho k hk).1
  · have h1 : Below W.heap.size W (Y2.drew.alloc o) := (hB.drew).alloc (by have := hB.size; exact this) o
    have h2 := h1.grown hg (by have := hB.size; simp; omega) fun k hk => hf k (.inr hk)
    exact h2.setCell (hf r (.inl rfl)) v5
def Dr.openV (r : Nat) : Except Int Dk.M → Value
  | .error e => .tuple #[.pointer none, .int .i64 e]
  | .ok _ => .tuple #[.pointer (some ⟨r, 0, none⟩), .int .i64 0]
end Go.Proofs.YtifkhjihgnnpfaaGreatDoor
/- Laws of disks: helpers that compare. Conditions: each theorem's own hypotheses. -/
namespace Go.Proofs.YtifkhjihgnnpfaaGreatDoor
open Go.RowKit Go.Maps Go.Sort
set_option linter.unusedVariables false

/-- A row of names. -/
def Dw.Txs (W : World) (B : Nat) (v : Value) (l : List (List UInt8)) : Prop := W.ownsRow B 9 1 v l.length (l.map encStr)
theorem Dw.Txs.form {W : World} {B : Nat} {v : Value} {l : List (List UInt8)} (h : Dw.Txs W B v l) : ∃ a c, v = .slice a l.length c := by
  rcases h.2 with ⟨h1, h2⟩ | ⟨g, cap, cur, h1, _⟩
  · exact ⟨none, 0, by rw [h1, h2]⟩
  · exact ⟨_, _, h1⟩
theorem Dw.Txs.at_ {W : World} {B : Nat} {v : Value} {l : List (List UInt8)} (h : Dw.Txs W B v l) {k : Nat} {x : List UInt8} (hk : l[k]? = some x) : ∃ g c, v = .slice (some ⟨g, 0, none⟩) l.length c ∧ W.cell? ⟨g, k, none⟩ = some (Tx.v x) := by
  have hlt := (List.getElem?_eq_some_iff.1 hk).1
  obtain ⟨g, c, rfl, _⟩ := World.ownsRow.form h (by omega)
  refine ⟨g, c, rfl, ?_⟩
  rw [World.ownsRow.cellAt h k (by omega), List.getElem?_map, hk]; rfl
theorem Dw.Txs.keep {W W' : World} {B : Nat} {v : Value} {l : List (List UInt8)} (h : Dw.Txs W B v l) (hk : ∀ k, v.ownBlock = some k → W'.heap[k]? = W.heap[k]?) : Dw.Txs W' B v l := by
  refine ⟨h.1, ?_⟩
  rcases h.2 with h | ⟨g, cap, cur, rfl, hb, hg, r⟩
  · exact .inl h
  · exact .inr ⟨g, cap, cur, rfl, hb, (hk g rfl).trans hg, r⟩
theorem Dw.Txs.below {W W' : World} {B : Nat} {v : Value} {l : List (List UInt8)} (h : Dw.Txs W B v l) (hB : Below W.heap.size W W') : Dw.Txs W' B v l := h.keep fun k hk => hB.block k (World.ownsRow.lt h k hk).2

section
variable {W : World} {d r : Nat} {m : Dk.M} {F G : Nat → Prop}
end
end Go.Proofs.YtifkhjihgnnpfaaGreatDoor
/- Law DiskNew: whatever the image and the capacity: it returns true. Conditions: each theorem's own hypotheses. -/
namespace Go.Proofs.YtifkhjihgnnpfaaGreatDoor
open Go.RowKit Go.Maps Go.Sort
set_option linter.unusedVariables false

theorem Dk.code_at {m : Dk.M} (hG : Dk.Good m) (ho : m.off = false) {k : Nat} {f : Dk.F} (hf : m.files[k]? = some f) : Dk.code m f.name = 0 ∧ Dk.data m f.name = f.data := by
  have hg := Dk.get_at hG.up hf
  have hn := (hG.file f (List.mem_of_getElem? hf)).1
  unfold Dk.code Dk.data
  rw [ho, hn, hg]
  exact ⟨rfl, rfl⟩
theorem Dk.read_all {m : Dk.M} (hG : Dk.Good m) (ho : m.off = false) {k : Nat} {f : Dk.F} (hf : m.files[k]? = some f) : Dk.readV m f.name 0 (f.data.length : Nat) = .tuple #[Tx.v f.data, .int .i64 0] := by
  obtain ⟨h1, h2⟩ := Dk.code_at hG ho hf
  unfold Dk.readV
  rw [if_pos h1, h2, if_neg (by omega)]
  rw [Int.toNat_natCast, show (0 : Int).toNat = 0 from rfl, List.drop_zero, List.take_length]
theorem Dk.opened_off {l : List UInt8} {c : Int} {m : Dk.M} (h : Dk.opened l c = .ok m) : m.off = false ∧ m.cap = c.toNat ∧ 0 ≤ c ∧ c ≤ 1073741824 := by
  unfold Dk.opened at h
  split at h
  · cases h
  · rename_i hc
    cases l with
    | nil => cases h
    | cons x r =>
      simp only at h
      split at h
      · cases hs : Dk.scan (r.length + 1) [] r with
        | none => rw [hs] at h; cases h
        | some fs =>
          rw [hs] at h
          unfold Dk.verdict at h
          simp only at h
          split at h
          · cases h
          · injection h with h
            subst h
            exact ⟨rfl, rfl, by omega, by omega⟩
      · cases h
theorem Dk.opened_error {l : List UInt8} {c x : Int} (h : Dk.opened l c = .error x) : x = 13 ∨ x = 46 ∨ x = 44 := by
  unfold Dk.opened at h
  split at h
  · injection h with h; exact .inl h.symm
  · cases l with
    | nil => injection h with h; exact .inr (.inl h.symm)
    | cons y r =>
      simp only at h
      split at h
      · cases hs : Dk.scan (r.length + 1) [] r with
        | none => rw [hs] at h; injection h with h; exact .inr (.inl h.symm)
        | some fs =>
          rw [hs] at h
          unfold Dk.verdict at h
          simp only at h
          split at h
          · injection h with h; exact .inr (.inr h.symm)
          · cases h
      · injection h with h; exact .inr (.inl h.symm)
end Go.Proofs.YtifkhjihgnnpfaaGreatDoor
