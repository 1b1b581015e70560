/- Manifests: manifest.Encode. Conditions: each theorem's own hypotheses. -/
import Derived.Test.YtdhnkcfmjibibaaGreatDoorMfF
import Derived.Test.YtdhnkcfmjibibaaGreatDoorSealB
import Derived.Test.YtdhnkcfmjibibaaGreatDoorShelf
namespace Go.Proofs.YtdhnkcfmjibibaaGreatDoor
open Go.RowKit Go.Maps
set_option linter.unusedVariables false

/-- A manifest that goes: its numbers' bounds. -/
structure Mf.Good (M : Man) : Prop where
  w : 0 ≤ M.w ∧ M.w ≤ 1024
  c : 0 ≤ M.c ∧ M.c ≤ 1024
  m : 0 ≤ M.m ∧ M.m ≤ 2
  seq : 0 ≤ M.seq ∧ M.seq ≤ 1152921504606846976
  next : 0 ≤ M.next ∧ M.next ≤ 1099511627776
  jr : 0 ≤ M.jr ∧ M.jr ≤ 1099511627776
  len : M.runs.length ≤ 24
  runs : ∀ r ∈ M.runs, (0 ≤ r.num ∧ r.num ≤ 1099511627776) ∧ (0 ≤ r.lo ∧ r.lo ≤ 1152921504606846976) ∧ (0 ≤ r.hi ∧ r.hi ≤ 1152921504606846976) ∧ (0 ≤ r.cnt ∧ r.cnt ≤ 2097152)

theorem Mf.last_pos (M : Man) (h : Mf.Stand M) : ∀ k, k ≤ M.runs.length → 0 ≤ Mf.last M k
  | 0, _ => Int.le_refl 0
  | k + 1, hk => by
    have hk' : k < M.runs.length := hk
    have hj := List.getElem?_eq_getElem hk'
    have ih := Mf.last_pos M h k (by omega)
    obtain ⟨_, _, _, h4, h5, _⟩ := h k _ hk' hj
    show 0 ≤ (match M.runs[k]? with | some r => r.hi | none => 0)
    rw [hj]
    show 0 ≤ (M.runs[k]).hi
    omega

theorem Mf.good {M : Man} (h : Mf.check M = 0) : Mf.Good M := by
  unfold Mf.check at h
  split at h
  · omega
  · rename_i ho
    split at h
    · rename_i hfs
      obtain ⟨⟨f1, f2, f3, f4, f5, f6, f7⟩, hs⟩ := hfs
      have ho' : Mf.opts M.w M.c M.m = 0 := Classical.not_not.1 ho
      have hw : (0 ≤ M.w ∧ M.w ≤ 1024) ∧ (0 ≤ M.c ∧ M.c ≤ 1024) ∧ (0 ≤ M.m ∧ M.m ≤ 2) := by
        clear ho f1 f2 f3 f4 f5 f6 f7 hs h
        unfold Mf.opts at ho'
        (repeat' split at ho') <;> omega
      refine ⟨hw.1, hw.2.1, hw.2.2, ⟨f1, f2⟩, ⟨by omega, f4⟩, ⟨by omega, by omega⟩, f7, fun r hr => ?_⟩
      obtain ⟨k, hk⟩ := List.mem_iff_getElem?.1 hr
      have hkl : k < M.runs.length := by
        rcases Nat.lt_or_ge k M.runs.length with h' | h'
        · exact h'
        · rw [List.getElem?_eq_none h'] at hk; cases hk
      obtain ⟨_, h2, h3, h4, h5, h6⟩ := hs k r hkl hk
      have hl := Mf.last_pos M hs k (by omega)
      rw [Mf.inB_iff] at h2 h3
      exact ⟨by omega, by omega, by omega, by omega⟩
    · omega

def Mf.heads (M : Man) : List Nat := [M.w.toNat, M.c.toNat, M.m.toNat, M.seq.toNat, M.next.toNat, M.jr.toNat, M.runs.length]
def Mf.row (r : Run) : List Nat := [r.num.toNat, r.lo.toNat, r.hi.toNat, r.cnt.toNat]
/-- The numbers of a manifest, up to its run k. -/
def Mf.nums (M : Man) (k : Nat) : List Nat := Mf.heads M ++ (M.runs.take k).flatMap Mf.row
theorem Mf.nums_succ (M : Man) (k : Nat) (r : Run) (h : M.runs[k]? = some r) : Mf.nums M (k + 1) = Mf.nums M k ++ Mf.row r := by
  unfold Mf.nums
  rw [List.take_add_one, h, List.flatMap_append]
  simp
theorem Mf.enc_append (a b : List Nat) : Mf.enc (a ++ b) = Mf.enc a ++ Mf.enc b := List.flatMap_append
theorem Mf.nums_len (M : Man) : ∀ k, (Mf.nums M k).length ≤ 7 + 4 * k := fun k => by
  unfold Mf.nums Mf.heads
  have : ∀ l : List Run, (l.flatMap Mf.row).length = 4 * l.length := fun l => by
    induction l with
    | nil => rfl
    | cons x xs ih => rw [List.flatMap_cons, List.length_append, ih, List.length_cons]; show 4 + _ = _; omega
  rw [List.length_append, this]
  have := List.length_take_le k M.runs
  show 7 + _ ≤ _
  omega
theorem Mf.heads_cells {M : Man} (h : Mf.Good M) : Mf.cells (Mf.heads M) = #[.int .i64 M.w, .int .i64 M.c, .int .i64 M.m, .int .i64 M.seq, .int .i64 M.next, .int .i64 M.jr, .int .i64 (M.runs.length : Nat)] := by
  unfold Mf.cells Mf.heads
  simp only [List.map_cons, List.map_nil, Int.toNat_of_nonneg h.w.1, Int.toNat_of_nonneg h.c.1, Int.toNat_of_nonneg h.m.1, Int.toNat_of_nonneg h.seq.1, Int.toNat_of_nonneg h.next.1, Int.toNat_of_nonneg h.jr.1]
theorem Mf.row_cells {M : Man} (h : Mf.Good M) {r : Run} (hr : r ∈ M.runs) : Mf.cells (Mf.row r) = #[.int .i64 r.num, .int .i64 r.lo, .int .i64 r.hi, .int .i64 r.cnt] := by
  obtain ⟨a, b, c, d⟩ := h.runs r hr
  unfold Mf.cells Mf.row
  simp only [List.map_cons, List.map_nil, Int.toNat_of_nonneg a.1, Int.toNat_of_nonneg b.1, Int.toNat_of_nonneg c.1, Int.toNat_of_nonneg d.1]
theorem Mf.heads_le {M : Man} (h : Mf.Good M) : ∀ z ∈ Mf.heads M, z ≤ 1152921504606846976 := by
  obtain ⟨a, b, c, d, e, f, g, _⟩ := h
  intro z hz
  simp only [Mf.heads, List.mem_cons, List.not_mem_nil, or_false] at hz
  omega
theorem Mf.row_le {M : Man} (h : Mf.Good M) {r : Run} (hr : r ∈ M.runs) : ∀ z ∈ Mf.row r, z ≤ 1152921504606846976 := by
  obtain ⟨a, b, c, d⟩ := h.runs r hr
  intro z hz
  simp only [Mf.row, List.mem_cons, List.not_mem_nil, or_false] at hz
  omega

def Mf.body (M : Man) : List UInt8 := Mf.enc (Mf.nums M M.runs.length)
def encV (M : Man) (n : Nat) : Value := if n = 0 then .tuple #[str (Sl.frame 3 (Mf.body M)), .int .i64 0] else .tuple #[str [], .int .i64 n]
theorem Mf.body_len {M : Man} (h : Mf.Good M) : (Mf.body M).length ≤ 1030 := by
  have h1 := Mf.enc_len (Mf.nums M M.runs.length)
  have h2 := Mf.nums_len M M.runs.length
  have h3 := h.len
  unfold Mf.body
  omega
theorem Mf.frameV_body {M : Man} (h : Mf.Good M) : frameV 3 (Mf.body M) = .tuple #[str (Sl.frame 3 (Mf.body M)), .int .i64 0] := by
  have := Mf.body_len h
  unfold frameV
  rw [if_neg (by omega), if_neg (by omega)]
  rfl
end Go.Proofs.YtdhnkcfmjibibaaGreatDoor
