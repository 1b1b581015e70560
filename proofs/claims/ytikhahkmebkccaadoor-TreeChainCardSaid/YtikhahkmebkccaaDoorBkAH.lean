/- What calls do to the live codes. Conditions: each theorem's own hypotheses. -/
import Derived.Test.YtikhahkmebkccaaDoorBkAG
namespace Go.Proofs.YtikhahkmebkccaaDoor
open Go.RowKit Go.Maps Go.Sort Go.Shelf
set_option linter.unusedVariables false
set_option linter.unusedSimpArgs false

theorem Bk.lives_app (a b : List Bk.N) : Bk.lives (a ++ b) = Bk.lives a ++ Bk.lives b := by unfold Bk.lives; rw [List.filter_append, List.map_append]
theorem Bk.lives_len (l : List Bk.N) : (Bk.lives l).length = Bk.live l := by unfold Bk.lives Bk.live; rw [List.length_map]
theorem Bk.lives_hang (l : List Bk.N) (c : List UInt8) : Bk.lives (Bk.hang l c) = Bk.lives l ++ [c] := by
  obtain ⟨n, h1, h2, h3⟩ := Bk.hang_mem l c
  rw [h1, Bk.lives_app]
  simp [Bk.lives, h2, h3]
theorem Bk.lives_fold : ∀ (cs : List (List UInt8)) (l : List Bk.N), Bk.lives (cs.foldl Bk.hang l) = Bk.lives l ++ cs
  | [], l => by simp
  | c :: cs, l => by rw [List.foldl_cons, Bk.lives_fold cs, Bk.lives_hang, List.append_assoc]; rfl
theorem Bk.lives_anew (l : List Bk.N) : (Bk.lives (Bk.anew l)).Perm (Bk.lives l) := by
  unfold Bk.anew
  rw [Bk.lives_fold]
  exact Bk.rising_perm l
theorem Bk.lives_swept (l : List Bk.N) : (Bk.lives (Bk.swept l)).Perm (Bk.lives l) := by
  unfold Bk.swept
  split
  · exact Bk.lives_anew l
  · exact List.Perm.refl _
theorem Bk.Good.lives_nodup {w : Nat} {l : List Bk.N} (h : Bk.Good w l) : (Bk.lives l).Nodup := by
  have h1 := h.codes
  have : (Bk.lives l).Sublist (l.map fun n => n.code) := by unfold Bk.lives; exact (List.filter_sublist).map _
  exact h1.sublist this
theorem Bk.Good.lives_len {w : Nat} {l : List Bk.N} (h : Bk.Good w l) : ∀ c ∈ Bk.lives l, c.length = w / 8 := by
  intro c hc
  obtain ⟨n, hn, rfl⟩ := List.mem_map.1 hc
  exact h.len n (List.mem_filter.1 hn).1
theorem Bk.Good.mem_lives {w : Nat} {l : List Bk.N} (h : Bk.Good w l) {c : List UInt8} {i : Nat} {n : Bk.N} (hn : l[i]? = some n) (hc : n.code = c) : c ∈ Bk.lives l ↔ n.live = true := by
  constructor
  · intro hm
    obtain ⟨m, hm1, hm2⟩ := List.mem_map.1 hm
    obtain ⟨hm3, hm4⟩ := List.mem_filter.1 hm1
    obtain ⟨j, hj⟩ := List.getElem?_of_mem hm3
    have := h.nodup j i m n hj hn (by rw [hm2, hc])
    subst this
    rw [hj] at hn
    rw [← Option.some.inj hn]
    exact hm4
  · intro hl
    exact List.mem_map.2 ⟨n, List.mem_filter.2 ⟨List.mem_of_getElem? hn, hl⟩, hc⟩
theorem Bk.mem_lives_code {l : List Bk.N} {c : List UInt8} (h : c ∈ Bk.lives l) : ∃ n ∈ l, n.code = c := by
  obtain ⟨n, hn, rfl⟩ := List.mem_map.1 h
  exact ⟨n, (List.mem_filter.1 hn).1, rfl⟩
/-- Has: is it among the live codes? -/
theorem Bk.Good.has_is {T : Bk.T} (h : Bk.Good T.w T.l) (c : List UInt8) : Bk.has T c = decide (c ∈ Bk.lives T.l) := by
  unfold Bk.has
  cases hf : Bk.find T.l c with
  | none =>
    have := Bk.find_none hf
    symm
    exact decide_eq_false fun hm => by
      obtain ⟨n, hn, hc⟩ := Bk.mem_lives_code hm
      exact this n hn hc
  | some i =>
    obtain ⟨n, hn, hc⟩ := Bk.find_some hf
    simp only
    rw [Bk.liveAt_at hn, Bool.eq_iff_iff, decide_eq_true_eq]
    exact (h.mem_lives hn hc).symm
theorem Bk.setLive_get {l : List Bk.N} {i j : Nat} {b : Bool} {m : Bk.N} (h : l[j]? = some m) : (Bk.setLive l i b)[j]? = some (if i = j then { m with live := b } else m) := by
  unfold Bk.setLive
  rw [List.getElem?_modify, h]
  by_cases e : i = j <;> simp [e]
theorem Bk.Good.mem_setLive {w : Nat} {l : List Bk.N} (h : Bk.Good w l) {c : List UInt8} {i : Nat} {n : Bk.N} (hn : l[i]? = some n) (hc : n.code = c) (b : Bool) (c' : List UInt8) : c' ∈ Bk.lives (Bk.setLive l i b) ↔ if c' = c then b = true else c' ∈ Bk.lives l := by
  have hg := h.setLive i b
  by_cases e : c' = c
  · subst e
    rw [if_pos rfl]
    have hn' := Bk.setLive_get (i := i) (b := b) hn
    rw [if_pos rfl] at hn'
    exact hg.mem_lives hn' hc
  · rw [if_neg e]
    constructor
    · intro hm
      obtain ⟨m, hm1, hm2⟩ := Bk.mem_lives_code hm
      obtain ⟨j, hj⟩ := List.getElem?_of_mem hm1
      have hl := (hg.mem_lives hj hm2).1 hm
      obtain ⟨m0, hm0, hmm⟩ := Bk.setLive_at hj
      have hij : i ≠ j := fun e2 => by
        subst e2
        rw [hn] at hm0
        obtain rfl := Option.some.inj hm0
        rw [if_pos rfl] at hmm
        rw [hmm] at hm2
        exact e (hm2.symm.trans hc)
      rw [if_neg hij] at hmm
      subst hmm
      exact (h.mem_lives hm0 hm2).2 hl
    · intro hm
      obtain ⟨m, hm1, hm2⟩ := Bk.mem_lives_code hm
      obtain ⟨j, hj⟩ := List.getElem?_of_mem hm1
      have hl := (h.mem_lives hj hm2).1 hm
      have hij : i ≠ j := fun e2 => by
        subst e2
        rw [hn] at hj
        obtain rfl := Option.some.inj hj
        exact e (hm2.symm.trans hc)
      have hj' := Bk.setLive_get (i := i) (b := b) hj
      rw [if_neg hij] at hj'
      exact (hg.mem_lives hj' hm2).2 hl
/-- Whether a code was new. -/
theorem Bk.Good.add_is {T : Bk.T} (h : Bk.Good T.w T.l) (c : List UInt8) :
    (c.length = T.w / 8 → (Bk.add T c).2 = (!decide (c ∈ Bk.lives T.l), 0) ∧ ∀ c', c' ∈ Bk.lives (Bk.add T c).1.l ↔ c' = c ∨ c' ∈ Bk.lives T.l) ∧
    (c.length ≠ T.w / 8 → (Bk.add T c) = (T, false, 11)) := by
  constructor
  · intro hl
    unfold Bk.add
    rw [if_pos hl]
    cases hf : Bk.find T.l c with
    | none =>
      have hno : c ∉ Bk.lives T.l := fun hm => by
        obtain ⟨n, hn, hc⟩ := Bk.mem_lives_code hm
        exact Bk.find_none hf n hn hc
      refine ⟨by simp [hno], fun c' => ?_⟩
      show c' ∈ Bk.lives (Bk.hang T.l c) ↔ _
      rw [Bk.lives_hang, List.mem_append, List.mem_singleton]
      exact Or.comm
    | some i =>
      obtain ⟨n, hn, hc⟩ := Bk.find_some hf
      refine ⟨?_, fun c' => ?_⟩
      · show ((!Bk.liveAt T.l i), (0 : Int)) = _
        rw [Bk.liveAt_at hn]
        have := h.mem_lives hn hc
        cases hv : n.live with
        | true => rw [hv] at this; rw [decide_eq_true (this.2 rfl)]
        | false => rw [hv] at this; rw [decide_eq_false (fun hm => by have := this.1 hm; cases this)]
      · show c' ∈ Bk.lives (Bk.setLive T.l i true) ↔ _
        rw [h.mem_setLive hn hc]
        by_cases e : c' = c <;> simp [e]
  · intro hl
    unfold Bk.add
    rw [if_neg hl]
theorem Bk.Good.drop_is {T : Bk.T} (h : Bk.Good T.w T.l) (c : List UInt8) : (Bk.drop T c).2 = decide (c ∈ Bk.lives T.l) ∧ ∀ c', c' ∈ Bk.lives (Bk.drop T c).1.l ↔ c' ∈ Bk.lives T.l ∧ c' ≠ c := by
  unfold Bk.drop
  cases hf : Bk.find T.l c with
  | none =>
    have hno : c ∉ Bk.lives T.l := fun hm => by
      obtain ⟨n, hn, hc⟩ := Bk.mem_lives_code hm
      exact Bk.find_none hf n hn hc
    refine ⟨by simp [hno], fun c' => ?_⟩
    show c' ∈ Bk.lives T.l ↔ _
    exact ⟨fun hm => ⟨hm, fun e => hno (e ▸ hm)⟩, fun hm => hm.1⟩
  | some i =>
    obtain ⟨n, hn, hc⟩ := Bk.find_some hf
    have hml := h.mem_lives hn hc
    simp only
    rw [Bk.liveAt_at hn]
    cases hv : n.live with
    | true =>
      rw [hv] at hml
      rw [if_pos rfl]
      refine ⟨(decide_eq_true (hml.2 rfl)).symm, fun c' => ?_⟩
      show c' ∈ Bk.lives (Bk.swept (Bk.setLive T.l i false)) ↔ _
      rw [(Bk.lives_swept _).mem_iff, h.mem_setLive hn hc]
      by_cases e : c' = c <;> simp [e]
    | false =>
      rw [hv] at hml
      have hno : c ∉ Bk.lives T.l := fun hm => by have := hml.1 hm; cases this
      rw [if_neg (by decide)]
      refine ⟨(decide_eq_false hno).symm, fun c' => ?_⟩
      show c' ∈ Bk.lives T.l ↔ _
      exact ⟨fun hm => ⟨hm, fun e => hno (e ▸ hm)⟩, fun hm => hm.1⟩
theorem Bk.run_l {T : Bk.T} {k : Int} (h1 : k ≠ 1) (h2 : k ≠ 2) (c : List UInt8) (n : Int) : (Bk.run T k c n).1.l = T.l := by
  unfold Bk.run
  rw [if_neg h1, if_neg h2]
  split
  · rfl
  split
  · exact (Bk.within_l T c n).1
  split
  · exact (Bk.nearest_l T c n).1
  split <;> rfl
theorem Bk.mem_setC {L : List (List UInt8)} {k : Int} {c : List UInt8} {w : Nat} (c' : List UInt8) : c' ∈ Bk.setC L k c w ↔ if k ≠ 1 ∧ k ≠ 2 then c' ∈ L else (c' ∈ L ∧ c' ≠ c) ∨ ((k = 1 ∧ c.length = w / 8) ∧ c' = c) := by
  unfold Bk.setC
  by_cases h : k ≠ 1 ∧ k ≠ 2
  · rw [if_pos h, if_pos h]
  · rw [if_neg h, if_neg h, List.mem_append, List.mem_filter, decide_eq_true_eq]
    by_cases h2 : k = 1 ∧ c.length = w / 8
    · rw [if_pos h2]; simp [h2]
    · rw [if_neg h2]; simp [h2]
theorem Bk.setC_nodup {L : List (List UInt8)} (h : L.Nodup) (k : Int) (c : List UInt8) (w : Nat) : (Bk.setC L k c w).Nodup := by
  unfold Bk.setC
  split
  · exact h
  · rw [List.nodup_append]
    refine ⟨h.filter _, by split <;> simp, fun a ha b hb => ?_⟩
    split at hb
    · rw [List.mem_singleton] at hb
      have := (List.mem_filter.1 ha).2
      rw [hb]
      simpa using this
    · cases hb
/-- The list of codes goes with the tree. -/
theorem Bk.Good.set_goes {T : Bk.T} (h : Bk.Good T.w T.l) (hs : Bk.Slim T) {L : List (List UInt8)} (hL : L.Perm (Bk.lives T.l)) (k : Int) (c : List UInt8) (n : Int) : (Bk.setC L k c T.w).Perm (Bk.lives (Bk.run T k c n).1.l) := by
  have hnd : L.Nodup := hL.nodup_iff.2 h.lives_nodup
  have hnum := h.num hs k c n
  have hg := hnum.good
  rw [List.perm_ext_iff_of_nodup (Bk.setC_nodup hnd k c T.w) hg.lives_nodup]
  intro c'
  rw [Bk.mem_setC, hL.mem_iff]
  by_cases h1 : k = 1
  · subst h1
    rw [if_neg (by omega)]
    have hr : (Bk.run T 1 c n).1 = (Bk.add T c).1 := by unfold Bk.run; rw [if_pos rfl]
    rw [hr]
    obtain ⟨a1, a2⟩ := h.add_is c
    by_cases hf : c.length = T.w / 8
    · rw [(a1 hf).2 c']
      by_cases e : c' = c <;> simp [e, hf]
    · rw [a2 hf]
      have hno : c ∉ Bk.lives T.l := fun hm => hf (h.lives_len c hm)
      by_cases e : c' = c
      · subst e; simp [hf, hno]
      · simp [e]
  · by_cases h2 : k = 2
    · subst h2
      rw [if_neg (by omega)]
      have hr : (Bk.run T 2 c n).1 = (Bk.drop T c).1 := by unfold Bk.run; rw [if_neg (by decide), if_pos rfl]
      rw [hr, (h.drop_is c).2 c']
      simp
    · rw [if_pos ⟨h1, h2⟩, Bk.run_l h1 h2]
theorem Bk.scan_perm {L M : List (List UInt8)} (h : L.Perm M) (q : List UInt8) (r : Nat) : Bk.scanL L q r = Bk.scanL M q r := Bk.sortH_perm ((h.map _).filter _)
theorem Bk.Good.within_scan {T : Bk.T} (h : Bk.Good T.w T.l) {L : List (List UInt8)} (hL : L.Perm (Bk.lives T.l)) {q : List UInt8} (hq : q.length = T.w / 8) {r : Nat} (hr : r ≤ T.w) : (Bk.within T q r).2 = (Bk.scanL L q r, 0) := by
  rw [h.within_is hq hr, Bk.scan_perm hL]
  unfold Bk.scanL Bk.all
  rw [Bk.sortH_filter]
theorem Bk.Good.nearest_scan {T : Bk.T} (h : Bk.Good T.w T.l) {L : List (List UInt8)} (hL : L.Perm (Bk.lives T.l)) {q : List UInt8} (hq : q.length = T.w / 8) {k : Nat} (hk : k ≤ 4096) : (Bk.nearest T q k).2 = (Bk.firstK (Bk.scanL L q T.w) k, 0) := by
  rw [h.nearest_is hq hk, Bk.scan_perm hL]
  refine congrArg (fun l => (Bk.firstK l k, (0 : Int))) ?_
  unfold Bk.scanL Bk.all
  rw [List.filter_eq_self.2 fun x hx => ?_]
  obtain ⟨c, hc, rfl⟩ := List.mem_map.1 hx
  have h1 := Bk.far_le c q
  have h2 := h.lives_len c hc
  exact decide_eq_true (show Bk.far c q ≤ T.w by omega)
end Go.Proofs.YtikhahkmebkccaaDoor
