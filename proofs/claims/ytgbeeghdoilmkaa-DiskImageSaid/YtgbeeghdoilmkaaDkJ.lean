/- Disks in memory (the program's): names, arming. Conditions: each theorem's own hypotheses. -/
import Derived.Test.YtgbeeghdoilmkaaDkI
namespace Go.Proofs.Ytgbeeghdoilmkaa
open Go.RowKit Go.Maps Go.Sort
set_option linter.unusedVariables false

/-- The names that a disk tells. -/
def Dk.told (m : Dk.M) : List (List UInt8) := if m.off = true then [] else m.files.map Dk.F.name
section
variable {W : World} {d : Nat} {m : Dk.M} {F : Nat → Prop}
/-- names, sorted. -/
theorem Dk.names_of (h : Dk.At W d m F) (hG : Dk.Good m) :
    Calls Try.prog 59 #[.pointer (some ⟨d, 0, none⟩)] W fun e W' => ∃ v, e = .returned v ∧
      W'.ownsRow W.heap.size 9 1 v m.files.length ((m.files.map Dk.F.name).map encStr) ∧ Below W.heap.size W W' := by
  obtain ⟨b, L, hS, rfl⟩ := h
  have hlen : L.length = m.files.length := by rw [← hS.fs, List.length_map]
  refine (Dk.names_any d b L.length (Dk.dat L) W hS.eight.1 hS.map (by rw [Dk.dat_size, hlen]; exact hG.many)).mono ?_
  rintro e W' ⟨v, ss, rfl, hp, hr, hB⟩
  rw [Dk.dat_keys, hS.names] at hp
  have hs := Dk.names_sort (by have h := hG.up; unfold Dk.Up at h; exact List.pairwise_map.2 h) hp
  have hl : ss.length = m.files.length := by rw [hp.length_eq, List.length_map]
  rw [hs, hl] at hr
  exact ⟨v, rfl, hr, hB⟩
set_option maxRecDepth 100000 in
theorem Dk.Names_any (h : Dk.At W d m F) (hG : Dk.Good m) :
    Calls Try.prog 31 #[.pointer (some ⟨d, 0, none⟩)] W fun e W' => ∃ v, e = .returned v ∧
      W'.ownsRow W.heap.size 9 1 v (Dk.told m).length ((Dk.told m).map encStr) ∧ Below W.heap.size W W' := by
  have hn := Dk.names_of h hG
  obtain ⟨b, L, hS, rfl⟩ := h
  obtain ⟨c0, c1, c2, c3, c4, c5, c6, c7⟩ := hS.eight
  unfold Dk.told
  cases ho : m.off with
  | true =>
    rw [ho] at c5
    rw [if_pos rfl]
    clear hn
    go_enter Try.func31, Try.ntmps31
    go_wp2_with fail
    go_ret
    exact ⟨_, rfl, World.ownsRow_nil _ _ _ _, Below.refl _ _⟩
  | false =>
    rw [ho] at c5
    rw [if_neg (by decide), List.length_map]
    go_enter Try.func31, Try.ntmps31
    go_wp2_with (go_at_call 59; refine hn.mono ?_; rintro e w' ⟨v, rfl, hr, hB⟩)
    go_ret
    exact ⟨_, rfl, hr, hB⟩
/-- Behind an arming. -/
def Dk.arm (m : Dk.M) (n : Int) (done : Bool) : Dk.M := if m.off = true then m else { m with left := n.toNat, done := done }
theorem Dk.arm_good (hG : Dk.Good m) (n : Int) (hn : n < 9223372036854775808) (done : Bool) : Dk.Good (Dk.arm m n done) := by
  unfold Dk.arm
  split
  · exact hG
  · exact ⟨hG.up, hG.file, hG.many, hG.cap, hG.used, by show n.toNat ≤ _; omega⟩
/-- A cell of the disk's block is written over. -/
theorem Dk.Stand.set {b : Nat} {L : List Dk.X} (h : Dk.Stand W d b m L) (hf : ∀ k, (k = b ∨ ∃ x ∈ L, x.blk = k ∨ x.v.ownBlock = some k) → k ≠ d) (i : Nat) (u : Value) (m' : Dk.M) (hc : (Dk.cells b m).setIfInBounds i u = Dk.cells b m') (hm : m'.files = m.files) : Dk.Stand (W.setCell ⟨d, i, none⟩ u) d b m' L := by
  have ho : ∀ k, k ≠ d → (W.setCell ⟨d, i, none⟩ u).heap[k]? = W.heap[k]? := fun k hk => Below.heap_setCell W ⟨d, i, none⟩ u k hk
  refine ⟨hc ▸ h.disk.set_ i u, ?_, h.fs.trans hm.symm, fun x hx => ⟨(ho x.blk (hf _ (.inr ⟨x, hx, .inl rfl⟩))).trans (h.file x hx).1, (h.file x hx).2.keep fun k e => ho k (hf _ (.inr ⟨x, hx, .inr e⟩))⟩, h.apart⟩
  obtain ⟨es, clock, hb, r⟩ := h.map
  exact ⟨es, clock, (ho b (hf _ (.inl rfl))).trans hb, r⟩
end
theorem Dk.Row.type {W : World} {v : Value} {l : List UInt8} (h : Dk.Row W v l) {k : Nat} (hk : v.ownBlock = some k) : ∃ cur fz, W.heap[k]? = some (.cells cur 5 fz) := by
  rcases h with ⟨rfl, _⟩ | ⟨g, cap, cur, fz, rfl, hg, _⟩
  · cases hk
  · injection hk with hk
    subst hk
    exact ⟨_, _, hg⟩
/-- The disk's block is none of the others. -/
theorem Dk.Stand.lone {W : World} {d b : Nat} {m : Dk.M} {L : List Dk.X} (h : Dk.Stand W d b m L) : ∀ k, (k = b ∨ ∃ x ∈ L, x.blk = k ∨ x.v.ownBlock = some k) → k ≠ d := by
  have hd := h.disk
  unfold Blk at hd
  rintro k (rfl | ⟨x, hx, e | e⟩) rfl
  · obtain ⟨es, clock, hb, _⟩ := h.map
    rw [hd] at hb; cases hb
  · have h2 := (h.file x hx).1
    unfold Blk at h2
    rw [e, hd] at h2
    injection h2 with h2
    injection h2 with _ h2 _
    cases h2
  · obtain ⟨cur, fz, h2⟩ := (h.file x hx).2.type e
    rw [hd] at h2
    injection h2 with h2
    injection h2 with _ h2 _
    cases h2
section
variable {W : World} {d : Nat} {m : Dk.M} {F : Nat → Prop}
set_option maxRecDepth 100000 in
set_option maxHeartbeats 1000000 in
theorem Dk.arm_any (h : Dk.At W d m F) (n : Int) (hn : -9223372036854775808 ≤ n ∧ n < 9223372036854775808) (done : Bool) :
    Calls Try.prog 16 #[.pointer (some ⟨d, 0, none⟩), .int .i64 n, .bool done] W fun e W' => e = .returned (.tuple #[]) ∧ Dk.At W' d (Dk.arm m n done) F ∧ Dk.Only F W W' := by
  obtain ⟨b, L, hS, rfl⟩ := h
  obtain ⟨c0, c1, c2, c3, c4, c5, c6, c7⟩ := hS.eight
  unfold Dk.arm
  cases ho : m.off with
  | true =>
    rw [ho] at c5
    rw [if_pos rfl]
    go_enter Try.func16, Try.ntmps16
    go_wp2_with fail
    go_end0
    exact ⟨rfl, ⟨b, L, hS, rfl⟩, Dk.Only.refl _ _⟩
  | false =>
    rw [ho] at c5
    rw [if_neg (by decide)]
    have f6 := hS.disk.frozen 6
    have f7 := hS.disk.frozen 7
    obtain ⟨q, hq⟩ : ∃ q, n.toNat = q := ⟨_, rfl⟩
    rw [hq]
    have hmx : ∀ ts t (w : World), (Builtin.max_ ts t #[.int .i64 n, .int .i64 0]).run Try.prog w = .ok (.int .i64 q) w := by
      intro ts t w
      rw [run_max_int2]
      congr 2
      split <;> omega
    clear hq hn c0 c1 c2 c3 c4
    go_enter Try.func16, Try.ntmps16
    go_wp2_with fail
    go_end0
    refine ⟨rfl, ⟨b, L, ?_, rfl⟩, ((Dk.Only.refl _ _).setCell (.inl (.inl rfl)) _).setCell (.inl (.inl rfl)) _⟩
    have h1 := hS.set hS.lone 6 (.int .i64 q) { m with left := q } rfl rfl
    have h2 := h1.set h1.lone 7 (.bool done) { m with left := q, done := done } rfl rfl
    rw [ho] at h2
    exact h2
end
end Go.Proofs.Ytgbeeghdoilmkaa
