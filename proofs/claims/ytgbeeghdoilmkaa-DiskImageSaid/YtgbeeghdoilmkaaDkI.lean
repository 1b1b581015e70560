/- Disks in memory (the program's): sizes, bytes, names, and what is armed. Conditions: each theorem's own hypotheses. -/
import Derived.Test.YtgbeeghdoilmkaaDkH
namespace Go.Proofs.Ytgbeeghdoilmkaa
open Go.RowKit Go.Maps Go.Sort
set_option linter.unusedVariables false

/-- What a look finds. -/
theorem Dk.look_cases {W : World} {d b : Nat} {m : Dk.M} {L : List Dk.X} (h : Dk.Stand W d b m L) (nm : List UInt8) :
    (Dk.code m nm ≠ 0 ∧ Dk.found m L nm = none) ∨
    (Dk.code m nm = 0 ∧ m.off = false ∧ Dk.named nm = true ∧ ∃ x, Dk.found m L nm = some x ∧ Dk.get Dk.X.nm nm L = some x ∧ x ∈ L ∧ x.nm = nm ∧ Dk.get Dk.F.name nm m.files = some x.f) := by
  by_cases hc : Dk.code m nm = 0
  · refine .inr ⟨hc, ?_⟩
    have hg := h.get nm
    unfold Dk.found
    rw [if_pos hc]
    unfold Dk.code at hc
    cases ho : m.off with
    | true => rw [ho, if_pos rfl] at hc; cases hc
    | false =>
      rw [ho, if_neg (by decide)] at hc
      cases hn : Dk.named nm with
      | false => rw [hn, if_neg (by decide)] at hc; cases hc
      | true =>
        rw [hn, if_pos rfl, ← hg] at hc
        cases hx : Dk.get Dk.X.nm nm L with
        | none => rw [hx] at hc; cases hc
        | some x =>
          rw [hx] at hg
          obtain ⟨h1, h2⟩ := Dk.get_mem hx
          exact ⟨rfl, rfl, x, rfl, rfl, h1, h2, hg.symm⟩
  · refine .inl ⟨hc, ?_⟩
    unfold Dk.found
    rw [if_neg hc]
/-- A file's cells. -/
theorem Dk.Stand.two {W : World} {d b : Nat} {m : Dk.M} {L : List Dk.X} (h : Dk.Stand W d b m L) {x : Dk.X} (hx : x ∈ L) :
    W.cell? ⟨x.blk, 0, none⟩ = some x.v ∧ W.cell? ⟨x.blk, 1, none⟩ = some (.int .i64 x.f.sure) := ⟨(h.file x hx).1.cell 0, (h.file x hx).1.cell 1⟩
/-- A slice of bytes is nil or has a row. -/
theorem Dk.Row.form {W : World} {v : Value} {l : List UInt8} (h : Dk.Row W v l) : (v = .slice none 0 0 ∧ l = []) ∨ ∃ g cap, v = .slice (some ⟨g, 0, none⟩) l.length cap ∧ l.length ≤ cap ∧ cap ≤ maxLen := by
  rcases h with h | ⟨g, cap, cur, fz, rfl, _, _, h1, h2, _⟩
  · exact .inl h
  · exact .inr ⟨g, cap, rfl, h1, h2⟩
/-- A part of it as a string. -/
theorem Dk.Row.conv {W : World} {g cap : Nat} {l : List UInt8} {n : Nat} (h : Dk.Row W (.slice (some ⟨g, 0, none⟩) n cap) l) (a k c : Nat) (hk : a + k ≤ l.length) :
    (convert 81 9 (.slice (some ⟨g, a, none⟩) k c)).run Try.prog W = .ok (Tx.v ((l.drop a).take k)) W := by
  have hl : ((l.drop a).take k).length = k := by rw [List.length_take, List.length_drop]; omega
  have h2 := run_convert_bytes_back W 81 9 5 ⟨g, a, none⟩ c ((l.drop a).take k) Try.underlying81 Try.underlying5 Try.underlying9 (fun j hj => by
    rw [show (⟨g, a, none⟩ : Addr).add j = ⟨g, a + j, none⟩ from by unfold Addr.add; split <;> simp_all]
    have h3 : l[a + j]? = ((l.drop a).take k)[j]? := by rw [List.getElem?_take, if_pos (by omega), List.getElem?_drop]
    rw [h.cells.2 (a + j) (((l.drop a).take k)[j]) (by rw [h3, List.getElem?_eq_getElem])])
  rw [hl] at h2
  exact h2
theorem Dk.conv_nil (W : World) : (convert 81 9 (.slice none 0 0)).run Try.prog W = .ok (Tx.v []) W :=
  run_convert_bytes_nil (w := W) 81 5 Try.underlying81 Try.underlying5 0 0 9 Try.underlying9

/-- A file's bytes. -/
def Dk.data (m : Dk.M) (nm : List UInt8) : List UInt8 := ((Dk.get Dk.F.name nm m.files).map Dk.F.data).getD []
/-- What Size answers. -/
def Dk.sizeV (m : Dk.M) (nm : List UInt8) : Value :=
  if Dk.code m nm = 0 then .tuple #[.int .i64 (Dk.data m nm).length, .int .i64 0] else .tuple #[.int .i64 0, .int .i64 (Dk.code m nm)]
/-- What Read answers. -/
def Dk.readV (m : Dk.M) (nm : List UInt8) (i n : Int) : Value :=
  if Dk.code m nm = 0 then
    if i < 0 ∨ n < 0 ∨ (Dk.data m nm).length < n ∨ (Dk.data m nm).length - n < i then .tuple #[Tx.v [], .int .i64 13]
    else .tuple #[Tx.v (((Dk.data m nm).drop i.toNat).take n.toNat), .int .i64 0]
  else .tuple #[Tx.v [], .int .i64 (Dk.code m nm)]
section
variable {W : World} {d : Nat} {m : Dk.M} {F : Nat → Prop}
set_option maxRecDepth 100000 in
theorem Dk.size_any (h : Dk.At W d m F) (s : ByteArray) (hs : s.size ≤ 9223372036854775807) :
    Calls Try.prog 50 #[.pointer (some ⟨d, 0, none⟩), .string s] W fun e W' => e = .returned (Dk.sizeV m s.data.toList) ∧ W = W' := by
  obtain ⟨b, L, hS, rfl⟩ := h
  have hcall := Dk.look_any hS s hs
  unfold Dk.sizeV
  rcases Dk.look_cases hS s.data.toList with ⟨h1, h2⟩ | ⟨h1, h2, h3, x, h4, h5, h6, h7, h8⟩
  · rw [h2] at hcall
    rw [if_neg h1]
    obtain ⟨c, hc⟩ : ∃ c, Dk.code m s.data.toList = c := ⟨_, rfl⟩
    rw [hc] at hcall h1 ⊢
    have u1 : (c != 0) = true := by rw [bne_iff_ne]; exact h1
    clear hc
    go_enter Try.func50, Try.ntmps50
    go_wp2_with (go_at_call 47; refine hcall.mono ?_; rintro e w' ⟨rfl, rfl⟩)
    go_ret2
    exact ⟨rfl, rfl⟩
  · rw [h4, h1] at hcall
    obtain ⟨q1, q2⟩ := hS.two h6
    obtain ⟨n, hn⟩ : ∃ n, (Dk.data m s.data.toList).length = n := ⟨_, rfl⟩
    have hd : Dk.data m s.data.toList = x.f.data := by unfold Dk.data; rw [h8]; rfl
    rw [if_pos h1, hn]
    rw [hd] at hn
    have hlen : ∃ a c, x.v = .slice a n c := by
      rcases (hS.file x h6).2.form with ⟨e1, e2⟩ | ⟨g, cap, e1, _⟩
      · rw [e2] at hn
        subst hn
        exact ⟨_, _, e1⟩
      · exact ⟨_, _, by rw [e1, hn]⟩
    obtain ⟨a, c, hv⟩ := hlen
    rw [hv] at q1
    unfold Dk.ptr at hcall
    simp only at hcall
    clear h1 h2 h3 h4 h5 h7 h8 hd hn hv q2
    go_enter Try.func50, Try.ntmps50
    go_wp2_with (go_at_call 47; refine hcall.mono ?_; rintro e w' ⟨rfl, rfl⟩)
    go_ret2
    exact ⟨rfl, rfl⟩
set_option maxRecDepth 100000 in
set_option maxHeartbeats 1000000 in
theorem Dk.read_any (h : Dk.At W d m F) (hG : Dk.Good m) (s : ByteArray) (hs : s.size ≤ 9223372036854775807) (i n : Int) (hi : -9223372036854775808 ≤ i ∧ i < 9223372036854775808) (hn : -9223372036854775808 ≤ n ∧ n < 9223372036854775808) :
    Calls Try.prog 14 #[.pointer (some ⟨d, 0, none⟩), .string s, .int .i64 i, .int .i64 n] W fun e W' => e = .returned (Dk.readV m s.data.toList i n) ∧ W = W' := by
  obtain ⟨b, L, hS, rfl⟩ := h
  have hcall := Dk.look_any hS s hs
  unfold Dk.readV
  rcases Dk.look_cases hS s.data.toList with ⟨h1, h2⟩ | ⟨h1, h2, h3, x, h4, h5, h6, h7, h8⟩
  · rw [h2] at hcall
    rw [if_neg h1]
    obtain ⟨c, hc⟩ : ∃ c, Dk.code m s.data.toList = c := ⟨_, rfl⟩
    rw [hc] at hcall h1 ⊢
    have u1 : (c != 0) = true := by rw [bne_iff_ne]; exact h1
    clear hc
    go_enter Try.func14, Try.ntmps14
    go_wp2_with (go_at_call 47; refine hcall.mono ?_; rintro e w' ⟨rfl, rfl⟩)
    go_ret2
    exact ⟨rfl, rfl⟩
  · rw [h4, h1] at hcall
    obtain ⟨q1, q2⟩ := hS.two h6
    have hx : x.f ∈ m.files := by rw [← hS.fs]; exact List.mem_map_of_mem h6
    obtain ⟨_, hx2, _⟩ := hG.file _ hx
    have hR := (hS.file x h6).2
    obtain ⟨l, hl⟩ : ∃ l, x.f.data = l := ⟨_, rfl⟩
    have hd : Dk.data m s.data.toList = l := by unfold Dk.data; rw [h8]; exact hl
    rw [if_pos h1, hd]
    rw [hl] at hR hx2
    obtain ⟨k, hk⟩ : ∃ k, l.length = k := ⟨_, rfl⟩
    rw [hk]
    unfold Dk.ptr at hcall
    simp only at hcall
    obtain ⟨v, hv⟩ : ∃ v, x.v = v := ⟨_, rfl⟩
    rw [hv] at hR q1
    clear h1 h2 h3 h4 h5 h7 h8 hd hx hl hv q2
    by_cases g1 : i < 0
    · rw [if_pos (.inl g1)]
      have u1 : decide (i < 0) = true := decide_eq_true g1
      go_enter Try.func14, Try.ntmps14
      go_wp2_with (go_at_call 47; refine hcall.mono ?_; rintro e w' ⟨rfl, rfl⟩)
      go_ret2
      exact ⟨rfl, rfl⟩
    have u1 : decide (i < 0) = false := decide_eq_false g1
    by_cases g2 : n < 0
    · rw [if_pos (.inr (.inl g2))]
      have u2 : decide (n < 0) = true := decide_eq_true g2
      go_enter Try.func14, Try.ntmps14
      go_wp2_with (go_at_call 47; refine hcall.mono ?_; rintro e w' ⟨rfl, rfl⟩)
      go_ret2
      exact ⟨rfl, rfl⟩
    have u2 : decide (n < 0) = false := decide_eq_false g2
    obtain ⟨i, rfl⟩ := Int.eq_ofNat_of_zero_le (Int.not_lt.1 g1)
    obtain ⟨n, rfl⟩ := Int.eq_ofNat_of_zero_le (Int.not_lt.1 g2)
    have hv : ∃ a c, v = .slice a k c := by
      rcases hR.form with ⟨e1, e2⟩ | ⟨g, cap, e1, _⟩
      · rw [e2] at hk
        subst hk
        exact ⟨_, _, e1⟩
      · exact ⟨_, _, by rw [e1, hk]⟩
    by_cases g3 : (k : Int) < n
    · rw [if_pos (.inr (.inr (.inl g3)))]
      have u3 : decide (k < n) = true := decide_eq_true (by omega)
      obtain ⟨a, c, hv⟩ := hv
      rw [hv] at q1
      go_enter Try.func14, Try.ntmps14
      go_wp2_with (go_at_call 47; refine hcall.mono ?_; rintro e w' ⟨rfl, rfl⟩)
      go_ret2
      exact ⟨rfl, rfl⟩
    have u3 : decide (k < n) = false := decide_eq_false (by omega)
    obtain ⟨r, hr⟩ : ∃ r, r = k - n := ⟨_, rfl⟩
    have w1 : IntKind.i64.wrap ((k : Int) - (n : Int)) = (r : Int) := (IntWalk.i64_in _ (by omega)).trans (by omega)
    by_cases g4 : (k : Int) - n < i
    · rw [if_pos (.inr (.inr (.inr g4)))]
      have u4 : decide (r < i) = true := decide_eq_true (by omega)
      obtain ⟨a, c, hv⟩ := hv
      rw [hv] at q1
      clear hr g3 g4
      go_enter Try.func14, Try.ntmps14
      go_wp2_with (go_at_call 47; refine hcall.mono ?_; rintro e w' ⟨rfl, rfl⟩)
      go_ret2
      exact ⟨rfl, rfl⟩
    have u4 : decide (r < i) = false := decide_eq_false (by omega)
    rw [if_neg (by omega)]
    obtain ⟨j, hj⟩ : ∃ j, j = i + n := ⟨_, rfl⟩
    have w2 : IntKind.i64.wrap ((i : Int) + (n : Int)) = (j : Int) := (IntWalk.i64_in _ (by omega)).trans (by omega)
    rw [Int.toNat_natCast, Int.toNat_natCast]
    rcases hR.form with ⟨rfl, rfl⟩ | ⟨g, cap, rfl, hc1, hc2⟩
    · have hk0 : k = 0 := hk.symm
      subst hk0
      obtain rfl : n = 0 := by omega
      obtain rfl : i = 0 := by omega
      obtain rfl : j = 0 := by omega
      have hcv := Dk.conv_nil W
      clear hk hr g1 g2 g3 g4 hj
      go_enter Try.func14, Try.ntmps14
      go_wp2_with (go_at_call 47; refine hcall.mono ?_; rintro e w' ⟨rfl, rfl⟩)
      go_ret2
      exact ⟨rfl, rfl⟩
    · rw [hk] at q1
      have s1 : (i : Int) ≤ (j : Int) := by omega
      have s2 : (j : Int) ≤ (cap : Int) := by omega
      have s3 : j - i = n := by omega
      have HK := Lib.hid hk
      by_cases hci : cap = i
      · have hcv := hR.conv 0 n 0 (by omega)
        rw [show (l.drop 0).take n = (l.drop i).take n from by rw [show n = 0 from by omega, List.take_zero, List.take_zero]] at hcv
        clear hk hr g1 g2 g3 g4 hj hx2 hc1
        go_enter Try.func14, Try.ntmps14
        go_wp2_with (go_at_call 47; refine hcall.mono ?_; rintro e w' ⟨rfl, rfl⟩)
        go_ret2
        exact ⟨rfl, rfl⟩
      · have hcv := hR.conv i n (cap - i) (by omega)
        clear hk hr g1 g2 g3 g4 hj hx2 hc1
        go_enter Try.func14, Try.ntmps14
        go_wp2_with (go_at_call 47; refine hcall.mono ?_; rintro e w' ⟨rfl, rfl⟩)
        go_ret2
        exact ⟨rfl, rfl⟩
end
end Go.Proofs.Ytgbeeghdoilmkaa
