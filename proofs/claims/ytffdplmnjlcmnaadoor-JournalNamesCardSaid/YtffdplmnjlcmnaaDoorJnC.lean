/- Contracts of journal.Read and of the document's Read. Conditions: each theorem's own hypotheses. -/
import Derived.Test.YtffdplmnjlcmnaaDoorJnB
namespace Go.Proofs.YtffdplmnjlcmnaaDoor
set_option linter.unusedVariables false
open Go.RowKit

theorem parse_pay_len (l : List UInt8) (R : Sl.Parsed) (h : Sl.parse l = R) : R.pay.length ≤ l.length ∧ R.code ≤ 36 := by
  unfold Sl.parse at h
  repeat' split at h
  all_goals subst h
  all_goals simp only [List.length_nil, List.length_take, List.length_drop]
  all_goals omega

theorem parse_tell (s P : ByteArray) (k c kd m p : Nat) (pl : List UInt8) (w : World) (hs : s.size ≤ 9223372036854775807) (hk : k ≤ s.size) (hT : TabS w) (hR : Sl.parse (s.data.toList.drop k) = ⟨c, kd, pl, m⟩) (hP : str pl = .string P) (hp : (if c = 0 then k + m else 0) = p) :
    Calls Tryd.prog 55 #[.string s, .int .i64 k] w fun e w' => e = .returned (.tuple #[.int .i64 kd, .string P, .int .i64 p, .int .i64 c]) ∧ Below w.heap.size w w' := by
  subst hp; rw [← hP]; exact parse_any s k _ w hs hk hT hR
theorem refParse_tell (s P : ByteArray) (k c kd m p : Nat) (pl : List UInt8) (w : World) (hs : s.size ≤ 9223372036854775807) (hk : k ≤ s.size) (_ : TabS w) (hR : Sl.parse (s.data.toList.drop k) = ⟨c, kd, pl, m⟩) (hP : str pl = .string P) (hp : (if c = 0 then k + m else 0) = p) :
    Calls Tryd.prog 58 #[.string s, .int .i64 k] w fun e w' => e = .returned (.tuple #[.int .i64 kd, .string P, .int .i64 p, .int .i64 c]) ∧ Below w.heap.size w w' := by
  subst hp; rw [← hP]; exact refParse_any s k _ w hs hk hR
theorem payload_tell (s C : ByteArray) (k l q kk i e : Nat) (cd : List UInt8) (w : World) (hs : s.size ≤ 9223372036854775807) (hl : l ≤ 1024) (hU : Jn.pay k s.data.toList l = ⟨q, kk, i, cd, e⟩) (hC : str cd = .string C) :
    Calls Tryd.prog 56 #[.int .i64 k, .string s, .int .i64 l] w fun r w' => r = .returned (.tuple #[.agg #[.int .i64 q, .int .i64 kk, .int .i64 i, .string C], .int .i64 e]) ∧ Below w.heap.size w w' := by
  rw [← hC]; have := payload_any s k l w hs hl; rw [hU] at this; exact this
theorem refPayload_tell (s C : ByteArray) (k l q kk i e : Nat) (cd : List UInt8) (w : World) (hs : s.size ≤ 9223372036854775807) (hl : l ≤ 1024) (hU : Jn.pay k s.data.toList l = ⟨q, kk, i, cd, e⟩) (hC : str cd = .string C) :
    Calls Tryd.prog 59 #[.int .i64 k, .string s, .int .i64 l] w fun r w' => r = .returned (.tuple #[.agg #[.int .i64 q, .int .i64 kk, .int .i64 i, .string C], .int .i64 e]) ∧ Below w.heap.size w w' := by
  rw [← hC]; have := refPayload_any s k l w hs hl; rw [hU] at this; exact this

theorem read_low (s : ByteArray) (l : Int) (w : World) (h : l < 64) :
    Calls Tryd.prog 19 #[.string s, .int .i64 l] w fun e w' => e = .returned (noV 10) ∧ Below w.heap.size w w' := by
  go_enter Tryd.func19, Tryd.ntmps19
  go_wp2_with fail
  refine (wide_low l _ h).mono ?_
  rintro e w' ⟨rfl, rfl⟩
  go_wp2_with fail
  exact bodyPost_ret (v := noV 10) (by unfold noV; simp [results, Tryd.results19, go_sem]) rfl ⟨rfl, (Below.refl _ _).alloc (Nat.le_refl _) _⟩

theorem read_high (s : ByteArray) (l : Int) (w : World) (h : 1024 < l) :
    Calls Tryd.prog 19 #[.string s, .int .i64 l] w fun e w' => e = .returned (noV 10) ∧ Below w.heap.size w w' := by
  go_enter Tryd.func19, Tryd.ntmps19
  go_wp2_with fail
  refine (wide_high l _ h).mono ?_
  rintro e w' ⟨rfl, rfl⟩
  go_wp2_with fail
  exact bodyPost_ret (v := noV 10) (by unfold noV; simp [results, Tryd.results19, go_sem]) rfl ⟨rfl, (Below.refl _ _).alloc (Nat.le_refl _) _⟩

theorem read_odd (s : ByteArray) (n : Nat) (w : World) (h : 64 ≤ n) (h2 : n ≤ 1024) (hb : ((((n % 64 : Nat) : Int) == 0)) = false) :
    Calls Tryd.prog 19 #[.string s, .int .i64 n] w fun e w' => e = .returned (noV 10) ∧ Below w.heap.size w w' := by
  go_enter Tryd.func19, Tryd.ntmps19
  go_wp2_with fail
  refine (wide_mid n _ h h2 false hb).mono ?_
  rintro e w' ⟨rfl, rfl⟩
  go_wp2_with fail
  exact bodyPost_ret (v := noV 10) (by unfold noV; simp [results, Tryd.results19, go_sem]) rfl ⟨rfl, (Below.refl _ _).alloc (Nat.le_refl _) _⟩

set_option maxRecDepth 100000 in
theorem read_code (s P : ByteArray) (n c kd m p : Nat) (pl : List UInt8) (w : World) (h : 64 ≤ n) (h2 : n ≤ 1024) (hb : ((((n % 64 : Nat) : Int) == 0)) = true) (hs : s.size ≤ 9223372036854775807) (hT : TabS w) (hR : Sl.parse (s.data.toList.drop 0) = ⟨c, kd, pl, m⟩) (hP : str pl = .string P) (hp : (if c = 0 then 0 + m else 0) = p) (hc : ¬ c = 0) :
    Calls Tryd.prog 19 #[.string s, .int .i64 n] w fun e w' => e = .returned (noV c) ∧ Below w.heap.size w w' := by
  have ht : ((c : Int) != 0) = true := by rw [bne_iff_ne]; omega
  have HR := Lib.hid hR
  have HP := Lib.hid hP
  have Hp := Lib.hid hp
  have HT := Lib.hid hT
  clear hR hP hp hT
  go_enter Tryd.func19, Tryd.ntmps19
  go_wp2_with fail
  refine (wide_mid n _ h h2 true hb).mono ?_
  rintro e w' ⟨rfl, rfl⟩
  go_wp2_with fail
  refine (parse_tell s P 0 c kd m p pl _ hs (Nat.zero_le _) (HT.out.below ((Below.refl _ _).alloc (Nat.le_refl _) _)) HR.out HP.out Hp.out).mono ?_
  rintro e w1 ⟨rfl, hB1⟩
  have hc0 : w1.cell? ⟨w.heap.size, 0, none⟩ = some (.int .i64 0) := (hB1.cell (p := ⟨w.heap.size, 0, none⟩) (by simp)).trans (World.cell?_alloc_at _ _ _ _ rfl)
  have hf0 : w1.frozen? ⟨w.heap.size, 0, none⟩ = false := (hB1.frozen (p := ⟨w.heap.size, 0, none⟩) (by simp)).trans (World.frozen?_alloc_at _ _ _ _ rfl)
  have hc1 : w1.cell? ⟨w.heap.size, 1, none⟩ = some (.int .i64 0) := (hB1.cell (p := ⟨w.heap.size, 1, none⟩) (by simp)).trans (World.cell?_alloc_at _ _ _ _ rfl)
  have hf1 : w1.frozen? ⟨w.heap.size, 1, none⟩ = false := (hB1.frozen (p := ⟨w.heap.size, 1, none⟩) (by simp)).trans (World.frozen?_alloc_at _ _ _ _ rfl)
  have hc2 : w1.cell? ⟨w.heap.size, 2, none⟩ = some (.int .i64 0) := (hB1.cell (p := ⟨w.heap.size, 2, none⟩) (by simp)).trans (World.cell?_alloc_at _ _ _ _ rfl)
  have hf2 : w1.frozen? ⟨w.heap.size, 2, none⟩ = false := (hB1.frozen (p := ⟨w.heap.size, 2, none⟩) (by simp)).trans (World.frozen?_alloc_at _ _ _ _ rfl)
  have hc3 : w1.cell? ⟨w.heap.size, 3, none⟩ = some (.string ⟨#[]⟩) := (hB1.cell (p := ⟨w.heap.size, 3, none⟩) (by simp)).trans (World.cell?_alloc_at _ _ _ _ rfl)
  have hf3 : w1.frozen? ⟨w.heap.size, 3, none⟩ = false := (hB1.frozen (p := ⟨w.heap.size, 3, none⟩) (by simp)).trans (World.frozen?_alloc_at _ _ _ _ rfl)
  have hB : Below w.heap.size w w1 := ((Below.refl w.heap.size w).alloc (Nat.le_refl _) _).trans (hB1.mono (by simp))
  have hsz : w.heap.size < w1.heap.size := by have := hB1.size; simp at this; omega
  clear hB1
  go_wp2_with fail
  exact bodyPost_ret (v := noV c) (by unfold noV; simp [results, Tryd.results19, go_sem, hc0, hc1, hc2, hc3]) rfl ⟨rfl, ((((hB.setCell (p := ⟨w.heap.size, 0, none⟩) (Nat.le_refl _) _).setCell (p := ⟨w.heap.size, 1, none⟩) (Nat.le_refl _) _).setCell (p := ⟨w.heap.size, 2, none⟩) (Nat.le_refl _) _).setCell (p := ⟨w.heap.size, 3, none⟩) (Nat.le_refl _) _)⟩

set_option maxRecDepth 100000 in
theorem read_long (s P : ByteArray) (n c kd m p : Nat) (pl : List UInt8) (w : World) (h : 64 ≤ n) (h2 : n ≤ 1024) (hb : ((((n % 64 : Nat) : Int) == 0)) = true) (hs : s.size ≤ 9223372036854775807) (hT : TabS w) (hR : Sl.parse (s.data.toList.drop 0) = ⟨c, kd, pl, m⟩) (hP : str pl = .string P) (hp : (if c = 0 then 0 + m else 0) = p) (hc : c = 0) (hl : ¬ p = s.size) :
    Calls Tryd.prog 19 #[.string s, .int .i64 n] w fun e w' => e = .returned (noV 37) ∧ Below w.heap.size w w' := by
  have ht : ((c : Int) != 0) = false := by rw [bne_eq_false_iff_eq]; omega
  have hq : ((p : Int) != (s.size : Int)) = true := by rw [bne_iff_ne]; omega
  have HR := Lib.hid hR
  have HP := Lib.hid hP
  have Hp := Lib.hid hp
  have HT := Lib.hid hT
  clear hR hP hp hT
  go_enter Tryd.func19, Tryd.ntmps19
  go_wp2_with fail
  refine (wide_mid n _ h h2 true hb).mono ?_
  rintro e w' ⟨rfl, rfl⟩
  go_wp2_with fail
  refine (parse_tell s P 0 c kd m p pl _ hs (Nat.zero_le _) (HT.out.below ((Below.refl _ _).alloc (Nat.le_refl _) _)) HR.out HP.out Hp.out).mono ?_
  rintro e w1 ⟨rfl, hB1⟩
  have hc0 : w1.cell? ⟨w.heap.size, 0, none⟩ = some (.int .i64 0) := (hB1.cell (p := ⟨w.heap.size, 0, none⟩) (by simp)).trans (World.cell?_alloc_at _ _ _ _ rfl)
  have hf0 : w1.frozen? ⟨w.heap.size, 0, none⟩ = false := (hB1.frozen (p := ⟨w.heap.size, 0, none⟩) (by simp)).trans (World.frozen?_alloc_at _ _ _ _ rfl)
  have hc1 : w1.cell? ⟨w.heap.size, 1, none⟩ = some (.int .i64 0) := (hB1.cell (p := ⟨w.heap.size, 1, none⟩) (by simp)).trans (World.cell?_alloc_at _ _ _ _ rfl)
  have hf1 : w1.frozen? ⟨w.heap.size, 1, none⟩ = false := (hB1.frozen (p := ⟨w.heap.size, 1, none⟩) (by simp)).trans (World.frozen?_alloc_at _ _ _ _ rfl)
  have hc2 : w1.cell? ⟨w.heap.size, 2, none⟩ = some (.int .i64 0) := (hB1.cell (p := ⟨w.heap.size, 2, none⟩) (by simp)).trans (World.cell?_alloc_at _ _ _ _ rfl)
  have hf2 : w1.frozen? ⟨w.heap.size, 2, none⟩ = false := (hB1.frozen (p := ⟨w.heap.size, 2, none⟩) (by simp)).trans (World.frozen?_alloc_at _ _ _ _ rfl)
  have hc3 : w1.cell? ⟨w.heap.size, 3, none⟩ = some (.string ⟨#[]⟩) := (hB1.cell (p := ⟨w.heap.size, 3, none⟩) (by simp)).trans (World.cell?_alloc_at _ _ _ _ rfl)
  have hf3 : w1.frozen? ⟨w.heap.size, 3, none⟩ = false := (hB1.frozen (p := ⟨w.heap.size, 3, none⟩) (by simp)).trans (World.frozen?_alloc_at _ _ _ _ rfl)
  have hB : Below w.heap.size w w1 := ((Below.refl w.heap.size w).alloc (Nat.le_refl _) _).trans (hB1.mono (by simp))
  have hsz : w.heap.size < w1.heap.size := by have := hB1.size; simp at this; omega
  clear hB1
  go_wp2_with fail
  exact bodyPost_ret (v := noV 37) (by unfold noV; simp [results, Tryd.results19, go_sem, hc0, hc1, hc2, hc3]) rfl ⟨rfl, ((((hB.setCell (p := ⟨w.heap.size, 0, none⟩) (Nat.le_refl _) _).setCell (p := ⟨w.heap.size, 1, none⟩) (Nat.le_refl _) _).setCell (p := ⟨w.heap.size, 2, none⟩) (Nat.le_refl _) _).setCell (p := ⟨w.heap.size, 3, none⟩) (Nat.le_refl _) _)⟩

set_option maxRecDepth 100000 in
theorem read_good (s P : ByteArray) (n c kd m p : Nat) (pl : List UInt8) (w : World) (h : 64 ≤ n) (h2 : n ≤ 1024) (hb : ((((n % 64 : Nat) : Int) == 0)) = true) (hs : s.size ≤ 9223372036854775807) (hT : TabS w) (hR : Sl.parse (s.data.toList.drop 0) = ⟨c, kd, pl, m⟩) (hP : str pl = .string P) (hp : (if c = 0 then 0 + m else 0) = p) (hc : c = 0) (hl : p = s.size) (hPs : P.size ≤ 9223372036854775807) (C : ByteArray) (q kk i x : Nat) (cd : List UInt8) (hU : Jn.pay kd P.data.toList n = ⟨q, kk, i, cd, x⟩) (hC : str cd = .string C) :
    Calls Tryd.prog 19 #[.string s, .int .i64 n] w fun e w' => e = .returned (.tuple #[.agg #[.int .i64 q, .int .i64 kk, .int .i64 i, .string C], .int .i64 x]) ∧ Below w.heap.size w w' := by
  have ht : ((c : Int) != 0) = false := by rw [bne_eq_false_iff_eq]; omega
  have hq : ((p : Int) != (s.size : Int)) = false := by rw [bne_eq_false_iff_eq]; omega
  have HR := Lib.hid hR
  have HP := Lib.hid hP
  have Hp := Lib.hid hp
  have HT := Lib.hid hT
  have HU := Lib.hid hU
  have HC := Lib.hid hC
  clear hR hP hp hT hU hC
  go_enter Tryd.func19, Tryd.ntmps19
  go_wp2_with fail
  refine (wide_mid n _ h h2 true hb).mono ?_
  rintro e w' ⟨rfl, rfl⟩
  go_wp2_with fail
  refine (parse_tell s P 0 c kd m p pl _ hs (Nat.zero_le _) (HT.out.below ((Below.refl _ _).alloc (Nat.le_refl _) _)) HR.out HP.out Hp.out).mono ?_
  rintro e w1 ⟨rfl, hB1⟩
  have hc0 : w1.cell? ⟨w.heap.size, 0, none⟩ = some (.int .i64 0) := (hB1.cell (p := ⟨w.heap.size, 0, none⟩) (by simp)).trans (World.cell?_alloc_at _ _ _ _ rfl)
  have hf0 : w1.frozen? ⟨w.heap.size, 0, none⟩ = false := (hB1.frozen (p := ⟨w.heap.size, 0, none⟩) (by simp)).trans (World.frozen?_alloc_at _ _ _ _ rfl)
  have hc1 : w1.cell? ⟨w.heap.size, 1, none⟩ = some (.int .i64 0) := (hB1.cell (p := ⟨w.heap.size, 1, none⟩) (by simp)).trans (World.cell?_alloc_at _ _ _ _ rfl)
  have hf1 : w1.frozen? ⟨w.heap.size, 1, none⟩ = false := (hB1.frozen (p := ⟨w.heap.size, 1, none⟩) (by simp)).trans (World.frozen?_alloc_at _ _ _ _ rfl)
  have hc2 : w1.cell? ⟨w.heap.size, 2, none⟩ = some (.int .i64 0) := (hB1.cell (p := ⟨w.heap.size, 2, none⟩) (by simp)).trans (World.cell?_alloc_at _ _ _ _ rfl)
  have hf2 : w1.frozen? ⟨w.heap.size, 2, none⟩ = false := (hB1.frozen (p := ⟨w.heap.size, 2, none⟩) (by simp)).trans (World.frozen?_alloc_at _ _ _ _ rfl)
  have hc3 : w1.cell? ⟨w.heap.size, 3, none⟩ = some (.string ⟨#[]⟩) := (hB1.cell (p := ⟨w.heap.size, 3, none⟩) (by simp)).trans (World.cell?_alloc_at _ _ _ _ rfl)
  have hf3 : w1.frozen? ⟨w.heap.size, 3, none⟩ = false := (hB1.frozen (p := ⟨w.heap.size, 3, none⟩) (by simp)).trans (World.frozen?_alloc_at _ _ _ _ rfl)
  have hB : Below w.heap.size w w1 := ((Below.refl w.heap.size w).alloc (Nat.le_refl _) _).trans (hB1.mono (by simp))
  have hsz : w.heap.size < w1.heap.size := by have := hB1.size; simp at this; omega
  clear hB1
  go_wp2_with fail
  refine (payload_tell P C kd n q kk i x cd _ hPs h2 HU.out HC.out).mono ?_
  rintro e w2 ⟨rfl, hB2⟩
  have hc0 : w2.cell? ⟨w.heap.size, 0, none⟩ = some (.int .i64 0) := (hB2.cell (p := ⟨w.heap.size, 0, none⟩) hsz).trans hc0
  have hf0 : w2.frozen? ⟨w.heap.size, 0, none⟩ = false := (hB2.frozen (p := ⟨w.heap.size, 0, none⟩) hsz).trans hf0
  have hc1 : w2.cell? ⟨w.heap.size, 1, none⟩ = some (.int .i64 0) := (hB2.cell (p := ⟨w.heap.size, 1, none⟩) hsz).trans hc1
  have hf1 : w2.frozen? ⟨w.heap.size, 1, none⟩ = false := (hB2.frozen (p := ⟨w.heap.size, 1, none⟩) hsz).trans hf1
  have hc2 : w2.cell? ⟨w.heap.size, 2, none⟩ = some (.int .i64 0) := (hB2.cell (p := ⟨w.heap.size, 2, none⟩) hsz).trans hc2
  have hf2 : w2.frozen? ⟨w.heap.size, 2, none⟩ = false := (hB2.frozen (p := ⟨w.heap.size, 2, none⟩) hsz).trans hf2
  have hc3 : w2.cell? ⟨w.heap.size, 3, none⟩ = some (.string ⟨#[]⟩) := (hB2.cell (p := ⟨w.heap.size, 3, none⟩) hsz).trans hc3
  have hf3 : w2.frozen? ⟨w.heap.size, 3, none⟩ = false := (hB2.frozen (p := ⟨w.heap.size, 3, none⟩) hsz).trans hf3
  have hB' : Below w.heap.size w w2 := hB.trans (hB2.mono (by omega))
  clear hB2
  go_wp2_with fail
  exact bodyPost_ret (v := .tuple #[.agg #[.int .i64 q, .int .i64 kk, .int .i64 i, .string C], .int .i64 x]) (by simp [results, Tryd.results19, go_sem, hc0, hc1, hc2, hc3]) rfl ⟨rfl, ((((hB'.setCell (p := ⟨w.heap.size, 0, none⟩) (Nat.le_refl _) _).setCell (p := ⟨w.heap.size, 1, none⟩) (Nat.le_refl _) _).setCell (p := ⟨w.heap.size, 2, none⟩) (Nat.le_refl _) _).setCell (p := ⟨w.heap.size, 3, none⟩) (Nat.le_refl _) _)⟩

theorem refRead_low (s : ByteArray) (l : Int) (w : World) (h : l < 64) :
    Calls Tryd.prog 20 #[.string s, .int .i64 l] w fun e w' => e = .returned (noV 10) ∧ Below w.heap.size w w' := by
  go_enter Tryd.func20, Tryd.ntmps20
  go_wp2_with fail
  refine (refWide_low l _ h).mono ?_
  rintro e w' ⟨rfl, rfl⟩
  go_wp2_with fail
  exact bodyPost_ret (v := noV 10) (by unfold noV; simp [results, Tryd.results20, go_sem]) rfl ⟨rfl, (Below.refl _ _).alloc (Nat.le_refl _) _⟩

theorem refRead_high (s : ByteArray) (l : Int) (w : World) (h : 1024 < l) :
    Calls Tryd.prog 20 #[.string s, .int .i64 l] w fun e w' => e = .returned (noV 10) ∧ Below w.heap.size w w' := by
  go_enter Tryd.func20, Tryd.ntmps20
  go_wp2_with fail
  refine (refWide_high l _ h).mono ?_
  rintro e w' ⟨rfl, rfl⟩
  go_wp2_with fail
  exact bodyPost_ret (v := noV 10) (by unfold noV; simp [results, Tryd.results20, go_sem]) rfl ⟨rfl, (Below.refl _ _).alloc (Nat.le_refl _) _⟩

theorem refRead_odd (s : ByteArray) (n : Nat) (w : World) (h : 64 ≤ n) (h2 : n ≤ 1024) (hb : ((((n % 64 : Nat) : Int) == 0)) = false) :
    Calls Tryd.prog 20 #[.string s, .int .i64 n] w fun e w' => e = .returned (noV 10) ∧ Below w.heap.size w w' := by
  go_enter Tryd.func20, Tryd.ntmps20
  go_wp2_with fail
  refine (refWide_mid n _ h h2 false hb).mono ?_
  rintro e w' ⟨rfl, rfl⟩
  go_wp2_with fail
  exact bodyPost_ret (v := noV 10) (by unfold noV; simp [results, Tryd.results20, go_sem]) rfl ⟨rfl, (Below.refl _ _).alloc (Nat.le_refl _) _⟩

set_option maxRecDepth 100000 in
theorem refRead_code (s P : ByteArray) (n c kd m p : Nat) (pl : List UInt8) (w : World) (h : 64 ≤ n) (h2 : n ≤ 1024) (hb : ((((n % 64 : Nat) : Int) == 0)) = true) (hs : s.size ≤ 9223372036854775807) (hT : TabS w) (hR : Sl.parse (s.data.toList.drop 0) = ⟨c, kd, pl, m⟩) (hP : str pl = .string P) (hp : (if c = 0 then 0 + m else 0) = p) (hc : ¬ c = 0) :
    Calls Tryd.prog 20 #[.string s, .int .i64 n] w fun e w' => e = .returned (noV c) ∧ Below w.heap.size w w' := by
  have ht : ((c : Int) != 0) = true := by rw [bne_iff_ne]; omega
  have HR := Lib.hid hR
  have HP := Lib.hid hP
  have Hp := Lib.hid hp
  have HT := Lib.hid hT
  clear hR hP hp hT
  go_enter Tryd.func20, Tryd.ntmps20
  go_wp2_with fail
  refine (refWide_mid n _ h h2 true hb).mono ?_
  rintro e w' ⟨rfl, rfl⟩
  go_wp2_with fail
  refine (refParse_tell s P 0 c kd m p pl _ hs (Nat.zero_le _) (HT.out.below ((Below.refl _ _).alloc (Nat.le_refl _) _)) HR.out HP.out Hp.out).mono ?_
  rintro e w1 ⟨rfl, hB1⟩
  have hc0 : w1.cell? ⟨w.heap.size, 0, none⟩ = some (.int .i64 0) := (hB1.cell (p := ⟨w.heap.size, 0, none⟩) (by simp)).trans (World.cell?_alloc_at _ _ _ _ rfl)
  have hf0 : w1.frozen? ⟨w.heap.size, 0, none⟩ = false := (hB1.frozen (p := ⟨w.heap.size, 0, none⟩) (by simp)).trans (World.frozen?_alloc_at _ _ _ _ rfl)
  have hc1 : w1.cell? ⟨w.heap.size, 1, none⟩ = some (.int .i64 0) := (hB1.cell (p := ⟨w.heap.size, 1, none⟩) (by simp)).trans (World.cell?_alloc_at _ _ _ _ rfl)
  have hf1 : w1.frozen? ⟨w.heap.size, 1, none⟩ = false := (hB1.frozen (p := ⟨w.heap.size, 1, none⟩) (by simp)).trans (World.frozen?_alloc_at _ _ _ _ rfl)
  have hc2 : w1.cell? ⟨w.heap.size, 2, none⟩ = some (.int .i64 0) := (hB1.cell (p := ⟨w.heap.size, 2, none⟩) (by simp)).trans (World.cell?_alloc_at _ _ _ _ rfl)
  have hf2 : w1.frozen? ⟨w.heap.size, 2, none⟩ = false := (hB1.frozen (p := ⟨w.heap.size, 2, none⟩) (by simp)).trans (World.frozen?_alloc_at _ _ _ _ rfl)
  have hc3 : w1.cell? ⟨w.heap.size, 3, none⟩ = some (.string ⟨#[]⟩) := (hB1.cell (p := ⟨w.heap.size, 3, none⟩) (by simp)).trans (World.cell?_alloc_at _ _ _ _ rfl)
  have hf3 : w1.frozen? ⟨w.heap.size, 3, none⟩ = false := (hB1.frozen (p := ⟨w.heap.size, 3, none⟩) (by simp)).trans (World.frozen?_alloc_at _ _ _ _ rfl)
  have hB : Below w.heap.size w w1 := ((Below.refl w.heap.size w).alloc (Nat.le_refl _) _).trans (hB1.mono (by simp))
  have hsz : w.heap.size < w1.heap.size := by have := hB1.size; simp at this; omega
  clear hB1
  go_wp2_with fail
  exact bodyPost_ret (v := noV c) (by unfold noV; simp [results, Tryd.results20, go_sem, hc0, hc1, hc2, hc3]) rfl ⟨rfl, ((((hB.setCell (p := ⟨w.heap.size, 0, none⟩) (Nat.le_refl _) _).setCell (p := ⟨w.heap.size, 1, none⟩) (Nat.le_refl _) _).setCell (p := ⟨w.heap.size, 2, none⟩) (Nat.le_refl _) _).setCell (p := ⟨w.heap.size, 3, none⟩) (Nat.le_refl _) _)⟩

set_option maxRecDepth 100000 in
theorem refRead_long (s P : ByteArray) (n c kd m p : Nat) (pl : List UInt8) (w : World) (h : 64 ≤ n) (h2 : n ≤ 1024) (hb : ((((n % 64 : Nat) : Int) == 0)) = true) (hs : s.size ≤ 9223372036854775807) (hT : TabS w) (hR : Sl.parse (s.data.toList.drop 0) = ⟨c, kd, pl, m⟩) (hP : str pl = .string P) (hp : (if c = 0 then 0 + m else 0) = p) (hc : c = 0) (hl : ¬ p = s.size) :
    Calls Tryd.prog 20 #[.string s, .int .i64 n] w fun e w' => e = .returned (noV 37) ∧ Below w.heap.size w w' := by
  have ht : ((c : Int) != 0) = false := by rw [bne_eq_false_iff_eq]; omega
  have hq : ((p : Int) != (s.size : Int)) = true := by rw [bne_iff_ne]; omega
  have HR := Lib.hid hR
  have HP := Lib.hid hP
  have Hp := Lib.hid hp
  have HT := Lib.hid hT
  clear hR hP hp hT
  go_enter Tryd.func20, Tryd.ntmps20
  go_wp2_with fail
  refine (refWide_mid n _ h h2 true hb).mono ?_
  rintro e w' ⟨rfl, rfl⟩
  go_wp2_with fail
  refine (refParse_tell s P 0 c kd m p pl _ hs (Nat.zero_le _) (HT.out.below ((Below.refl _ _).alloc (Nat.le_refl _) _)) HR.out HP.out Hp.out).mono ?_
  rintro e w1 ⟨rfl, hB1⟩
  have hc0 : w1.cell? ⟨w.heap.size, 0, none⟩ = some (.int .i64 0) := (hB1.cell (p := ⟨w.heap.size, 0, none⟩) (by simp)).trans (World.cell?_alloc_at _ _ _ _ rfl)
  have hf0 : w1.frozen? ⟨w.heap.size, 0, none⟩ = false := (hB1.frozen (p := ⟨w.heap.size, 0, none⟩) (by simp)).trans (World.frozen?_alloc_at _ _ _ _ rfl)
  have hc1 : w1.cell? ⟨w.heap.size, 1, none⟩ = some (.int .i64 0) := (hB1.cell (p := ⟨w.heap.size, 1, none⟩) (by simp)).trans (World.cell?_alloc_at _ _ _ _ rfl)
  have hf1 : w1.frozen? ⟨w.heap.size, 1, none⟩ = false := (hB1.frozen (p := ⟨w.heap.size, 1, none⟩) (by simp)).trans (World.frozen?_alloc_at _ _ _ _ rfl)
  have hc2 : w1.cell? ⟨w.heap.size, 2, none⟩ = some (.int .i64 0) := (hB1.cell (p := ⟨w.heap.size, 2, none⟩) (by simp)).trans (World.cell?_alloc_at _ _ _ _ rfl)
  have hf2 : w1.frozen? ⟨w.heap.size, 2, none⟩ = false := (hB1.frozen (p := ⟨w.heap.size, 2, none⟩) (by simp)).trans (World.frozen?_alloc_at _ _ _ _ rfl)
  have hc3 : w1.cell? ⟨w.heap.size, 3, none⟩ = some (.string ⟨#[]⟩) := (hB1.cell (p := ⟨w.heap.size, 3, none⟩) (by simp)).trans (World.cell?_alloc_at _ _ _ _ rfl)
  have hf3 : w1.frozen? ⟨w.heap.size, 3, none⟩ = false := (hB1.frozen (p := ⟨w.heap.size, 3, none⟩) (by simp)).trans (World.frozen?_alloc_at _ _ _ _ rfl)
  have hB : Below w.heap.size w w1 := ((Below.refl w.heap.size w).alloc (Nat.le_refl _) _).trans (hB1.mono (by simp))
  have hsz : w.heap.size < w1.heap.size := by have := hB1.size; simp at this; omega
  clear hB1
  go_wp2_with fail
  exact bodyPost_ret (v := noV 37) (by unfold noV; simp [results, Tryd.results20, go_sem, hc0, hc1, hc2, hc3]) rfl ⟨rfl, ((((hB.setCell (p := ⟨w.heap.size, 0, none⟩) (Nat.le_refl _) _).setCell (p := ⟨w.heap.size, 1, none⟩) (Nat.le_refl _) _).setCell (p := ⟨w.heap.size, 2, none⟩) (Nat.le_refl _) _).setCell (p := ⟨w.heap.size, 3, none⟩) (Nat.le_refl _) _)⟩

set_option maxRecDepth 100000 in
theorem refRead_good (s P : ByteArray) (n c kd m p : Nat) (pl : List UInt8) (w : World) (h : 64 ≤ n) (h2 : n ≤ 1024) (hb : ((((n % 64 : Nat) : Int) == 0)) = true) (hs : s.size ≤ 9223372036854775807) (hT : TabS w) (hR : Sl.parse (s.data.toList.drop 0) = ⟨c, kd, pl, m⟩) (hP : str pl = .string P) (hp : (if c = 0 then 0 + m else 0) = p) (hc : c = 0) (hl : p = s.size) (hPs : P.size ≤ 9223372036854775807) (C : ByteArray) (q kk i x : Nat) (cd : List UInt8) (hU : Jn.pay kd P.data.toList n = ⟨q, kk, i, cd, x⟩) (hC : str cd = .string C) :
    Calls Tryd.prog 20 #[.string s, .int .i64 n] w fun e w' => e = .returned (.tuple #[.agg #[.int .i64 q, .int .i64 kk, .int .i64 i, .string C], .int .i64 x]) ∧ Below w.heap.size w w' := by
  have ht : ((c : Int) != 0) = false := by rw [bne_eq_false_iff_eq]; omega
  have hq : ((p : Int) != (s.size : Int)) = false := by rw [bne_eq_false_iff_eq]; omega
  have HR := Lib.hid hR
  have HP := Lib.hid hP
  have Hp := Lib.hid hp
  have HT := Lib.hid hT
  have HU := Lib.hid hU
  have HC := Lib.hid hC
  clear hR hP hp hT hU hC
  go_enter Tryd.func20, Tryd.ntmps20
  go_wp2_with fail
  refine (refWide_mid n _ h h2 true hb).mono ?_
  rintro e w' ⟨rfl, rfl⟩
  go_wp2_with fail
  refine (refParse_tell s P 0 c kd m p pl _ hs (Nat.zero_le _) (HT.out.below ((Below.refl _ _).alloc (Nat.le_refl _) _)) HR.out HP.out Hp.out).mono ?_
  rintro e w1 ⟨rfl, hB1⟩
  have hc0 : w1.cell? ⟨w.heap.size, 0, none⟩ = some (.int .i64 0) := (hB1.cell (p := ⟨w.heap.size, 0, none⟩) (by simp)).trans (World.cell?_alloc_at _ _ _ _ rfl)
  have hf0 : w1.frozen? ⟨w.heap.size, 0, none⟩ = false := (hB1.frozen (p := ⟨w.heap.size, 0, none⟩) (by simp)).trans (World.frozen?_alloc_at _ _ _ _ rfl)
  have hc1 : w1.cell? ⟨w.heap.size, 1, none⟩ = some (.int .i64 0) := (hB1.cell (p := ⟨w.heap.size, 1, none⟩) (by simp)).trans (World.cell?_alloc_at _ _ _ _ rfl)
  have hf1 : w1.frozen? ⟨w.heap.size, 1, none⟩ = false := (hB1.frozen (p := ⟨w.heap.size, 1, none⟩) (by simp)).trans (World.frozen?_alloc_at _ _ _ _ rfl)
  have hc2 : w1.cell? ⟨w.heap.size, 2, none⟩ = some (.int .i64 0) := (hB1.cell (p := ⟨w.heap.size, 2, none⟩) (by simp)).trans (World.cell?_alloc_at _ _ _ _ rfl)
  have hf2 : w1.frozen? ⟨w.heap.size, 2, none⟩ = false := (hB1.frozen (p := ⟨w.heap.size, 2, none⟩) (by simp)).trans (World.frozen?_alloc_at _ _ _ _ rfl)
  have hc3 : w1.cell? ⟨w.heap.size, 3, none⟩ = some (.string ⟨#[]⟩) := (hB1.cell (p := ⟨w.heap.size, 3, none⟩) (by simp)).trans (World.cell?_alloc_at _ _ _ _ rfl)
  have hf3 : w1.frozen? ⟨w.heap.size, 3, none⟩ = false := (hB1.frozen (p := ⟨w.heap.size, 3, none⟩) (by simp)).trans (World.frozen?_alloc_at _ _ _ _ rfl)
  have hB : Below w.heap.size w w1 := ((Below.refl w.heap.size w).alloc (Nat.le_refl _) _).trans (hB1.mono (by simp))
  have hsz : w.heap.size < w1.heap.size := by have := hB1.size; simp at this; omega
  clear hB1
  go_wp2_with fail
  refine (refPayload_tell P C kd n q kk i x cd _ hPs h2 HU.out HC.out).mono ?_
  rintro e w2 ⟨rfl, hB2⟩
  have hc0 : w2.cell? ⟨w.heap.size, 0, none⟩ = some (.int .i64 0) := (hB2.cell (p := ⟨w.heap.size, 0, none⟩) hsz).trans hc0
  have hf0 : w2.frozen? ⟨w.heap.size, 0, none⟩ = false := (hB2.frozen (p := ⟨w.heap.size, 0, none⟩) hsz).trans hf0
  have hc1 : w2.cell? ⟨w.heap.size, 1, none⟩ = some (.int .i64 0) := (hB2.cell (p := ⟨w.heap.size, 1, none⟩) hsz).trans hc1
  have hf1 : w2.frozen? ⟨w.heap.size, 1, none⟩ = false := (hB2.frozen (p := ⟨w.heap.size, 1, none⟩) hsz).trans hf1
  have hc2 : w2.cell? ⟨w.heap.size, 2, none⟩ = some (.int .i64 0) := (hB2.cell (p := ⟨w.heap.size, 2, none⟩) hsz).trans hc2
  have hf2 : w2.frozen? ⟨w.heap.size, 2, none⟩ = false := (hB2.frozen (p := ⟨w.heap.size, 2, none⟩) hsz).trans hf2
  have hc3 : w2.cell? ⟨w.heap.size, 3, none⟩ = some (.string ⟨#[]⟩) := (hB2.cell (p := ⟨w.heap.size, 3, none⟩) hsz).trans hc3
  have hf3 : w2.frozen? ⟨w.heap.size, 3, none⟩ = false := (hB2.frozen (p := ⟨w.heap.size, 3, none⟩) hsz).trans hf3
  have hB' : Below w.heap.size w w2 := hB.trans (hB2.mono (by omega))
  clear hB2
  go_wp2_with fail
  exact bodyPost_ret (v := .tuple #[.agg #[.int .i64 q, .int .i64 kk, .int .i64 i, .string C], .int .i64 x]) (by simp [results, Tryd.results20, go_sem, hc0, hc1, hc2, hc3]) rfl ⟨rfl, ((((hB'.setCell (p := ⟨w.heap.size, 0, none⟩) (Nat.le_refl _) _).setCell (p := ⟨w.heap.size, 1, none⟩) (Nat.le_refl _) _).setCell (p := ⟨w.heap.size, 2, none⟩) (Nat.le_refl _) _).setCell (p := ⟨w.heap.size, 3, none⟩) (Nat.le_refl _) _)⟩
end Go.Proofs.YtffdplmnjlcmnaaDoor
