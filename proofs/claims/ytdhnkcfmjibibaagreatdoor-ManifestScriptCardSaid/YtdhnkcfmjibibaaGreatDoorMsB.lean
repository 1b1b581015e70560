/- manifest.Store and manifest.Load on a disk. Conditions: each theorem's own hypotheses. -/
import Derived.Test.YtdhnkcfmjibibaaGreatDoorMsA
import Derived.Test.YtdhnkcfmjibibaaGreatDoorDkS
import Derived.Test.YtdhnkcfmjibibaaGreatDoorMfH
import Derived.Test.YtdhnkcfmjibibaaGreatDoorMdE
namespace Go.Proofs.YtdhnkcfmjibibaaGreatDoor
open Go.RowKit
set_option linter.unusedVariables false

theorem Jl.Kept.trans2' {K : Nat → Prop} {a b c : World} (h : Jl.Kept K a b) (h' : Jl.Kept K b c) : Jl.Kept K a c := ⟨Nat.le_trans h.1 h'.1, fun k hk => (h'.2 k hk).trans (h.2 k hk)⟩
section
variable {B d : Nat} {W0 w : World} {m m' : Dk.M} {K : Nat → Prop} {c : Int}
theorem Ms.delete_at (S : Jl.Sit B W0 w d m K) (e : Dk.delete m Ms.nw = (m', c)) : Calls Tryz.prog 26 #[.pointer (some ⟨d, 0, none⟩), .string ⟨#[109, 97, 110, 105, 102, 101, 115, 116, 46, 110, 101, 119]⟩] w fun r w' => r = .returned (.int .i64 c) ∧ Jl.Sit B W0 w' d m' K ∧ Jl.Kept K w w' := by
  have hG := Dk.delete_good S.good Ms.nw
  rw [e] at hG
  refine S.call hG fun F hA hG' => ?_
  have := Dk.delete_any hA hG' ⟨#[109, 97, 110, 105, 102, 101, 115, 116, 46, 110, 101, 119]⟩ (by decide)
  rw [show (Dk.delete m (⟨#[109, 97, 110, 105, 102, 101, 115, 116, 46, 110, 101, 119]⟩ : ByteArray).data.toList) = (m', c) from e] at this
  exact this
theorem Ms.create_at (S : Jl.Sit B W0 w d m K) (e : Dk.create m Ms.nw = (m', c)) : Calls Tryz.prog 27 #[.pointer (some ⟨d, 0, none⟩), .string ⟨#[109, 97, 110, 105, 102, 101, 115, 116, 46, 110, 101, 119]⟩] w fun r w' => r = .returned (.int .i64 c) ∧ Jl.Sit B W0 w' d m' K ∧ Jl.Kept K w w' := by
  have hG := Ms.create_good S.good Ms.nw
  rw [e] at hG
  refine S.call hG fun F hA hG' => ?_
  have := Dk.create_any hA hG' ⟨#[109, 97, 110, 105, 102, 101, 115, 116, 46, 110, 101, 119]⟩ (by decide)
  rw [show (Dk.create m (⟨#[109, 97, 110, 105, 102, 101, 115, 116, 46, 110, 101, 119]⟩ : ByteArray).data.toList) = (m', c) from e] at this
  exact this
theorem Ms.append_at {b : ByteArray} (hb : b.size ≤ 9223372036854775807) (S : Jl.Sit B W0 w d m K) (e : Dk.append m Ms.nw b.data.toList = (m', c)) : Calls Tryz.prog 28 #[.pointer (some ⟨d, 0, none⟩), .string ⟨#[109, 97, 110, 105, 102, 101, 115, 116, 46, 110, 101, 119]⟩, .string b] w fun r w' => r = .returned (.int .i64 c) ∧ Jl.Sit B W0 w' d m' K ∧ Jl.Kept K w w' := by
  have hG := Dk.append_good S.good Ms.nw b.data.toList
  rw [e] at hG
  refine S.call hG fun F hA hG' => ?_
  have := Dk.append_any hA hG' ⟨#[109, 97, 110, 105, 102, 101, 115, 116, 46, 110, 101, 119]⟩ b (by decide) hb
  rw [show (Dk.append m (⟨#[109, 97, 110, 105, 102, 101, 115, 116, 46, 110, 101, 119]⟩ : ByteArray).data.toList b.data.toList) = (m', c) from e] at this
  exact this
theorem Ms.sync_at (S : Jl.Sit B W0 w d m K) (e : Dk.sync m Ms.nw = (m', c)) : Calls Tryz.prog 29 #[.pointer (some ⟨d, 0, none⟩), .string ⟨#[109, 97, 110, 105, 102, 101, 115, 116, 46, 110, 101, 119]⟩] w fun r w' => r = .returned (.int .i64 c) ∧ Jl.Sit B W0 w' d m' K ∧ Jl.Kept K w w' := by
  have hG := Dk.sync_good S.good Ms.nw
  rw [e] at hG
  refine S.call hG fun F hA hG' => ?_
  have := Dk.sync_any hA hG' ⟨#[109, 97, 110, 105, 102, 101, 115, 116, 46, 110, 101, 119]⟩ (by decide)
  rw [show (Dk.sync m (⟨#[109, 97, 110, 105, 102, 101, 115, 116, 46, 110, 101, 119]⟩ : ByteArray).data.toList) = (m', c) from e] at this
  exact this
theorem Ms.rename_at (S : Jl.Sit B W0 w d m K) (e : Dk.rename m Ms.nw Ms.nm = (m', c)) : Calls Tryz.prog 30 #[.pointer (some ⟨d, 0, none⟩), .string ⟨#[109, 97, 110, 105, 102, 101, 115, 116, 46, 110, 101, 119]⟩, .string ⟨#[109, 97, 110, 105, 102, 101, 115, 116]⟩] w fun r w' => r = .returned (.int .i64 c) ∧ Jl.Sit B W0 w' d m' K ∧ Jl.Kept K w w' := by
  have hG := Dk.rename_good S.good Ms.nw Ms.nm
  rw [e] at hG
  refine S.call hG fun F hA hG' => ?_
  have := Dk.rename_any hA hG' ⟨#[109, 97, 110, 105, 102, 101, 115, 116, 46, 110, 101, 119]⟩ ⟨#[109, 97, 110, 105, 102, 101, 115, 116]⟩ (by decide) (by decide)
  rw [show (Dk.rename m (⟨#[109, 97, 110, 105, 102, 101, 115, 116, 46, 110, 101, 119]⟩ : ByteArray).data.toList (⟨#[109, 97, 110, 105, 102, 101, 115, 116]⟩ : ByteArray).data.toList) = (m', c) from e] at this
  exact this
theorem Ms.size_at (S : Jl.Sit B W0 w d m K) (nb : ByteArray) (hn : nb.size ≤ 1000) : Calls Tryz.prog 25 #[.pointer (some ⟨d, 0, none⟩), .string nb] w fun r w' => r = .returned (Dk.sizeV m nb.data.toList) ∧ w = w' := S.ask fun F hA hG => Dk.size_any hA nb (by omega)
theorem Ms.down_at (S : Jl.Sit B W0 w d m K) : Calls Tryz.prog 21 #[.pointer (some ⟨d, 0, none⟩)] w fun r w' => r = .returned (.bool m.off) ∧ w = w' := S.ask fun F hA hG => Dk.down_any hA
/-- What Store does: n is why the manifest does not go. -/
noncomputable def Ms.store (m : Dk.M) (X : Man) (n : Nat) : Dk.M × Int := if m.off = true then (m, 45) else if n = 0 then Ms.storeD m (Sl.frame 3 (Mf.body X)) else (m, n)
theorem Ms.neq0 {c : Int} (h : (c != 0) = true) : ¬ c = 0 := bne_iff_ne.1 h
theorem Ms.eq0 {c : Int} (h : (c != 0) = false) : c = 0 := by rwa [bne_eq_false_iff_eq] at h
set_option maxRecDepth 100000 in
set_option maxHeartbeats 2000000 in
theorem Ms.store_t1 {m1 : Dk.M} {c1 t l : Int} {X : Man} {A : Option Addr} {cap : Nat} {b : ByteArray} (SS : Jl.Sit B W0 w d m K) (hoff : m.off = false)
    (HEN : Hid (∀ {x : World}, Below w.heap.size w x → Calls Tryz.prog 24 #[.agg #[.int .i64 X.w, .int .i64 X.c, .int .i64 X.m, .int .i64 X.seq, .int .i64 X.next, .int .i64 X.jr, .slice A X.runs.length cap]] x fun e w' => e = .returned (.tuple #[.string b, .int .i64 0]) ∧ Below x.heap.size x w')) (HB : Hid (b.size ≤ 9223372036854775807))
    (hsz : Dk.sizeV m (⟨#[109, 97, 110, 105, 102, 101, 115, 116, 46, 110, 101, 119]⟩ : ByteArray).data.toList = .tuple #[.int .i64 l, .int .i64 t]) (ht : (t == 0) = true) (e1 : Dk.delete m Ms.nw = (m1, c1)) (hc1 : (c1 != 0) = true) :
    Calls Tryz.prog 7 #[.pointer (some ⟨d, 0, none⟩), .agg #[.int .i64 X.w, .int .i64 X.c, .int .i64 X.m, .int .i64 X.seq, .int .i64 X.next, .int .i64 X.jr, .slice A X.runs.length cap]] w fun e w' => e = .returned (.int .i64 c1) ∧ Jl.Sit B W0 w' d m1 K ∧ Jl.Kept K w w' := by
  have hA : Below w.heap.size w (w.alloc (.cells #[.int .i64 X.w, .int .i64 X.c, .int .i64 X.m, .int .i64 X.seq, .int .i64 X.next, .int .i64 X.jr, .slice A X.runs.length cap] 31)) := (Below.refl _ _).alloc (Nat.le_refl _) _
  have KK := SS.kept hA
  replace SS := SS.later hA
  go_enter Tryz.func7, Tryz.ntmps7
  go_wp2_with (first
    | (go_at_call 21; refine (Ms.down_at SS).mono ?_; rintro e x ⟨rfl, hx⟩; rw [hoff]; subst hx)
    | (go_at_call 24; refine (HEN.out hA).mono ?_; rintro e x ⟨rfl, b⟩; replace KK := KK.trans2' (SS.kept b); replace SS := SS.later b; clear b)
    | (go_at_call 25; refine (Ms.size_at SS ⟨#[109, 97, 110, 105, 102, 101, 115, 116, 46, 110, 101, 119]⟩ (by decide)).mono ?_; rintro e x ⟨rfl, hx⟩; rw [hsz]; subst hx)
    | (go_at_call 26; refine (Ms.delete_at SS e6).mono ?_; rintro e x ⟨rfl, S', q⟩; replace KK := KK.trans2' q; replace SS := S'; clear S' q)
    | (go_at_call 26; refine (Ms.delete_at SS e1).mono ?_; rintro e x ⟨rfl, S', q⟩; replace KK := KK.trans2' q; replace SS := S'; clear S' q)
    | (go_at_call 27; refine (Ms.create_at SS e2).mono ?_; rintro e x ⟨rfl, S', q⟩; replace KK := KK.trans2' q; replace SS := S'; clear S' q)
    | (go_at_call 28; refine (Ms.append_at HB.out SS e3).mono ?_; rintro e x ⟨rfl, S', q⟩; replace KK := KK.trans2' q; replace SS := S'; clear S' q)
    | (go_at_call 29; refine (Ms.sync_at SS e4).mono ?_; rintro e x ⟨rfl, S', q⟩; replace KK := KK.trans2' q; replace SS := S'; clear S' q)
    | (go_at_call 30; refine (Ms.rename_at SS e5).mono ?_; rintro e x ⟨rfl, S', q⟩; replace KK := KK.trans2' q; replace SS := S'; clear S' q))
  go_ret
  exact ⟨rfl, SS, KK⟩
set_option maxRecDepth 100000 in
set_option maxHeartbeats 2000000 in
theorem Ms.store_n2 {m2 : Dk.M} {c2 t l : Int} {X : Man} {A : Option Addr} {cap : Nat} {b : ByteArray} (SS : Jl.Sit B W0 w d m K) (hoff : m.off = false)
    (HEN : Hid (∀ {x : World}, Below w.heap.size w x → Calls Tryz.prog 24 #[.agg #[.int .i64 X.w, .int .i64 X.c, .int .i64 X.m, .int .i64 X.seq, .int .i64 X.next, .int .i64 X.jr, .slice A X.runs.length cap]] x fun e w' => e = .returned (.tuple #[.string b, .int .i64 0]) ∧ Below x.heap.size x w')) (HB : Hid (b.size ≤ 9223372036854775807))
    (hsz : Dk.sizeV m (⟨#[109, 97, 110, 105, 102, 101, 115, 116, 46, 110, 101, 119]⟩ : ByteArray).data.toList = .tuple #[.int .i64 l, .int .i64 t]) (ht : (t == 0) = false) (e2 : Dk.create m Ms.nw = (m2, c2)) (hc2 : (c2 != 0) = true) :
    Calls Tryz.prog 7 #[.pointer (some ⟨d, 0, none⟩), .agg #[.int .i64 X.w, .int .i64 X.c, .int .i64 X.m, .int .i64 X.seq, .int .i64 X.next, .int .i64 X.jr, .slice A X.runs.length cap]] w fun e w' => e = .returned (.int .i64 c2) ∧ Jl.Sit B W0 w' d m2 K ∧ Jl.Kept K w w' := by
  have hA : Below w.heap.size w (w.alloc (.cells #[.int .i64 X.w, .int .i64 X.c, .int .i64 X.m, .int .i64 X.seq, .int .i64 X.next, .int .i64 X.jr, .slice A X.runs.length cap] 31)) := (Below.refl _ _).alloc (Nat.le_refl _) _
  have KK := SS.kept hA
  replace SS := SS.later hA
  go_enter Tryz.func7, Tryz.ntmps7
  go_wp2_with (first
    | (go_at_call 21; refine (Ms.down_at SS).mono ?_; rintro e x ⟨rfl, hx⟩; rw [hoff]; subst hx)
    | (go_at_call 24; refine (HEN.out hA).mono ?_; rintro e x ⟨rfl, b⟩; replace KK := KK.trans2' (SS.kept b); replace SS := SS.later b; clear b)
    | (go_at_call 25; refine (Ms.size_at SS ⟨#[109, 97, 110, 105, 102, 101, 115, 116, 46, 110, 101, 119]⟩ (by decide)).mono ?_; rintro e x ⟨rfl, hx⟩; rw [hsz]; subst hx)
    | (go_at_call 26; refine (Ms.delete_at SS e6).mono ?_; rintro e x ⟨rfl, S', q⟩; replace KK := KK.trans2' q; replace SS := S'; clear S' q)
    | (go_at_call 26; refine (Ms.delete_at SS e1).mono ?_; rintro e x ⟨rfl, S', q⟩; replace KK := KK.trans2' q; replace SS := S'; clear S' q)
    | (go_at_call 27; refine (Ms.create_at SS e2).mono ?_; rintro e x ⟨rfl, S', q⟩; replace KK := KK.trans2' q; replace SS := S'; clear S' q)
    | (go_at_call 28; refine (Ms.append_at HB.out SS e3).mono ?_; rintro e x ⟨rfl, S', q⟩; replace KK := KK.trans2' q; replace SS := S'; clear S' q)
    | (go_at_call 29; refine (Ms.sync_at SS e4).mono ?_; rintro e x ⟨rfl, S', q⟩; replace KK := KK.trans2' q; replace SS := S'; clear S' q)
    | (go_at_call 30; refine (Ms.rename_at SS e5).mono ?_; rintro e x ⟨rfl, S', q⟩; replace KK := KK.trans2' q; replace SS := S'; clear S' q))
  go_ret
  exact ⟨rfl, SS, KK⟩
set_option maxRecDepth 100000 in
set_option maxHeartbeats 2000000 in
theorem Ms.store_n3 {m2 m3 m6 : Dk.M} {c2 c3 c6 t l : Int} {X : Man} {A : Option Addr} {cap : Nat} {b : ByteArray} (SS : Jl.Sit B W0 w d m K) (hoff : m.off = false)
    (HEN : Hid (∀ {x : World}, Below w.heap.size w x → Calls Tryz.prog 24 #[.agg #[.int .i64 X.w, .int .i64 X.c, .int .i64 X.m, .int .i64 X.seq, .int .i64 X.next, .int .i64 X.jr, .slice A X.runs.length cap]] x fun e w' => e = .returned (.tuple #[.string b, .int .i64 0]) ∧ Below x.heap.size x w')) (HB : Hid (b.size ≤ 9223372036854775807))
    (hsz : Dk.sizeV m (⟨#[109, 97, 110, 105, 102, 101, 115, 116, 46, 110, 101, 119]⟩ : ByteArray).data.toList = .tuple #[.int .i64 l, .int .i64 t]) (ht : (t == 0) = false) (e2 : Dk.create m Ms.nw = (m2, c2)) (hc2 : (c2 != 0) = false) (e3 : Dk.append m2 Ms.nw b.data.toList = (m3, c3)) (hc3 : (c3 != 0) = true) (hq : (c3 != 45) = true) (e6 : Dk.delete m3 Ms.nw = (m6, c6)) :
    Calls Tryz.prog 7 #[.pointer (some ⟨d, 0, none⟩), .agg #[.int .i64 X.w, .int .i64 X.c, .int .i64 X.m, .int .i64 X.seq, .int .i64 X.next, .int .i64 X.jr, .slice A X.runs.length cap]] w fun e w' => e = .returned (.int .i64 c3) ∧ Jl.Sit B W0 w' d m6 K ∧ Jl.Kept K w w' := by
  have hA : Below w.heap.size w (w.alloc (.cells #[.int .i64 X.w, .int .i64 X.c, .int .i64 X.m, .int .i64 X.seq, .int .i64 X.next, .int .i64 X.jr, .slice A X.runs.length cap] 31)) := (Below.refl _ _).alloc (Nat.le_refl _) _
  have KK := SS.kept hA
  replace SS := SS.later hA
  go_enter Tryz.func7, Tryz.ntmps7
  go_wp2_with (first
    | (go_at_call 21; refine (Ms.down_at SS).mono ?_; rintro e x ⟨rfl, hx⟩; rw [hoff]; subst hx)
    | (go_at_call 24; refine (HEN.out hA).mono ?_; rintro e x ⟨rfl, b⟩; replace KK := KK.trans2' (SS.kept b); replace SS := SS.later b; clear b)
    | (go_at_call 25; refine (Ms.size_at SS ⟨#[109, 97, 110, 105, 102, 101, 115, 116, 46, 110, 101, 119]⟩ (by decide)).mono ?_; rintro e x ⟨rfl, hx⟩; rw [hsz]; subst hx)
    | (go_at_call 26; refine (Ms.delete_at SS e6).mono ?_; rintro e x ⟨rfl, S', q⟩; replace KK := KK.trans2' q; replace SS := S'; clear S' q)
    | (go_at_call 26; refine (Ms.delete_at SS e1).mono ?_; rintro e x ⟨rfl, S', q⟩; replace KK := KK.trans2' q; replace SS := S'; clear S' q)
    | (go_at_call 27; refine (Ms.create_at SS e2).mono ?_; rintro e x ⟨rfl, S', q⟩; replace KK := KK.trans2' q; replace SS := S'; clear S' q)
    | (go_at_call 28; refine (Ms.append_at HB.out SS e3).mono ?_; rintro e x ⟨rfl, S', q⟩; replace KK := KK.trans2' q; replace SS := S'; clear S' q)
    | (go_at_call 29; refine (Ms.sync_at SS e4).mono ?_; rintro e x ⟨rfl, S', q⟩; replace KK := KK.trans2' q; replace SS := S'; clear S' q)
    | (go_at_call 30; refine (Ms.rename_at SS e5).mono ?_; rintro e x ⟨rfl, S', q⟩; replace KK := KK.trans2' q; replace SS := S'; clear S' q))
  go_ret
  exact ⟨rfl, SS, KK⟩
set_option maxRecDepth 100000 in
set_option maxHeartbeats 2000000 in
theorem Ms.store_n3b {m2 m3 : Dk.M} {c2 c3 t l : Int} {X : Man} {A : Option Addr} {cap : Nat} {b : ByteArray} (SS : Jl.Sit B W0 w d m K) (hoff : m.off = false)
    (HEN : Hid (∀ {x : World}, Below w.heap.size w x → Calls Tryz.prog 24 #[.agg #[.int .i64 X.w, .int .i64 X.c, .int .i64 X.m, .int .i64 X.seq, .int .i64 X.next, .int .i64 X.jr, .slice A X.runs.length cap]] x fun e w' => e = .returned (.tuple #[.string b, .int .i64 0]) ∧ Below x.heap.size x w')) (HB : Hid (b.size ≤ 9223372036854775807))
    (hsz : Dk.sizeV m (⟨#[109, 97, 110, 105, 102, 101, 115, 116, 46, 110, 101, 119]⟩ : ByteArray).data.toList = .tuple #[.int .i64 l, .int .i64 t]) (ht : (t == 0) = false) (e2 : Dk.create m Ms.nw = (m2, c2)) (hc2 : (c2 != 0) = false) (e3 : Dk.append m2 Ms.nw b.data.toList = (m3, c3)) (hc3 : (c3 != 0) = true) (hq : (c3 != 45) = false) :
    Calls Tryz.prog 7 #[.pointer (some ⟨d, 0, none⟩), .agg #[.int .i64 X.w, .int .i64 X.c, .int .i64 X.m, .int .i64 X.seq, .int .i64 X.next, .int .i64 X.jr, .slice A X.runs.length cap]] w fun e w' => e = .returned (.int .i64 c3) ∧ Jl.Sit B W0 w' d m3 K ∧ Jl.Kept K w w' := by
  have hA : Below w.heap.size w (w.alloc (.cells #[.int .i64 X.w, .int .i64 X.c, .int .i64 X.m, .int .i64 X.seq, .int .i64 X.next, .int .i64 X.jr, .slice A X.runs.length cap] 31)) := (Below.refl _ _).alloc (Nat.le_refl _) _
  have KK := SS.kept hA
  replace SS := SS.later hA
  go_enter Tryz.func7, Tryz.ntmps7
  go_wp2_with (first
    | (go_at_call 21; refine (Ms.down_at SS).mono ?_; rintro e x ⟨rfl, hx⟩; rw [hoff]; subst hx)
    | (go_at_call 24; refine (HEN.out hA).mono ?_; rintro e x ⟨rfl, b⟩; replace KK := KK.trans2' (SS.kept b); replace SS := SS.later b; clear b)
    | (go_at_call 25; refine (Ms.size_at SS ⟨#[109, 97, 110, 105, 102, 101, 115, 116, 46, 110, 101, 119]⟩ (by decide)).mono ?_; rintro e x ⟨rfl, hx⟩; rw [hsz]; subst hx)
    | (go_at_call 26; refine (Ms.delete_at SS e6).mono ?_; rintro e x ⟨rfl, S', q⟩; replace KK := KK.trans2' q; replace SS := S'; clear S' q)
    | (go_at_call 26; refine (Ms.delete_at SS e1).mono ?_; rintro e x ⟨rfl, S', q⟩; replace KK := KK.trans2' q; replace SS := S'; clear S' q)
    | (go_at_call 27; refine (Ms.create_at SS e2).mono ?_; rintro e x ⟨rfl, S', q⟩; replace KK := KK.trans2' q; replace SS := S'; clear S' q)
    | (go_at_call 28; refine (Ms.append_at HB.out SS e3).mono ?_; rintro e x ⟨rfl, S', q⟩; replace KK := KK.trans2' q; replace SS := S'; clear S' q)
    | (go_at_call 29; refine (Ms.sync_at SS e4).mono ?_; rintro e x ⟨rfl, S', q⟩; replace KK := KK.trans2' q; replace SS := S'; clear S' q)
    | (go_at_call 30; refine (Ms.rename_at SS e5).mono ?_; rintro e x ⟨rfl, S', q⟩; replace KK := KK.trans2' q; replace SS := S'; clear S' q))
  go_ret
  exact ⟨rfl, SS, KK⟩
set_option maxRecDepth 100000 in
set_option maxHeartbeats 2000000 in
theorem Ms.store_n4 {m2 m3 m4 : Dk.M} {c2 c3 c4 t l : Int} {X : Man} {A : Option Addr} {cap : Nat} {b : ByteArray} (SS : Jl.Sit B W0 w d m K) (hoff : m.off = false)
    (HEN : Hid (∀ {x : World}, Below w.heap.size w x → Calls Tryz.prog 24 #[.agg #[.int .i64 X.w, .int .i64 X.c, .int .i64 X.m, .int .i64 X.seq, .int .i64 X.next, .int .i64 X.jr, .slice A X.runs.length cap]] x fun e w' => e = .returned (.tuple #[.string b, .int .i64 0]) ∧ Below x.heap.size x w')) (HB : Hid (b.size ≤ 9223372036854775807))
    (hsz : Dk.sizeV m (⟨#[109, 97, 110, 105, 102, 101, 115, 116, 46, 110, 101, 119]⟩ : ByteArray).data.toList = .tuple #[.int .i64 l, .int .i64 t]) (ht : (t == 0) = false) (e2 : Dk.create m Ms.nw = (m2, c2)) (hc2 : (c2 != 0) = false) (e3 : Dk.append m2 Ms.nw b.data.toList = (m3, c3)) (hc3 : (c3 != 0) = false) (e4 : Dk.sync m3 Ms.nw = (m4, c4)) (hc4 : (c4 != 0) = true) :
    Calls Tryz.prog 7 #[.pointer (some ⟨d, 0, none⟩), .agg #[.int .i64 X.w, .int .i64 X.c, .int .i64 X.m, .int .i64 X.seq, .int .i64 X.next, .int .i64 X.jr, .slice A X.runs.length cap]] w fun e w' => e = .returned (.int .i64 c4) ∧ Jl.Sit B W0 w' d m4 K ∧ Jl.Kept K w w' := by
  have hA : Below w.heap.size w (w.alloc (.cells #[.int .i64 X.w, .int .i64 X.c, .int .i64 X.m, .int .i64 X.seq, .int .i64 X.next, .int .i64 X.jr, .slice A X.runs.length cap] 31)) := (Below.refl _ _).alloc (Nat.le_refl _) _
  have KK := SS.kept hA
  replace SS := SS.later hA
  go_enter Tryz.func7, Tryz.ntmps7
  go_wp2_with (first
    | (go_at_call 21; refine (Ms.down_at SS).mono ?_; rintro e x ⟨rfl, hx⟩; rw [hoff]; subst hx)
    | (go_at_call 24; refine (HEN.out hA).mono ?_; rintro e x ⟨rfl, b⟩; replace KK := KK.trans2' (SS.kept b); replace SS := SS.later b; clear b)
    | (go_at_call 25; refine (Ms.size_at SS ⟨#[109, 97, 110, 105, 102, 101, 115, 116, 46, 110, 101, 119]⟩ (by decide)).mono ?_; rintro e x ⟨rfl, hx⟩; rw [hsz]; subst hx)
    | (go_at_call 26; refine (Ms.delete_at SS e6).mono ?_; rintro e x ⟨rfl, S', q⟩; replace KK := KK.trans2' q; replace SS := S'; clear S' q)
    | (go_at_call 26; refine (Ms.delete_at SS e1).mono ?_; rintro e x ⟨rfl, S', q⟩; replace KK := KK.trans2' q; replace SS := S'; clear S' q)
    | (go_at_call 27; refine (Ms.create_at SS e2).mono ?_; rintro e x ⟨rfl, S', q⟩; replace KK := KK.trans2' q; replace SS := S'; clear S' q)
    | (go_at_call 28; refine (Ms.append_at HB.out SS e3).mono ?_; rintro e x ⟨rfl, S', q⟩; replace KK := KK.trans2' q; replace SS := S'; clear S' q)
    | (go_at_call 29; refine (Ms.sync_at SS e4).mono ?_; rintro e x ⟨rfl, S', q⟩; replace KK := KK.trans2' q; replace SS := S'; clear S' q)
    | (go_at_call 30; refine (Ms.rename_at SS e5).mono ?_; rintro e x ⟨rfl, S', q⟩; replace KK := KK.trans2' q; replace SS := S'; clear S' q))
  go_ret
  exact ⟨rfl, SS, KK⟩
set_option maxRecDepth 100000 in
set_option maxHeartbeats 2000000 in
theorem Ms.store_n5 {m2 m3 m4 m5 : Dk.M} {c2 c3 c4 c5 t l : Int} {X : Man} {A : Option Addr} {cap : Nat} {b : ByteArray} (SS : Jl.Sit B W0 w d m K) (hoff : m.off = false)
    (HEN : Hid (∀ {x : World}, Below w.heap.size w x → Calls Tryz.prog 24 #[.agg #[.int .i64 X.w, .int .i64 X.c, .int .i64 X.m, .int .i64 X.seq, .int .i64 X.next, .int .i64 X.jr, .slice A X.runs.length cap]] x fun e w' => e = .returned (.tuple #[.string b, .int .i64 0]) ∧ Below x.heap.size x w')) (HB : Hid (b.size ≤ 9223372036854775807))
    (hsz : Dk.sizeV m (⟨#[109, 97, 110, 105, 102, 101, 115, 116, 46, 110, 101, 119]⟩ : ByteArray).data.toList = .tuple #[.int .i64 l, .int .i64 t]) (ht : (t == 0) = false) (e2 : Dk.create m Ms.nw = (m2, c2)) (hc2 : (c2 != 0) = false) (e3 : Dk.append m2 Ms.nw b.data.toList = (m3, c3)) (hc3 : (c3 != 0) = false) (e4 : Dk.sync m3 Ms.nw = (m4, c4)) (hc4 : (c4 != 0) = false) (e5 : Dk.rename m4 Ms.nw Ms.nm = (m5, c5)) :
    Calls Tryz.prog 7 #[.pointer (some ⟨d, 0, none⟩), .agg #[.int .i64 X.w, .int .i64 X.c, .int .i64 X.m, .int .i64 X.seq, .int .i64 X.next, .int .i64 X.jr, .slice A X.runs.length cap]] w fun e w' => e = .returned (.int .i64 c5) ∧ Jl.Sit B W0 w' d m5 K ∧ Jl.Kept K w w' := by
  have hA : Below w.heap.size w (w.alloc (.cells #[.int .i64 X.w, .int .i64 X.c, .int .i64 X.m, .int .i64 X.seq, .int .i64 X.next, .int .i64 X.jr, .slice A X.runs.length cap] 31)) := (Below.refl _ _).alloc (Nat.le_refl _) _
  have KK := SS.kept hA
  replace SS := SS.later hA
  go_enter Tryz.func7, Tryz.ntmps7
  go_wp2_with (first
    | (go_at_call 21; refine (Ms.down_at SS).mono ?_; rintro e x ⟨rfl, hx⟩; rw [hoff]; subst hx)
    | (go_at_call 24; refine (HEN.out hA).mono ?_; rintro e x ⟨rfl, b⟩; replace KK := KK.trans2' (SS.kept b); replace SS := SS.later b; clear b)
    | (go_at_call 25; refine (Ms.size_at SS ⟨#[109, 97, 110, 105, 102, 101, 115, 116, 46, 110, 101, 119]⟩ (by decide)).mono ?_; rintro e x ⟨rfl, hx⟩; rw [hsz]; subst hx)
    | (go_at_call 26; refine (Ms.delete_at SS e6).mono ?_; rintro e x ⟨rfl, S', q⟩; replace KK := KK.trans2' q; replace SS := S'; clear S' q)
    | (go_at_call 26; refine (Ms.delete_at SS e1).mono ?_; rintro e x ⟨rfl, S', q⟩; replace KK := KK.trans2' q; replace SS := S'; clear S' q)
    | (go_at_call 27; refine (Ms.create_at SS e2).mono ?_; rintro e x ⟨rfl, S', q⟩; replace KK := KK.trans2' q; replace SS := S'; clear S' q)
    | (go_at_call 28; refine (Ms.append_at HB.out SS e3).mono ?_; rintro e x ⟨rfl, S', q⟩; replace KK := KK.trans2' q; replace SS := S'; clear S' q)
    | (go_at_call 29; refine (Ms.sync_at SS e4).mono ?_; rintro e x ⟨rfl, S', q⟩; replace KK := KK.trans2' q; replace SS := S'; clear S' q)
    | (go_at_call 30; refine (Ms.rename_at SS e5).mono ?_; rintro e x ⟨rfl, S', q⟩; replace KK := KK.trans2' q; replace SS := S'; clear S' q))
  go_ret
  exact ⟨rfl, SS, KK⟩
set_option maxRecDepth 100000 in
set_option maxHeartbeats 2000000 in
theorem Ms.store_t2 {m1 m2 : Dk.M} {c1 c2 t l : Int} {X : Man} {A : Option Addr} {cap : Nat} {b : ByteArray} (SS : Jl.Sit B W0 w d m K) (hoff : m.off = false)
    (HEN : Hid (∀ {x : World}, Below w.heap.size w x → Calls Tryz.prog 24 #[.agg #[.int .i64 X.w, .int .i64 X.c, .int .i64 X.m, .int .i64 X.seq, .int .i64 X.next, .int .i64 X.jr, .slice A X.runs.length cap]] x fun e w' => e = .returned (.tuple #[.string b, .int .i64 0]) ∧ Below x.heap.size x w')) (HB : Hid (b.size ≤ 9223372036854775807))
    (hsz : Dk.sizeV m (⟨#[109, 97, 110, 105, 102, 101, 115, 116, 46, 110, 101, 119]⟩ : ByteArray).data.toList = .tuple #[.int .i64 l, .int .i64 t]) (ht : (t == 0) = true) (e1 : Dk.delete m Ms.nw = (m1, c1)) (hc1 : (c1 != 0) = false) (e2 : Dk.create m1 Ms.nw = (m2, c2)) (hc2 : (c2 != 0) = true) :
    Calls Tryz.prog 7 #[.pointer (some ⟨d, 0, none⟩), .agg #[.int .i64 X.w, .int .i64 X.c, .int .i64 X.m, .int .i64 X.seq, .int .i64 X.next, .int .i64 X.jr, .slice A X.runs.length cap]] w fun e w' => e = .returned (.int .i64 c2) ∧ Jl.Sit B W0 w' d m2 K ∧ Jl.Kept K w w' := by
  have hA : Below w.heap.size w (w.alloc (.cells #[.int .i64 X.w, .int .i64 X.c, .int .i64 X.m, .int .i64 X.seq, .int .i64 X.next, .int .i64 X.jr, .slice A X.runs.length cap] 31)) := (Below.refl _ _).alloc (Nat.le_refl _) _
  have KK := SS.kept hA
  replace SS := SS.later hA
  go_enter Tryz.func7, Tryz.ntmps7
  go_wp2_with (first
    | (go_at_call 21; refine (Ms.down_at SS).mono ?_; rintro e x ⟨rfl, hx⟩; rw [hoff]; subst hx)
    | (go_at_call 24; refine (HEN.out hA).mono ?_; rintro e x ⟨rfl, b⟩; replace KK := KK.trans2' (SS.kept b); replace SS := SS.later b; clear b)
    | (go_at_call 25; refine (Ms.size_at SS ⟨#[109, 97, 110, 105, 102, 101, 115, 116, 46, 110, 101, 119]⟩ (by decide)).mono ?_; rintro e x ⟨rfl, hx⟩; rw [hsz]; subst hx)
    | (go_at_call 26; refine (Ms.delete_at SS e6).mono ?_; rintro e x ⟨rfl, S', q⟩; replace KK := KK.trans2' q; replace SS := S'; clear S' q)
    | (go_at_call 26; refine (Ms.delete_at SS e1).mono ?_; rintro e x ⟨rfl, S', q⟩; replace KK := KK.trans2' q; replace SS := S'; clear S' q)
    | (go_at_call 27; refine (Ms.create_at SS e2).mono ?_; rintro e x ⟨rfl, S', q⟩; replace KK := KK.trans2' q; replace SS := S'; clear S' q)
    | (go_at_call 28; refine (Ms.append_at HB.out SS e3).mono ?_; rintro e x ⟨rfl, S', q⟩; replace KK := KK.trans2' q; replace SS := S'; clear S' q)
    | (go_at_call 29; refine (Ms.sync_at SS e4).mono ?_; rintro e x ⟨rfl, S', q⟩; replace KK := KK.trans2' q; replace SS := S'; clear S' q)
    | (go_at_call 30; refine (Ms.rename_at SS e5).mono ?_; rintro e x ⟨rfl, S', q⟩; replace KK := KK.trans2' q; replace SS := S'; clear S' q))
  go_ret
  exact ⟨rfl, SS, KK⟩
set_option maxRecDepth 100000 in
set_option maxHeartbeats 2000000 in
theorem Ms.store_t3 {m1 m2 m3 m6 : Dk.M} {c1 c2 c3 c6 t l : Int} {X : Man} {A : Option Addr} {cap : Nat} {b : ByteArray} (SS : Jl.Sit B W0 w d m K) (hoff : m.off = false)
    (HEN : Hid (∀ {x : World}, Below w.heap.size w x → Calls Tryz.prog 24 #[.agg #[.int .i64 X.w, .int .i64 X.c, .int .i64 X.m, .int .i64 X.seq, .int .i64 X.next, .int .i64 X.jr, .slice A X.runs.length cap]] x fun e w' => e = .returned (.tuple #[.string b, .int .i64 0]) ∧ Below x.heap.size x w')) (HB : Hid (b.size ≤ 9223372036854775807))
    (hsz : Dk.sizeV m (⟨#[109, 97, 110, 105, 102, 101, 115, 116, 46, 110, 101, 119]⟩ : ByteArray).data.toList = .tuple #[.int .i64 l, .int .i64 t]) (ht : (t == 0) = true) (e1 : Dk.delete m Ms.nw = (m1, c1)) (hc1 : (c1 != 0) = false) (e2 : Dk.create m1 Ms.nw = (m2, c2)) (hc2 : (c2 != 0) = false) (e3 : Dk.append m2 Ms.nw b.data.toList = (m3, c3)) (hc3 : (c3 != 0) = true) (hq : (c3 != 45) = true) (e6 : Dk.delete m3 Ms.nw = (m6, c6)) :
    Calls Tryz.prog 7 #[.pointer (some ⟨d, 0, none⟩), .agg #[.int .i64 X.w, .int .i64 X.c, .int .i64 X.m, .int .i64 X.seq, .int .i64 X.next, .int .i64 X.jr, .slice A X.runs.length cap]] w fun e w' => e = .returned (.int .i64 c3) ∧ Jl.Sit B W0 w' d m6 K ∧ Jl.Kept K w w' := by
  have hA : Below w.heap.size w (w.alloc (.cells #[.int .i64 X.w, .int .i64 X.c, .int .i64 X.m, .int .i64 X.seq, .int .i64 X.next, .int .i64 X.jr, .slice A X.runs.length cap] 31)) := (Below.refl _ _).alloc (Nat.le_refl _) _
  have KK := SS.kept hA
  replace SS := SS.later hA
  go_enter Tryz.func7, Tryz.ntmps7
  go_wp2_with (first
    | (go_at_call 21; refine (Ms.down_at SS).mono ?_; rintro e x ⟨rfl, hx⟩; rw [hoff]; subst hx)
    | (go_at_call 24; refine (HEN.out hA).mono ?_; rintro e x ⟨rfl, b⟩; replace KK := KK.trans2' (SS.kept b); replace SS := SS.later b; clear b)
    | (go_at_call 25; refine (Ms.size_at SS ⟨#[109, 97, 110, 105, 102, 101, 115, 116, 46, 110, 101, 119]⟩ (by decide)).mono ?_; rintro e x ⟨rfl, hx⟩; rw [hsz]; subst hx)
    | (go_at_call 26; refine (Ms.delete_at SS e6).mono ?_; rintro e x ⟨rfl, S', q⟩; replace KK := KK.trans2' q; replace SS := S'; clear S' q)
    | (go_at_call 26; refine (Ms.delete_at SS e1).mono ?_; rintro e x ⟨rfl, S', q⟩; replace KK := KK.trans2' q; replace SS := S'; clear S' q)
    | (go_at_call 27; refine (Ms.create_at SS e2).mono ?_; rintro e x ⟨rfl, S', q⟩; replace KK := KK.trans2' q; replace SS := S'; clear S' q)
    | (go_at_call 28; refine (Ms.append_at HB.out SS e3).mono ?_; rintro e x ⟨rfl, S', q⟩; replace KK := KK.trans2' q; replace SS := S'; clear S' q)
    | (go_at_call 29; refine (Ms.sync_at SS e4).mono ?_; rintro e x ⟨rfl, S', q⟩; replace KK := KK.trans2' q; replace SS := S'; clear S' q)
    | (go_at_call 30; refine (Ms.rename_at SS e5).mono ?_; rintro e x ⟨rfl, S', q⟩; replace KK := KK.trans2' q; replace SS := S'; clear S' q))
  go_ret
  exact ⟨rfl, SS, KK⟩
set_option maxRecDepth 100000 in
set_option maxHeartbeats 2000000 in
theorem Ms.store_t3b {m1 m2 m3 : Dk.M} {c1 c2 c3 t l : Int} {X : Man} {A : Option Addr} {cap : Nat} {b : ByteArray} (SS : Jl.Sit B W0 w d m K) (hoff : m.off = false)
    (HEN : Hid (∀ {x : World}, Below w.heap.size w x → Calls Tryz.prog 24 #[.agg #[.int .i64 X.w, .int .i64 X.c, .int .i64 X.m, .int .i64 X.seq, .int .i64 X.next, .int .i64 X.jr, .slice A X.runs.length cap]] x fun e w' => e = .returned (.tuple #[.string b, .int .i64 0]) ∧ Below x.heap.size x w')) (HB : Hid (b.size ≤ 9223372036854775807))
    (hsz : Dk.sizeV m (⟨#[109, 97, 110, 105, 102, 101, 115, 116, 46, 110, 101, 119]⟩ : ByteArray).data.toList = .tuple #[.int .i64 l, .int .i64 t]) (ht : (t == 0) = true) (e1 : Dk.delete m Ms.nw = (m1, c1)) (hc1 : (c1 != 0) = false) (e2 : Dk.create m1 Ms.nw = (m2, c2)) (hc2 : (c2 != 0) = false) (e3 : Dk.append m2 Ms.nw b.data.toList = (m3, c3)) (hc3 : (c3 != 0) = true) (hq : (c3 != 45) = false) :
    Calls Tryz.prog 7 #[.pointer (some ⟨d, 0, none⟩), .agg #[.int .i64 X.w, .int .i64 X.c, .int .i64 X.m, .int .i64 X.seq, .int .i64 X.next, .int .i64 X.jr, .slice A X.runs.length cap]] w fun e w' => e = .returned (.int .i64 c3) ∧ Jl.Sit B W0 w' d m3 K ∧ Jl.Kept K w w' := by
  have hA : Below w.heap.size w (w.alloc (.cells #[.int .i64 X.w, .int .i64 X.c, .int .i64 X.m, .int .i64 X.seq, .int .i64 X.next, .int .i64 X.jr, .slice A X.runs.length cap] 31)) := (Below.refl _ _).alloc (Nat.le_refl _) _
  have KK := SS.kept hA
  replace SS := SS.later hA
  go_enter Tryz.func7, Tryz.ntmps7
  go_wp2_with (first
    | (go_at_call 21; refine (Ms.down_at SS).mono ?_; rintro e x ⟨rfl, hx⟩; rw [hoff]; subst hx)
    | (go_at_call 24; refine (HEN.out hA).mono ?_; rintro e x ⟨rfl, b⟩; replace KK := KK.trans2' (SS.kept b); replace SS := SS.later b; clear b)
    | (go_at_call 25; refine (Ms.size_at SS ⟨#[109, 97, 110, 105, 102, 101, 115, 116, 46, 110, 101, 119]⟩ (by decide)).mono ?_; rintro e x ⟨rfl, hx⟩; rw [hsz]; subst hx)
    | (go_at_call 26; refine (Ms.delete_at SS e6).mono ?_; rintro e x ⟨rfl, S', q⟩; replace KK := KK.trans2' q; replace SS := S'; clear S' q)
    | (go_at_call 26; refine (Ms.delete_at SS e1).mono ?_; rintro e x ⟨rfl, S', q⟩; replace KK := KK.trans2' q; replace SS := S'; clear S' q)
    | (go_at_call 27; refine (Ms.create_at SS e2).mono ?_; rintro e x ⟨rfl, S', q⟩; replace KK := KK.trans2' q; replace SS := S'; clear S' q)
    | (go_at_call 28; refine (Ms.append_at HB.out SS e3).mono ?_; rintro e x ⟨rfl, S', q⟩; replace KK := KK.trans2' q; replace SS := S'; clear S' q)
    | (go_at_call 29; refine (Ms.sync_at SS e4).mono ?_; rintro e x ⟨rfl, S', q⟩; replace KK := KK.trans2' q; replace SS := S'; clear S' q)
    | (go_at_call 30; refine (Ms.rename_at SS e5).mono ?_; rintro e x ⟨rfl, S', q⟩; replace KK := KK.trans2' q; replace SS := S'; clear S' q))
  go_ret
  exact ⟨rfl, SS, KK⟩
set_option maxRecDepth 100000 in
set_option maxHeartbeats 2000000 in
theorem Ms.store_t4 {m1 m2 m3 m4 : Dk.M} {c1 c2 c3 c4 t l : Int} {X : Man} {A : Option Addr} {cap : Nat} {b : ByteArray} (SS : Jl.Sit B W0 w d m K) (hoff : m.off = false)
    (HEN : Hid (∀ {x : World}, Below w.heap.size w x → Calls Tryz.prog 24 #[.agg #[.int .i64 X.w, .int .i64 X.c, .int .i64 X.m, .int .i64 X.seq, .int .i64 X.next, .int .i64 X.jr, .slice A X.runs.length cap]] x fun e w' => e = .returned (.tuple #[.string b, .int .i64 0]) ∧ Below x.heap.size x w')) (HB : Hid (b.size ≤ 9223372036854775807))
    (hsz : Dk.sizeV m (⟨#[109, 97, 110, 105, 102, 101, 115, 116, 46, 110, 101, 119]⟩ : ByteArray).data.toList = .tuple #[.int .i64 l, .int .i64 t]) (ht : (t == 0) = true) (e1 : Dk.delete m Ms.nw = (m1, c1)) (hc1 : (c1 != 0) = false) (e2 : Dk.create m1 Ms.nw = (m2, c2)) (hc2 : (c2 != 0) = false) (e3 : Dk.append m2 Ms.nw b.data.toList = (m3, c3)) (hc3 : (c3 != 0) = false) (e4 : Dk.sync m3 Ms.nw = (m4, c4)) (hc4 : (c4 != 0) = true) :
    Calls Tryz.prog 7 #[.pointer (some ⟨d, 0, none⟩), .agg #[.int .i64 X.w, .int .i64 X.c, .int .i64 X.m, .int .i64 X.seq, .int .i64 X.next, .int .i64 X.jr, .slice A X.runs.length cap]] w fun e w' => e = .returned (.int .i64 c4) ∧ Jl.Sit B W0 w' d m4 K ∧ Jl.Kept K w w' := by
  have hA : Below w.heap.size w (w.alloc (.cells #[.int .i64 X.w, .int .i64 X.c, .int .i64 X.m, .int .i64 X.seq, .int .i64 X.next, .int .i64 X.jr, .slice A X.runs.length cap] 31)) := (Below.refl _ _).alloc (Nat.le_refl _) _
  have KK := SS.kept hA
  replace SS := SS.later hA
  go_enter Tryz.func7, Tryz.ntmps7
  go_wp2_with (first
    | (go_at_call 21; refine (Ms.down_at SS).mono ?_; rintro e x ⟨rfl, hx⟩; rw [hoff]; subst hx)
    | (go_at_call 24; refine (HEN.out hA).mono ?_; rintro e x ⟨rfl, b⟩; replace KK := KK.trans2' (SS.kept b); replace SS := SS.later b; clear b)
    | (go_at_call 25; refine (Ms.size_at SS ⟨#[109, 97, 110, 105, 102, 101, 115, 116, 46, 110, 101, 119]⟩ (by decide)).mono ?_; rintro e x ⟨rfl, hx⟩; rw [hsz]; subst hx)
    | (go_at_call 26; refine (Ms.delete_at SS e6).mono ?_; rintro e x ⟨rfl, S', q⟩; replace KK := KK.trans2' q; replace SS := S'; clear S' q)
    | (go_at_call 26; refine (Ms.delete_at SS e1).mono ?_; rintro e x ⟨rfl, S', q⟩; replace KK := KK.trans2' q; replace SS := S'; clear S' q)
    | (go_at_call 27; refine (Ms.create_at SS e2).mono ?_; rintro e x ⟨rfl, S', q⟩; replace KK := KK.trans2' q; replace SS := S'; clear S' q)
    | (go_at_call 28; refine (Ms.append_at HB.out SS e3).mono ?_; rintro e x ⟨rfl, S', q⟩; replace KK := KK.trans2' q; replace SS := S'; clear S' q)
    | (go_at_call 29; refine (Ms.sync_at SS e4).mono ?_; rintro e x ⟨rfl, S', q⟩; replace KK := KK.trans2' q; replace SS := S'; clear S' q)
    | (go_at_call 30; refine (Ms.rename_at SS e5).mono ?_; rintro e x ⟨rfl, S', q⟩; replace KK := KK.trans2' q; replace SS := S'; clear S' q))
  go_ret
  exact ⟨rfl, SS, KK⟩
set_option maxRecDepth 100000 in
set_option maxHeartbeats 2000000 in
theorem Ms.store_t5 {m1 m2 m3 m4 m5 : Dk.M} {c1 c2 c3 c4 c5 t l : Int} {X : Man} {A : Option Addr} {cap : Nat} {b : ByteArray} (SS : Jl.Sit B W0 w d m K) (hoff : m.off = false)
    (HEN : Hid (∀ {x : World}, Below w.heap.size w x → Calls Tryz.prog 24 #[.agg #[.int .i64 X.w, .int .i64 X.c, .int .i64 X.m, .int .i64 X.seq, .int .i64 X.next, .int .i64 X.jr, .slice A X.runs.length cap]] x fun e w' => e = .returned (.tuple #[.string b, .int .i64 0]) ∧ Below x.heap.size x w')) (HB : Hid (b.size ≤ 9223372036854775807))
    (hsz : Dk.sizeV m (⟨#[109, 97, 110, 105, 102, 101, 115, 116, 46, 110, 101, 119]⟩ : ByteArray).data.toList = .tuple #[.int .i64 l, .int .i64 t]) (ht : (t == 0) = true) (e1 : Dk.delete m Ms.nw = (m1, c1)) (hc1 : (c1 != 0) = false) (e2 : Dk.create m1 Ms.nw = (m2, c2)) (hc2 : (c2 != 0) = false) (e3 : Dk.append m2 Ms.nw b.data.toList = (m3, c3)) (hc3 : (c3 != 0) = false) (e4 : Dk.sync m3 Ms.nw = (m4, c4)) (hc4 : (c4 != 0) = false) (e5 : Dk.rename m4 Ms.nw Ms.nm = (m5, c5)) :
    Calls Tryz.prog 7 #[.pointer (some ⟨d, 0, none⟩), .agg #[.int .i64 X.w, .int .i64 X.c, .int .i64 X.m, .int .i64 X.seq, .int .i64 X.next, .int .i64 X.jr, .slice A X.runs.length cap]] w fun e w' => e = .returned (.int .i64 c5) ∧ Jl.Sit B W0 w' d m5 K ∧ Jl.Kept K w w' := by
  have hA : Below w.heap.size w (w.alloc (.cells #[.int .i64 X.w, .int .i64 X.c, .int .i64 X.m, .int .i64 X.seq, .int .i64 X.next, .int .i64 X.jr, .slice A X.runs.length cap] 31)) := (Below.refl _ _).alloc (Nat.le_refl _) _
  have KK := SS.kept hA
  replace SS := SS.later hA
  go_enter Tryz.func7, Tryz.ntmps7
  go_wp2_with (first
    | (go_at_call 21; refine (Ms.down_at SS).mono ?_; rintro e x ⟨rfl, hx⟩; rw [hoff]; subst hx)
    | (go_at_call 24; refine (HEN.out hA).mono ?_; rintro e x ⟨rfl, b⟩; replace KK := KK.trans2' (SS.kept b); replace SS := SS.later b; clear b)
    | (go_at_call 25; refine (Ms.size_at SS ⟨#[109, 97, 110, 105, 102, 101, 115, 116, 46, 110, 101, 119]⟩ (by decide)).mono ?_; rintro e x ⟨rfl, hx⟩; rw [hsz]; subst hx)
    | (go_at_call 26; refine (Ms.delete_at SS e6).mono ?_; rintro e x ⟨rfl, S', q⟩; replace KK := KK.trans2' q; replace SS := S'; clear S' q)
    | (go_at_call 26; refine (Ms.delete_at SS e1).mono ?_; rintro e x ⟨rfl, S', q⟩; replace KK := KK.trans2' q; replace SS := S'; clear S' q)
    | (go_at_call 27; refine (Ms.create_at SS e2).mono ?_; rintro e x ⟨rfl, S', q⟩; replace KK := KK.trans2' q; replace SS := S'; clear S' q)
    | (go_at_call 28; refine (Ms.append_at HB.out SS e3).mono ?_; rintro e x ⟨rfl, S', q⟩; replace KK := KK.trans2' q; replace SS := S'; clear S' q)
    | (go_at_call 29; refine (Ms.sync_at SS e4).mono ?_; rintro e x ⟨rfl, S', q⟩; replace KK := KK.trans2' q; replace SS := S'; clear S' q)
    | (go_at_call 30; refine (Ms.rename_at SS e5).mono ?_; rintro e x ⟨rfl, S', q⟩; replace KK := KK.trans2' q; replace SS := S'; clear S' q))
  go_ret
  exact ⟨rfl, SS, KK⟩
set_option maxRecDepth 100000 in
set_option maxHeartbeats 2000000 in
theorem Ms.store_off {X : Man} {A : Option Addr} {cap : Nat} (SS : Jl.Sit B W0 w d m K) (hoff : m.off = true) : Calls Tryz.prog 7 #[.pointer (some ⟨d, 0, none⟩), .agg #[.int .i64 X.w, .int .i64 X.c, .int .i64 X.m, .int .i64 X.seq, .int .i64 X.next, .int .i64 X.jr, .slice A X.runs.length cap]] w fun e w' => e = .returned (.int .i64 45) ∧ Jl.Sit B W0 w' d m K ∧ Jl.Kept K w w' := by
  have hA : Below w.heap.size w (w.alloc (.cells #[.int .i64 X.w, .int .i64 X.c, .int .i64 X.m, .int .i64 X.seq, .int .i64 X.next, .int .i64 X.jr, .slice A X.runs.length cap] 31)) := (Below.refl _ _).alloc (Nat.le_refl _) _
  have KK := SS.kept hA
  replace SS := SS.later hA
  go_enter Tryz.func7, Tryz.ntmps7
  go_wp2_with (go_at_call 21; refine (Ms.down_at SS).mono ?_; rintro e x ⟨rfl, hx⟩; rw [hoff]; subst hx)
  go_ret
  exact ⟨rfl, SS, KK⟩
set_option maxRecDepth 100000 in
set_option maxHeartbeats 2000000 in
theorem Ms.store_no {X : Man} {A : Option Addr} {cap : Nat} {n : Int} (SS : Jl.Sit B W0 w d m K) (hoff : m.off = false) (hn : (n != 0) = true)
    (HEN : Hid (∀ {x : World}, Below w.heap.size w x → Calls Tryz.prog 24 #[.agg #[.int .i64 X.w, .int .i64 X.c, .int .i64 X.m, .int .i64 X.seq, .int .i64 X.next, .int .i64 X.jr, .slice A X.runs.length cap]] x fun e w' => e = .returned (.tuple #[.string ⟨#[]⟩, .int .i64 n]) ∧ Below x.heap.size x w')) : Calls Tryz.prog 7 #[.pointer (some ⟨d, 0, none⟩), .agg #[.int .i64 X.w, .int .i64 X.c, .int .i64 X.m, .int .i64 X.seq, .int .i64 X.next, .int .i64 X.jr, .slice A X.runs.length cap]] w fun e w' => e = .returned (.int .i64 n) ∧ Jl.Sit B W0 w' d m K ∧ Jl.Kept K w w' := by
  have hA : Below w.heap.size w (w.alloc (.cells #[.int .i64 X.w, .int .i64 X.c, .int .i64 X.m, .int .i64 X.seq, .int .i64 X.next, .int .i64 X.jr, .slice A X.runs.length cap] 31)) := (Below.refl _ _).alloc (Nat.le_refl _) _
  have KK := SS.kept hA
  replace SS := SS.later hA
  go_enter Tryz.func7, Tryz.ntmps7
  go_wp2_with (first
    | (go_at_call 21; refine (Ms.down_at SS).mono ?_; rintro e x ⟨rfl, hx⟩; rw [hoff]; subst hx)
    | (go_at_call 24; refine (HEN.out hA).mono ?_; rintro e x ⟨rfl, b⟩))
  go_ret
  exact ⟨rfl, SS.later b, KK.trans2' (SS.kept b)⟩
/-- Store. -/
theorem Ms.store_any {X : Man} {A : Option Addr} {cap : Nat} (SS : Jl.Sit B W0 w d m K) (HR : Rs w w.heap.size A X.runs) (hM : Mf.Fit X) (hT : TabS w) {n : Nat} (hn : Mf.check X = n) :
    Calls Tryz.prog 7 #[.pointer (some ⟨d, 0, none⟩), manV X A cap] w fun e w' => e = .returned (.int .i64 (Ms.store m X n).2) ∧ Jl.Sit B W0 w' d (Ms.store m X n).1 K ∧ Jl.Kept K w w' := by
  unfold Ms.store
  have hen := fun {x : World} (hb : Below w.heap.size w x) => encode_any X A cap x ((HR.below hb).more hb.size) hM (hT.below hb) n hn
  cases hoff : m.off with
  | true =>
    rw [if_pos rfl]
    exact Ms.store_off SS hoff
  | false =>
    rw [if_neg (by decide)]
    by_cases h0 : n = 0
    · rw [if_pos h0]
      obtain ⟨b, hb, hbd, hbs⟩ := str_of (Sl.frame 3 (Mf.body X))
      have HB : Hid (b.size ≤ 9223372036854775807) := Lib.hid (by have := Mf.body_len (Mf.good (h0 ▸ hn)); rw [hbs, Sl.frame_len]; omega)
      have hee : encV X n = .tuple #[.string b, .int .i64 0] := by unfold encV; rw [if_pos h0, hb]
      rw [hee] at hen
      have HEN : Hid (∀ {x : World}, Below w.heap.size w x → Calls Tryz.prog 24 #[.agg #[.int .i64 X.w, .int .i64 X.c, .int .i64 X.m, .int .i64 X.seq, .int .i64 X.next, .int .i64 X.jr, .slice A X.runs.length cap]] x fun e w' => e = .returned (.tuple #[.string b, .int .i64 0]) ∧ Below x.heap.size x w') := Lib.hid (fun hb => hen hb)
      rw [← hbd]
      obtain ⟨l, t, hsz, ht⟩ : ∃ l t : Int, Dk.sizeV m Ms.nw = .tuple #[.int .i64 l, .int .i64 t] ∧ t = Dk.code m Ms.nw := by
        unfold Dk.sizeV
        split
        · rename_i h; exact ⟨_, _, rfl, h.symm⟩
        · exact ⟨_, _, rfl, rfl⟩
      unfold Ms.storeD Ms.s1
      by_cases h1 : Dk.code m Ms.nw = 0
      · have ht0 : (t == 0) = true := by rw [beq_iff_eq, ht, h1]
        rw [if_pos h1]
        obtain ⟨⟨m1, c1⟩, e1⟩ : ∃ z, Dk.delete m Ms.nw = z := ⟨_, rfl⟩
        rw [e1]
        by_cases hc1 : c1 = 0
        · rw [if_neg (not_not_intro hc1)]
          have hc1' : (c1 != 0) = false := by rw [bne_eq_false_iff_eq]; exact hc1
          unfold Ms.s2345
          obtain ⟨⟨m2, c2⟩, e2⟩ : ∃ z, Dk.create m1 Ms.nw = z := ⟨_, rfl⟩
          rw [show Dk.create (m1, c1).1 Ms.nw = (m2, c2) from e2]
          by_cases hc2 : c2 = 0
          · rw [if_neg (not_not_intro hc2)]
            have hc2' : (c2 != 0) = false := by rw [bne_eq_false_iff_eq]; exact hc2
            unfold Ms.s345 Ms.s3
            obtain ⟨⟨m3, c3⟩, e3⟩ : ∃ z, Dk.append m2 Ms.nw b.data.toList = z := ⟨_, rfl⟩
            rw [show Dk.append (m2, c2).1 Ms.nw b.data.toList = (m3, c3) from e3]
            by_cases hc3 : c3 = 0
            · have hc3' : (c3 != 0) = false := by rw [bne_eq_false_iff_eq]; exact hc3
              rw [if_pos (show (m3, c3).2 = 0 ∨ (m3, c3).2 = 45 from .inl hc3), if_neg (not_not_intro hc3)]
              unfold Ms.s45
              obtain ⟨⟨m4, c4⟩, e4⟩ : ∃ z, Dk.sync m3 Ms.nw = z := ⟨_, rfl⟩
              rw [show Dk.sync (m3, c3).1 Ms.nw = (m4, c4) from e4]
              by_cases hc4 : c4 = 0
              · have hc4' : (c4 != 0) = false := by rw [bne_eq_false_iff_eq]; exact hc4
                rw [if_neg (not_not_intro hc4)]
                obtain ⟨⟨m5, c5⟩, e5⟩ : ∃ z, Dk.rename m4 Ms.nw Ms.nm = z := ⟨_, rfl⟩
                rw [show Dk.rename (m4, c4).1 Ms.nw Ms.nm = (m5, c5) from e5]
                exact Ms.store_t5 SS hoff HEN HB hsz ht0 e1 hc1' e2 hc2' e3 hc3' e4 hc4' e5
              · rw [if_pos hc4]
                exact Ms.store_t4 SS hoff HEN HB hsz ht0 e1 hc1' e2 hc2' e3 hc3' e4 (bne_iff_ne.2 hc4)
            · by_cases hq : c3 = 45
              · rw [if_pos (show (m3, c3).2 = 0 ∨ (m3, c3).2 = 45 from .inr hq), if_pos hc3]
                exact Ms.store_t3b SS hoff HEN HB hsz ht0 e1 hc1' e2 hc2' e3 (bne_iff_ne.2 hc3) (by rw [bne_eq_false_iff_eq]; exact hq)
              · rw [if_neg (show ¬ ((m3, c3).2 = 0 ∨ (m3, c3).2 = 45) from fun h => h.elim hc3 hq), if_pos hc3]
                obtain ⟨⟨m6, c6⟩, e6⟩ : ∃ z, Dk.delete m3 Ms.nw = z := ⟨_, rfl⟩
                rw [show Dk.delete (m3, c3).1 Ms.nw = (m6, c6) from e6]
                exact Ms.store_t3 SS hoff HEN HB hsz ht0 e1 hc1' e2 hc2' e3 (bne_iff_ne.2 hc3) (bne_iff_ne.2 hq) e6
          · rw [if_pos hc2]
            exact Ms.store_t2 SS hoff HEN HB hsz ht0 e1 hc1' e2 (bne_iff_ne.2 hc2)
        · rw [if_pos hc1]
          exact Ms.store_t1 SS hoff HEN HB hsz ht0 e1 (bne_iff_ne.2 hc1)
      · have ht0 : (t == 0) = false := by rw [beq_eq_false_iff_ne, ht]; exact h1
        rw [if_neg h1, if_neg (not_not_intro rfl)]
        unfold Ms.s2345
        obtain ⟨⟨m2, c2⟩, e2⟩ : ∃ z, Dk.create m Ms.nw = z := ⟨_, rfl⟩
        rw [show Dk.create (m, 0).1 Ms.nw = (m2, c2) from e2]
        by_cases hc2 : c2 = 0
        · rw [if_neg (not_not_intro hc2)]
          have hc2' : (c2 != 0) = false := by rw [bne_eq_false_iff_eq]; exact hc2
          unfold Ms.s345 Ms.s3
          obtain ⟨⟨m3, c3⟩, e3⟩ : ∃ z, Dk.append m2 Ms.nw b.data.toList = z := ⟨_, rfl⟩
          rw [show Dk.append (m2, c2).1 Ms.nw b.data.toList = (m3, c3) from e3]
          by_cases hc3 : c3 = 0
          · have hc3' : (c3 != 0) = false := by rw [bne_eq_false_iff_eq]; exact hc3
            rw [if_pos (show (m3, c3).2 = 0 ∨ (m3, c3).2 = 45 from .inl hc3), if_neg (not_not_intro hc3)]
            unfold Ms.s45
            obtain ⟨⟨m4, c4⟩, e4⟩ : ∃ z, Dk.sync m3 Ms.nw = z := ⟨_, rfl⟩
            rw [show Dk.sync (m3, c3).1 Ms.nw = (m4, c4) from e4]
            by_cases hc4 : c4 = 0
            · have hc4' : (c4 != 0) = false := by rw [bne_eq_false_iff_eq]; exact hc4
              rw [if_neg (not_not_intro hc4)]
              obtain ⟨⟨m5, c5⟩, e5⟩ : ∃ z, Dk.rename m4 Ms.nw Ms.nm = z := ⟨_, rfl⟩
              rw [show Dk.rename (m4, c4).1 Ms.nw Ms.nm = (m5, c5) from e5]
              exact Ms.store_n5 SS hoff HEN HB hsz ht0 e2 hc2' e3 hc3' e4 hc4' e5
            · rw [if_pos hc4]
              exact Ms.store_n4 SS hoff HEN HB hsz ht0 e2 hc2' e3 hc3' e4 (bne_iff_ne.2 hc4)
          · by_cases hq : c3 = 45
            · rw [if_pos (show (m3, c3).2 = 0 ∨ (m3, c3).2 = 45 from .inr hq), if_pos hc3]
              exact Ms.store_n3b SS hoff HEN HB hsz ht0 e2 hc2' e3 (bne_iff_ne.2 hc3) (by rw [bne_eq_false_iff_eq]; exact hq)
            · rw [if_neg (show ¬ ((m3, c3).2 = 0 ∨ (m3, c3).2 = 45) from fun h => h.elim hc3 hq), if_pos hc3]
              obtain ⟨⟨m6, c6⟩, e6⟩ : ∃ z, Dk.delete m3 Ms.nw = z := ⟨_, rfl⟩
              rw [show Dk.delete (m3, c3).1 Ms.nw = (m6, c6) from e6]
              exact Ms.store_n3 SS hoff HEN HB hsz ht0 e2 hc2' e3 (bne_iff_ne.2 hc3) (bne_iff_ne.2 hq) e6
        · rw [if_pos hc2]
          exact Ms.store_n2 SS hoff HEN HB hsz ht0 e2 (bne_iff_ne.2 hc2)
    · rw [if_neg h0]
      have hee : encV X n = .tuple #[.string ⟨#[]⟩, .int .i64 n] := by unfold encV; rw [if_neg h0]; rfl
      rw [hee] at hen
      exact Ms.store_no SS hoff (by rw [bne_iff_ne]; omega) (Lib.hid (fun hb => hen hb))
end
#print axioms Ms.store_any
end Go.Proofs.YtdhnkcfmjibibaaGreatDoor
