/- The document's disk and blocks beside it; the document's Store on it. Conditions: each theorem's own hypotheses. -/
import Derived.Test.YtdhnkcfmjibibaaGreatDoorMsB
import Derived.Test.YtdhnkcfmjibibaaGreatDoorZDrN
import Derived.Test.YtdhnkcfmjibibaaGreatDoorMfI
namespace Go.Proofs.YtdhnkcfmjibibaaGreatDoor
open Go.RowKit
set_option linter.unusedVariables false

theorem Dr.At.self {W : World} {r : Nat} {m : Dk.M} {F : Nat → Prop} (h : Dr.At W r m F) : F r := by
  obtain ⟨v, hS, rfl⟩ := h
  exact .inl rfl
def Mt.Sit (B : Nat) (W0 w : World) (d : Nat) (m : Dk.M) (K : Nat → Prop) : Prop :=
  ∃ F, Dr.At w d m F ∧ (∀ k, F k → B ≤ k) ∧ (∀ k, K k → B ≤ k ∧ k < w.heap.size ∧ ¬ F k) ∧ Dk.Good m ∧ Below B W0 w
section
variable {B d : Nat} {W0 w w' : World} {m m' : Dk.M} {K K' : Nat → Prop}
theorem Mt.Sit.good (h : Mt.Sit B W0 w d m K) : Dk.Good m := by obtain ⟨F, h1, h2, h3, h4, h5⟩ := h; exact h4
theorem Mt.Sit.below (h : Mt.Sit B W0 w d m K) : Below B W0 w := by obtain ⟨F, h1, h2, h3, h4, h5⟩ := h; exact h5
theorem Mt.Sit.size (h : Mt.Sit B W0 w d m K) : B ≤ w.heap.size := by
  obtain ⟨F, h1, h2, h3, h4, h5⟩ := h
  exact Nat.le_of_lt (Nat.lt_of_le_of_lt (h2 d h1.self) (h1.lt h1.self))
theorem Mt.Sit.sub (h : Mt.Sit B W0 w d m K) (hs : ∀ k, K' k → K k) : Mt.Sit B W0 w d m K' := by
  obtain ⟨F, h1, h2, h3, h4, h5⟩ := h
  exact ⟨F, h1, h2, fun k hk => h3 k (hs k hk), h4, h5⟩
/-- Some of the blocks beside it have changed, others have come. -/
theorem Mt.Sit.only (h : Mt.Sit B W0 w d m K) {G : Nat → Prop} (ho : Dk.Only G w w') (hG : ∀ k, G k → K k) : Mt.Sit B W0 w' d m (fun k => K k ∨ (w.heap.size ≤ k ∧ k < w'.heap.size)) := by
  have hz := h.size
  have hsz := ho.size
  obtain ⟨F, h1, h2, h3, h4, h5⟩ := h
  refine ⟨F, h1.apart ho fun k hk hg => (h3 k (hG k hg)).2.2 hk, h2, fun k hk => ?_, h4, h5.trans (ho.below hz fun k hg => (h3 k (hG k hg)).1)⟩
  rcases hk with hk | hk
  · obtain ⟨a, b, c⟩ := h3 k hk
    exact ⟨a, by omega, c⟩
  · exact ⟨by omega, hk.2, fun hf => by have := h1.lt hf; omega⟩
theorem Mt.Sit.grow (h : Mt.Sit B W0 w d m K) (hB : Below w.heap.size w w') : Mt.Sit B W0 w' d m (fun k => K k ∨ (w.heap.size ≤ k ∧ k < w'.heap.size)) :=
  h.only (G := fun _ => False) (Dk.Only.of hB) fun k hk => hk.elim
theorem Mt.Sit.later (h : Mt.Sit B W0 w d m K) (hB : Below w.heap.size w w') : Mt.Sit B W0 w' d m K := (h.grow hB).sub fun k hk => .inl hk
theorem Mt.Sit.lt (h : Mt.Sit B W0 w d m K) {k : Nat} (hk : K k) : B ≤ k ∧ k < w.heap.size := by
  obtain ⟨F, h1, h2, h3, h4, h5⟩ := h
  exact ⟨(h3 k hk).1, (h3 k hk).2.1⟩
theorem Mt.Sit.kept (h : Mt.Sit B W0 w d m K) (hB : Below w.heap.size w w') : Jl.Kept K w w' := ⟨hB.size, fun k hk => hB.block k (h.lt hk).2⟩
theorem Mt.Sit.call (h : Mt.Sit B W0 w d m K) {g : FuncId} {args : Array Value} {r : Ending} (hG : Dk.Good m')
    (f : ∀ F, Dr.At w d m F → Dk.Good m → Calls Tryz.prog g args w fun e W' => e = r ∧ Dr.Moved w W' d F m') : Calls Tryz.prog g args w fun e W' => e = r ∧ Mt.Sit B W0 W' d m' K ∧ Jl.Kept K w W' := by
  have hz := h.size
  obtain ⟨F, h1, h2, h3, h4, h5⟩ := h
  refine (f F h1 h4).mono fun e W' ⟨he, hm⟩ => ⟨he, ?_⟩
  obtain ⟨F', q1, q2, q3⟩ := hm
  have hsz := q2.size
  refine ⟨⟨F', q1, fun k hk => ?_, fun k hk => ?_, hG, h5.trans (q2.below hz h2)⟩, hsz, fun k hk => q2.block k (h3 k hk).2.1 (h3 k hk).2.2⟩
  · rcases q3 k hk with x | x
    · exact h2 k x
    · omega
  · obtain ⟨a, b, c⟩ := h3 k hk
    refine ⟨a, by omega, fun x => ?_⟩
    rcases q3 k x with y | y
    · exact c y
    · omega
theorem Mt.Sit.ask (h : Mt.Sit B W0 w d m K) {g : FuncId} {args : Array Value} {R : Ending → World → Prop} (f : ∀ F, Dr.At w d m F → Dk.Good m → Calls Tryz.prog g args w R) : Calls Tryz.prog g args w R := by
  obtain ⟨F, h1, h2, h3, h4, h5⟩ := h
  exact f F h1 h4
end
section
variable {B d : Nat} {W0 w : World} {m m' : Dk.M} {K : Nat → Prop} {c : Int}
theorem Mt.delete_at (S : Mt.Sit B W0 w d m K) (e : Dk.delete m Ms.nw = (m', c)) : Calls Tryz.prog 33 #[.pointer (some ⟨d, 0, none⟩), .string ⟨#[109, 97, 110, 105, 102, 101, 115, 116, 46, 110, 101, 119]⟩] w fun r w' => r = .returned (.int .i64 c) ∧ Mt.Sit B W0 w' d m' K ∧ Jl.Kept K w w' := by
  have hG := Dk.delete_good S.good Ms.nw
  rw [e] at hG
  refine S.call hG fun F hA hG' => ?_
  have := Dr.delete_any hA hG' ⟨#[109, 97, 110, 105, 102, 101, 115, 116, 46, 110, 101, 119]⟩ (by decide)
  rw [show (Dk.delete m (⟨#[109, 97, 110, 105, 102, 101, 115, 116, 46, 110, 101, 119]⟩ : ByteArray).data.toList) = (m', c) from e] at this
  exact this
theorem Mt.create_at (S : Mt.Sit B W0 w d m K) (e : Dk.create m Ms.nw = (m', c)) : Calls Tryz.prog 34 #[.pointer (some ⟨d, 0, none⟩), .string ⟨#[109, 97, 110, 105, 102, 101, 115, 116, 46, 110, 101, 119]⟩] w fun r w' => r = .returned (.int .i64 c) ∧ Mt.Sit B W0 w' d m' K ∧ Jl.Kept K w w' := by
  have hG := Ms.create_good S.good Ms.nw
  rw [e] at hG
  refine S.call hG fun F hA hG' => ?_
  have := Dr.create_any hA hG' ⟨#[109, 97, 110, 105, 102, 101, 115, 116, 46, 110, 101, 119]⟩ (by decide)
  rw [show (Dk.create m (⟨#[109, 97, 110, 105, 102, 101, 115, 116, 46, 110, 101, 119]⟩ : ByteArray).data.toList) = (m', c) from e] at this
  exact this
theorem Mt.append_at {b : ByteArray} (hb : b.size ≤ 140737488355328) (S : Mt.Sit B W0 w d m K) (e : Dk.append m Ms.nw b.data.toList = (m', c)) : Calls Tryz.prog 35 #[.pointer (some ⟨d, 0, none⟩), .string ⟨#[109, 97, 110, 105, 102, 101, 115, 116, 46, 110, 101, 119]⟩, .string b] w fun r w' => r = .returned (.int .i64 c) ∧ Mt.Sit B W0 w' d m' K ∧ Jl.Kept K w w' := by
  have hG := Dk.append_good S.good Ms.nw b.data.toList
  rw [e] at hG
  refine S.call hG fun F hA hG' => ?_
  have := Dr.append_any hA hG' ⟨#[109, 97, 110, 105, 102, 101, 115, 116, 46, 110, 101, 119]⟩ b (by decide) hb
  rw [show (Dk.append m (⟨#[109, 97, 110, 105, 102, 101, 115, 116, 46, 110, 101, 119]⟩ : ByteArray).data.toList b.data.toList) = (m', c) from e] at this
  exact this
theorem Mt.sync_at (S : Mt.Sit B W0 w d m K) (e : Dk.sync m Ms.nw = (m', c)) : Calls Tryz.prog 36 #[.pointer (some ⟨d, 0, none⟩), .string ⟨#[109, 97, 110, 105, 102, 101, 115, 116, 46, 110, 101, 119]⟩] w fun r w' => r = .returned (.int .i64 c) ∧ Mt.Sit B W0 w' d m' K ∧ Jl.Kept K w w' := by
  have hG := Dk.sync_good S.good Ms.nw
  rw [e] at hG
  refine S.call hG fun F hA hG' => ?_
  have := Dr.sync_any hA hG' ⟨#[109, 97, 110, 105, 102, 101, 115, 116, 46, 110, 101, 119]⟩ (by decide)
  rw [show (Dk.sync m (⟨#[109, 97, 110, 105, 102, 101, 115, 116, 46, 110, 101, 119]⟩ : ByteArray).data.toList) = (m', c) from e] at this
  exact this
theorem Mt.rename_at (S : Mt.Sit B W0 w d m K) (e : Dk.rename m Ms.nw Ms.nm = (m', c)) : Calls Tryz.prog 37 #[.pointer (some ⟨d, 0, none⟩), .string ⟨#[109, 97, 110, 105, 102, 101, 115, 116, 46, 110, 101, 119]⟩, .string ⟨#[109, 97, 110, 105, 102, 101, 115, 116]⟩] w fun r w' => r = .returned (.int .i64 c) ∧ Mt.Sit B W0 w' d m' K ∧ Jl.Kept K w w' := by
  have hG := Dk.rename_good S.good Ms.nw Ms.nm
  rw [e] at hG
  refine S.call hG fun F hA hG' => ?_
  have := Dr.rename_any hA hG' ⟨#[109, 97, 110, 105, 102, 101, 115, 116, 46, 110, 101, 119]⟩ ⟨#[109, 97, 110, 105, 102, 101, 115, 116]⟩ (by decide) (by decide)
  rw [show (Dk.rename m (⟨#[109, 97, 110, 105, 102, 101, 115, 116, 46, 110, 101, 119]⟩ : ByteArray).data.toList (⟨#[109, 97, 110, 105, 102, 101, 115, 116]⟩ : ByteArray).data.toList) = (m', c) from e] at this
  exact this
theorem Mt.size_at (S : Mt.Sit B W0 w d m K) (nb : ByteArray) (hn : nb.size ≤ 1000) : Calls Tryz.prog 32 #[.pointer (some ⟨d, 0, none⟩), .string nb] w fun r w' => r = .returned (Dk.sizeV m nb.data.toList) ∧ w = w' := S.ask fun F hA hG => Dr.size_any hA hG.many nb (by omega)
theorem Mt.down_at (S : Mt.Sit B W0 w d m K) : Calls Tryz.prog 22 #[.pointer (some ⟨d, 0, none⟩)] w fun r w' => r = .returned (.bool m.off) ∧ w = w' := S.ask fun F hA hG => Dr.down_any hA
set_option maxRecDepth 100000 in
set_option maxHeartbeats 2000000 in
theorem Mt.store_t1 {m1 : Dk.M} {c1 t l : Int} {X : Man} {A : Option Addr} {cap : Nat} {b : ByteArray} (SS : Mt.Sit B W0 w d m K) (hoff : m.off = false)
    (HEN : Hid (∀ {x : World}, Below w.heap.size w x → Calls Tryz.prog 31 #[.agg #[.int .i64 X.w, .int .i64 X.c, .int .i64 X.m, .int .i64 X.seq, .int .i64 X.next, .int .i64 X.jr, .slice A X.runs.length cap]] x fun e w' => e = .returned (.tuple #[.string b, .int .i64 0]) ∧ Below x.heap.size x w')) (HB : Hid (b.size ≤ 140737488355328))
    (hsz : Dk.sizeV m (⟨#[109, 97, 110, 105, 102, 101, 115, 116, 46, 110, 101, 119]⟩ : ByteArray).data.toList = .tuple #[.int .i64 l, .int .i64 t]) (ht : (t == 0) = true) (e1 : Dk.delete m Ms.nw = (m1, c1)) (hc1 : (c1 != 0) = true) :
    Calls Tryz.prog 10 #[.pointer (some ⟨d, 0, none⟩), .agg #[.int .i64 X.w, .int .i64 X.c, .int .i64 X.m, .int .i64 X.seq, .int .i64 X.next, .int .i64 X.jr, .slice A X.runs.length cap]] w fun e w' => e = .returned (.int .i64 c1) ∧ Mt.Sit B W0 w' d m1 K ∧ Jl.Kept K w w' := by
  have hA : Below w.heap.size w (w.alloc (.cells #[.int .i64 X.w, .int .i64 X.c, .int .i64 X.m, .int .i64 X.seq, .int .i64 X.next, .int .i64 X.jr, .slice A X.runs.length cap] 31)) := (Below.refl _ _).alloc (Nat.le_refl _) _
  have KK := SS.kept hA
  replace SS := SS.later hA
  go_enter Tryz.func10, Tryz.ntmps10
  go_wp2_with (first
    | (go_at_call 22; refine (Mt.down_at SS).mono ?_; rintro e x ⟨rfl, hx⟩; rw [hoff]; subst hx)
    | (go_at_call 31; refine (HEN.out hA).mono ?_; rintro e x ⟨rfl, b⟩; replace KK := KK.trans2' (SS.kept b); replace SS := SS.later b; clear b)
    | (go_at_call 32; refine (Mt.size_at SS ⟨#[109, 97, 110, 105, 102, 101, 115, 116, 46, 110, 101, 119]⟩ (by decide)).mono ?_; rintro e x ⟨rfl, hx⟩; rw [hsz]; subst hx)
    | (go_at_call 33; refine (Mt.delete_at SS e6).mono ?_; rintro e x ⟨rfl, S', q⟩; replace KK := KK.trans2' q; replace SS := S'; clear S' q)
    | (go_at_call 33; refine (Mt.delete_at SS e1).mono ?_; rintro e x ⟨rfl, S', q⟩; replace KK := KK.trans2' q; replace SS := S'; clear S' q)
    | (go_at_call 34; refine (Mt.create_at SS e2).mono ?_; rintro e x ⟨rfl, S', q⟩; replace KK := KK.trans2' q; replace SS := S'; clear S' q)
    | (go_at_call 35; refine (Mt.append_at HB.out SS e3).mono ?_; rintro e x ⟨rfl, S', q⟩; replace KK := KK.trans2' q; replace SS := S'; clear S' q)
    | (go_at_call 36; refine (Mt.sync_at SS e4).mono ?_; rintro e x ⟨rfl, S', q⟩; replace KK := KK.trans2' q; replace SS := S'; clear S' q)
    | (go_at_call 37; refine (Mt.rename_at SS e5).mono ?_; rintro e x ⟨rfl, S', q⟩; replace KK := KK.trans2' q; replace SS := S'; clear S' q))
  go_ret
  exact ⟨rfl, SS, KK⟩
set_option maxRecDepth 100000 in
set_option maxHeartbeats 2000000 in
theorem Mt.store_n2 {m2 : Dk.M} {c2 t l : Int} {X : Man} {A : Option Addr} {cap : Nat} {b : ByteArray} (SS : Mt.Sit B W0 w d m K) (hoff : m.off = false)
    (HEN : Hid (∀ {x : World}, Below w.heap.size w x → Calls Tryz.prog 31 #[.agg #[.int .i64 X.w, .int .i64 X.c, .int .i64 X.m, .int .i64 X.seq, .int .i64 X.next, .int .i64 X.jr, .slice A X.runs.length cap]] x fun e w' => e = .returned (.tuple #[.string b, .int .i64 0]) ∧ Below x.heap.size x w')) (HB : Hid (b.size ≤ 140737488355328))
    (hsz : Dk.sizeV m (⟨#[109, 97, 110, 105, 102, 101, 115, 116, 46, 110, 101, 119]⟩ : ByteArray).data.toList = .tuple #[.int .i64 l, .int .i64 t]) (ht : (t == 0) = false) (e2 : Dk.create m Ms.nw = (m2, c2)) (hc2 : (c2 != 0) = true) :
    Calls Tryz.prog 10 #[.pointer (some ⟨d, 0, none⟩), .agg #[.int .i64 X.w, .int .i64 X.c, .int .i64 X.m, .int .i64 X.seq, .int .i64 X.next, .int .i64 X.jr, .slice A X.runs.length cap]] w fun e w' => e = .returned (.int .i64 c2) ∧ Mt.Sit B W0 w' d m2 K ∧ Jl.Kept K w w' := by
  have hA : Below w.heap.size w (w.alloc (.cells #[.int .i64 X.w, .int .i64 X.c, .int .i64 X.m, .int .i64 X.seq, .int .i64 X.next, .int .i64 X.jr, .slice A X.runs.length cap] 31)) := (Below.refl _ _).alloc (Nat.le_refl _) _
  have KK := SS.kept hA
  replace SS := SS.later hA
  go_enter Tryz.func10, Tryz.ntmps10
  go_wp2_with (first
    | (go_at_call 22; refine (Mt.down_at SS).mono ?_; rintro e x ⟨rfl, hx⟩; rw [hoff]; subst hx)
    | (go_at_call 31; refine (HEN.out hA).mono ?_; rintro e x ⟨rfl, b⟩; replace KK := KK.trans2' (SS.kept b); replace SS := SS.later b; clear b)
    | (go_at_call 32; refine (Mt.size_at SS ⟨#[109, 97, 110, 105, 102, 101, 115, 116, 46, 110, 101, 119]⟩ (by decide)).mono ?_; rintro e x ⟨rfl, hx⟩; rw [hsz]; subst hx)
    | (go_at_call 33; refine (Mt.delete_at SS e6).mono ?_; rintro e x ⟨rfl, S', q⟩; replace KK := KK.trans2' q; replace SS := S'; clear S' q)
    | (go_at_call 33; refine (Mt.delete_at SS e1).mono ?_; rintro e x ⟨rfl, S', q⟩; replace KK := KK.trans2' q; replace SS := S'; clear S' q)
    | (go_at_call 34; refine (Mt.create_at SS e2).mono ?_; rintro e x ⟨rfl, S', q⟩; replace KK := KK.trans2' q; replace SS := S'; clear S' q)
    | (go_at_call 35; refine (Mt.append_at HB.out SS e3).mono ?_; rintro e x ⟨rfl, S', q⟩; replace KK := KK.trans2' q; replace SS := S'; clear S' q)
    | (go_at_call 36; refine (Mt.sync_at SS e4).mono ?_; rintro e x ⟨rfl, S', q⟩; replace KK := KK.trans2' q; replace SS := S'; clear S' q)
    | (go_at_call 37; refine (Mt.rename_at SS e5).mono ?_; rintro e x ⟨rfl, S', q⟩; replace KK := KK.trans2' q; replace SS := S'; clear S' q))
  go_ret
  exact ⟨rfl, SS, KK⟩
set_option maxRecDepth 100000 in
set_option maxHeartbeats 2000000 in
theorem Mt.store_n3 {m2 m3 m6 : Dk.M} {c2 c3 c6 t l : Int} {X : Man} {A : Option Addr} {cap : Nat} {b : ByteArray} (SS : Mt.Sit B W0 w d m K) (hoff : m.off = false)
    (HEN : Hid (∀ {x : World}, Below w.heap.size w x → Calls Tryz.prog 31 #[.agg #[.int .i64 X.w, .int .i64 X.c, .int .i64 X.m, .int .i64 X.seq, .int .i64 X.next, .int .i64 X.jr, .slice A X.runs.length cap]] x fun e w' => e = .returned (.tuple #[.string b, .int .i64 0]) ∧ Below x.heap.size x w')) (HB : Hid (b.size ≤ 140737488355328))
    (hsz : Dk.sizeV m (⟨#[109, 97, 110, 105, 102, 101, 115, 116, 46, 110, 101, 119]⟩ : ByteArray).data.toList = .tuple #[.int .i64 l, .int .i64 t]) (ht : (t == 0) = false) (e2 : Dk.create m Ms.nw = (m2, c2)) (hc2 : (c2 != 0) = false) (e3 : Dk.append m2 Ms.nw b.data.toList = (m3, c3)) (hc3 : (c3 != 0) = true) (hq : (c3 != 45) = true) (e6 : Dk.delete m3 Ms.nw = (m6, c6)) :
    Calls Tryz.prog 10 #[.pointer (some ⟨d, 0, none⟩), .agg #[.int .i64 X.w, .int .i64 X.c, .int .i64 X.m, .int .i64 X.seq, .int .i64 X.next, .int .i64 X.jr, .slice A X.runs.length cap]] w fun e w' => e = .returned (.int .i64 c3) ∧ Mt.Sit B W0 w' d m6 K ∧ Jl.Kept K w w' := by
  have hA : Below w.heap.size w (w.alloc (.cells #[.int .i64 X.w, .int .i64 X.c, .int .i64 X.m, .int .i64 X.seq, .int .i64 X.next, .int .i64 X.jr, .slice A X.runs.length cap] 31)) := (Below.refl _ _).alloc (Nat.le_refl _) _
  have KK := SS.kept hA
  replace SS := SS.later hA
  go_enter Tryz.func10, Tryz.ntmps10
  go_wp2_with (first
    | (go_at_call 22; refine (Mt.down_at SS).mono ?_; rintro e x ⟨rfl, hx⟩; rw [hoff]; subst hx)
    | (go_at_call 31; refine (HEN.out hA).mono ?_; rintro e x ⟨rfl, b⟩; replace KK := KK.trans2' (SS.kept b); replace SS := SS.later b; clear b)
    | (go_at_call 32; refine (Mt.size_at SS ⟨#[109, 97, 110, 105, 102, 101, 115, 116, 46, 110, 101, 119]⟩ (by decide)).mono ?_; rintro e x ⟨rfl, hx⟩; rw [hsz]; subst hx)
    | (go_at_call 33; refine (Mt.delete_at SS e6).mono ?_; rintro e x ⟨rfl, S', q⟩; replace KK := KK.trans2' q; replace SS := S'; clear S' q)
    | (go_at_call 33; refine (Mt.delete_at SS e1).mono ?_; rintro e x ⟨rfl, S', q⟩; replace KK := KK.trans2' q; replace SS := S'; clear S' q)
    | (go_at_call 34; refine (Mt.create_at SS e2).mono ?_; rintro e x ⟨rfl, S', q⟩; replace KK := KK.trans2' q; replace SS := S'; clear S' q)
    | (go_at_call 35; refine (Mt.append_at HB.out SS e3).mono ?_; rintro e x ⟨rfl, S', q⟩; replace KK := KK.trans2' q; replace SS := S'; clear S' q)
    | (go_at_call 36; refine (Mt.sync_at SS e4).mono ?_; rintro e x ⟨rfl, S', q⟩; replace KK := KK.trans2' q; replace SS := S'; clear S' q)
    | (go_at_call 37; refine (Mt.rename_at SS e5).mono ?_; rintro e x ⟨rfl, S', q⟩; replace KK := KK.trans2' q; replace SS := S'; clear S' q))
  go_ret
  exact ⟨rfl, SS, KK⟩
set_option maxRecDepth 100000 in
set_option maxHeartbeats 2000000 in
theorem Mt.store_n3b {m2 m3 : Dk.M} {c2 c3 t l : Int} {X : Man} {A : Option Addr} {cap : Nat} {b : ByteArray} (SS : Mt.Sit B W0 w d m K) (hoff : m.off = false)
    (HEN : Hid (∀ {x : World}, Below w.heap.size w x → Calls Tryz.prog 31 #[.agg #[.int .i64 X.w, .int .i64 X.c, .int .i64 X.m, .int .i64 X.seq, .int .i64 X.next, .int .i64 X.jr, .slice A X.runs.length cap]] x fun e w' => e = .returned (.tuple #[.string b, .int .i64 0]) ∧ Below x.heap.size x w')) (HB : Hid (b.size ≤ 140737488355328))
    (hsz : Dk.sizeV m (⟨#[109, 97, 110, 105, 102, 101, 115, 116, 46, 110, 101, 119]⟩ : ByteArray).data.toList = .tuple #[.int .i64 l, .int .i64 t]) (ht : (t == 0) = false) (e2 : Dk.create m Ms.nw = (m2, c2)) (hc2 : (c2 != 0) = false) (e3 : Dk.append m2 Ms.nw b.data.toList = (m3, c3)) (hc3 : (c3 != 0) = true) (hq : (c3 != 45) = false) :
    Calls Tryz.prog 10 #[.pointer (some ⟨d, 0, none⟩), .agg #[.int .i64 X.w, .int .i64 X.c, .int .i64 X.m, .int .i64 X.seq, .int .i64 X.next, .int .i64 X.jr, .slice A X.runs.length cap]] w fun e w' => e = .returned (.int .i64 c3) ∧ Mt.Sit B W0 w' d m3 K ∧ Jl.Kept K w w' := by
  have hA : Below w.heap.size w (w.alloc (.cells #[.int .i64 X.w, .int .i64 X.c, .int .i64 X.m, .int .i64 X.seq, .int .i64 X.next, .int .i64 X.jr, .slice A X.runs.length cap] 31)) := (Below.refl _ _).alloc (Nat.le_refl _) _
  have KK := SS.kept hA
  replace SS := SS.later hA
  go_enter Tryz.func10, Tryz.ntmps10
  go_wp2_with (first
    | (go_at_call 22; refine (Mt.down_at SS).mono ?_; rintro e x ⟨rfl, hx⟩; rw [hoff]; subst hx)
    | (go_at_call 31; refine (HEN.out hA).mono ?_; rintro e x ⟨rfl, b⟩; replace KK := KK.trans2' (SS.kept b); replace SS := SS.later b; clear b)
    | (go_at_call 32; refine (Mt.size_at SS ⟨#[109, 97, 110, 105, 102, 101, 115, 116, 46, 110, 101, 119]⟩ (by decide)).mono ?_; rintro e x ⟨rfl, hx⟩; rw [hsz]; subst hx)
    | (go_at_call 33; refine (Mt.delete_at SS e6).mono ?_; rintro e x ⟨rfl, S', q⟩; replace KK := KK.trans2' q; replace SS := S'; clear S' q)
    | (go_at_call 33; refine (Mt.delete_at SS e1).mono ?_; rintro e x ⟨rfl, S', q⟩; replace KK := KK.trans2' q; replace SS := S'; clear S' q)
    | (go_at_call 34; refine (Mt.create_at SS e2).mono ?_; rintro e x ⟨rfl, S', q⟩; replace KK := KK.trans2' q; replace SS := S'; clear S' q)
    | (go_at_call 35; refine (Mt.append_at HB.out SS e3).mono ?_; rintro e x ⟨rfl, S', q⟩; replace KK := KK.trans2' q; replace SS := S'; clear S' q)
    | (go_at_call 36; refine (Mt.sync_at SS e4).mono ?_; rintro e x ⟨rfl, S', q⟩; replace KK := KK.trans2' q; replace SS := S'; clear S' q)
    | (go_at_call 37; refine (Mt.rename_at SS e5).mono ?_; rintro e x ⟨rfl, S', q⟩; replace KK := KK.trans2' q; replace SS := S'; clear S' q))
  go_ret
  exact ⟨rfl, SS, KK⟩
set_option maxRecDepth 100000 in
set_option maxHeartbeats 2000000 in
theorem Mt.store_n4 {m2 m3 m4 : Dk.M} {c2 c3 c4 t l : Int} {X : Man} {A : Option Addr} {cap : Nat} {b : ByteArray} (SS : Mt.Sit B W0 w d m K) (hoff : m.off = false)
    (HEN : Hid (∀ {x : World}, Below w.heap.size w x → Calls Tryz.prog 31 #[.agg #[.int .i64 X.w, .int .i64 X.c, .int .i64 X.m, .int .i64 X.seq, .int .i64 X.next, .int .i64 X.jr, .slice A X.runs.length cap]] x fun e w' => e = .returned (.tuple #[.string b, .int .i64 0]) ∧ Below x.heap.size x w')) (HB : Hid (b.size ≤ 140737488355328))
    (hsz : Dk.sizeV m (⟨#[109, 97, 110, 105, 102, 101, 115, 116, 46, 110, 101, 119]⟩ : ByteArray).data.toList = .tuple #[.int .i64 l, .int .i64 t]) (ht : (t == 0) = false) (e2 : Dk.create m Ms.nw = (m2, c2)) (hc2 : (c2 != 0) = false) (e3 : Dk.append m2 Ms.nw b.data.toList = (m3, c3)) (hc3 : (c3 != 0) = false) (e4 : Dk.sync m3 Ms.nw = (m4, c4)) (hc4 : (c4 != 0) = true) :
    Calls Tryz.prog 10 #[.pointer (some ⟨d, 0, none⟩), .agg #[.int .i64 X.w, .int .i64 X.c, .int .i64 X.m, .int .i64 X.seq, .int .i64 X.next, .int .i64 X.jr, .slice A X.runs.length cap]] w fun e w' => e = .returned (.int .i64 c4) ∧ Mt.Sit B W0 w' d m4 K ∧ Jl.Kept K w w' := by
  have hA : Below w.heap.size w (w.alloc (.cells #[.int .i64 X.w, .int .i64 X.c, .int .i64 X.m, .int .i64 X.seq, .int .i64 X.next, .int .i64 X.jr, .slice A X.runs.length cap] 31)) := (Below.refl _ _).alloc (Nat.le_refl _) _
  have KK := SS.kept hA
  replace SS := SS.later hA
  go_enter Tryz.func10, Tryz.ntmps10
  go_wp2_with (first
    | (go_at_call 22; refine (Mt.down_at SS).mono ?_; rintro e x ⟨rfl, hx⟩; rw [hoff]; subst hx)
    | (go_at_call 31; refine (HEN.out hA).mono ?_; rintro e x ⟨rfl, b⟩; replace KK := KK.trans2' (SS.kept b); replace SS := SS.later b; clear b)
    | (go_at_call 32; refine (Mt.size_at SS ⟨#[109, 97, 110, 105, 102, 101, 115, 116, 46, 110, 101, 119]⟩ (by decide)).mono ?_; rintro e x ⟨rfl, hx⟩; rw [hsz]; subst hx)
    | (go_at_call 33; refine (Mt.delete_at SS e6).mono ?_; rintro e x ⟨rfl, S', q⟩; replace KK := KK.trans2' q; replace SS := S'; clear S' q)
    | (go_at_call 33; refine (Mt.delete_at SS e1).mono ?_; rintro e x ⟨rfl, S', q⟩; replace KK := KK.trans2' q; replace SS := S'; clear S' q)
    | (go_at_call 34; refine (Mt.create_at SS e2).mono ?_; rintro e x ⟨rfl, S', q⟩; replace KK := KK.trans2' q; replace SS := S'; clear S' q)
    | (go_at_call 35; refine (Mt.append_at HB.out SS e3).mono ?_; rintro e x ⟨rfl, S', q⟩; replace KK := KK.trans2' q; replace SS := S'; clear S' q)
    | (go_at_call 36; refine (Mt.sync_at SS e4).mono ?_; rintro e x ⟨rfl, S', q⟩; replace KK := KK.trans2' q; replace SS := S'; clear S' q)
    | (go_at_call 37; refine (Mt.rename_at SS e5).mono ?_; rintro e x ⟨rfl, S', q⟩; replace KK := KK.trans2' q; replace SS := S'; clear S' q))
  go_ret
  exact ⟨rfl, SS, KK⟩
set_option maxRecDepth 100000 in
set_option maxHeartbeats 2000000 in
theorem Mt.store_n5 {m2 m3 m4 m5 : Dk.M} {c2 c3 c4 c5 t l : Int} {X : Man} {A : Option Addr} {cap : Nat} {b : ByteArray} (SS : Mt.Sit B W0 w d m K) (hoff : m.off = false)
    (HEN : Hid (∀ {x : World}, Below w.heap.size w x → Calls Tryz.prog 31 #[.agg #[.int .i64 X.w, .int .i64 X.c, .int .i64 X.m, .int .i64 X.seq, .int .i64 X.next, .int .i64 X.jr, .slice A X.runs.length cap]] x fun e w' => e = .returned (.tuple #[.string b, .int .i64 0]) ∧ Below x.heap.size x w')) (HB : Hid (b.size ≤ 140737488355328))
    (hsz : Dk.sizeV m (⟨#[109, 97, 110, 105, 102, 101, 115, 116, 46, 110, 101, 119]⟩ : ByteArray).data.toList = .tuple #[.int .i64 l, .int .i64 t]) (ht : (t == 0) = false) (e2 : Dk.create m Ms.nw = (m2, c2)) (hc2 : (c2 != 0) = false) (e3 : Dk.append m2 Ms.nw b.data.toList = (m3, c3)) (hc3 : (c3 != 0) = false) (e4 : Dk.sync m3 Ms.nw = (m4, c4)) (hc4 : (c4 != 0) = false) (e5 : Dk.rename m4 Ms.nw Ms.nm = (m5, c5)) :
    Calls Tryz.prog 10 #[.pointer (some ⟨d, 0, none⟩), .agg #[.int .i64 X.w, .int .i64 X.c, .int .i64 X.m, .int .i64 X.seq, .int .i64 X.next, .int .i64 X.jr, .slice A X.runs.length cap]] w fun e w' => e = .returned (.int .i64 c5) ∧ Mt.Sit B W0 w' d m5 K ∧ Jl.Kept K w w' := by
  have hA : Below w.heap.size w (w.alloc (.cells #[.int .i64 X.w, .int .i64 X.c, .int .i64 X.m, .int .i64 X.seq, .int .i64 X.next, .int .i64 X.jr, .slice A X.runs.length cap] 31)) := (Below.refl _ _).alloc (Nat.le_refl _) _
  have KK := SS.kept hA
  replace SS := SS.later hA
  go_enter Tryz.func10, Tryz.ntmps10
  go_wp2_with (first
    | (go_at_call 22; refine (Mt.down_at SS).mono ?_; rintro e x ⟨rfl, hx⟩; rw [hoff]; subst hx)
    | (go_at_call 31; refine (HEN.out hA).mono ?_; rintro e x ⟨rfl, b⟩; replace KK := KK.trans2' (SS.kept b); replace SS := SS.later b; clear b)
    | (go_at_call 32; refine (Mt.size_at SS ⟨#[109, 97, 110, 105, 102, 101, 115, 116, 46, 110, 101, 119]⟩ (by decide)).mono ?_; rintro e x ⟨rfl, hx⟩; rw [hsz]; subst hx)
    | (go_at_call 33; refine (Mt.delete_at SS e6).mono ?_; rintro e x ⟨rfl, S', q⟩; replace KK := KK.trans2' q; replace SS := S'; clear S' q)
    | (go_at_call 33; refine (Mt.delete_at SS e1).mono ?_; rintro e x ⟨rfl, S', q⟩; replace KK := KK.trans2' q; replace SS := S'; clear S' q)
    | (go_at_call 34; refine (Mt.create_at SS e2).mono ?_; rintro e x ⟨rfl, S', q⟩; replace KK := KK.trans2' q; replace SS := S'; clear S' q)
    | (go_at_call 35; refine (Mt.append_at HB.out SS e3).mono ?_; rintro e x ⟨rfl, S', q⟩; replace KK := KK.trans2' q; replace SS := S'; clear S' q)
    | (go_at_call 36; refine (Mt.sync_at SS e4).mono ?_; rintro e x ⟨rfl, S', q⟩; replace KK := KK.trans2' q; replace SS := S'; clear S' q)
    | (go_at_call 37; refine (Mt.rename_at SS e5).mono ?_; rintro e x ⟨rfl, S', q⟩; replace KK := KK.trans2' q; replace SS := S'; clear S' q))
  go_ret
  exact ⟨rfl, SS, KK⟩
set_option maxRecDepth 100000 in
set_option maxHeartbeats 2000000 in
theorem Mt.store_t2 {m1 m2 : Dk.M} {c1 c2 t l : Int} {X : Man} {A : Option Addr} {cap : Nat} {b : ByteArray} (SS : Mt.Sit B W0 w d m K) (hoff : m.off = false)
    (HEN : Hid (∀ {x : World}, Below w.heap.size w x → Calls Tryz.prog 31 #[.agg #[.int .i64 X.w, .int .i64 X.c, .int .i64 X.m, .int .i64 X.seq, .int .i64 X.next, .int .i64 X.jr, .slice A X.runs.length cap]] x fun e w' => e = .returned (.tuple #[.string b, .int .i64 0]) ∧ Below x.heap.size x w')) (HB : Hid (b.size ≤ 140737488355328))
    (hsz : Dk.sizeV m (⟨#[109, 97, 110, 105, 102, 101, 115, 116, 46, 110, 101, 119]⟩ : ByteArray).data.toList = .tuple #[.int .i64 l, .int .i64 t]) (ht : (t == 0) = true) (e1 : Dk.delete m Ms.nw = (m1, c1)) (hc1 : (c1 != 0) = false) (e2 : Dk.create m1 Ms.nw = (m2, c2)) (hc2 : (c2 != 0) = true) :
    Calls Tryz.prog 10 #[.pointer (some ⟨d, 0, none⟩), .agg #[.int .i64 X.w, .int .i64 X.c, .int .i64 X.m, .int .i64 X.seq, .int .i64 X.next, .int .i64 X.jr, .slice A X.runs.length cap]] w fun e w' => e = .returned (.int .i64 c2) ∧ Mt.Sit B W0 w' d m2 K ∧ Jl.Kept K w w' := by
  have hA : Below w.heap.size w (w.alloc (.cells #[.int .i64 X.w, .int .i64 X.c, .int .i64 X.m, .int .i64 X.seq, .int .i64 X.next, .int .i64 X.jr, .slice A X.runs.length cap] 31)) := (Below.refl _ _).alloc (Nat.le_refl _) _
  have KK := SS.kept hA
  replace SS := SS.later hA
  go_enter Tryz.func10, Tryz.ntmps10
  go_wp2_with (first
    | (go_at_call 22; refine (Mt.down_at SS).mono ?_; rintro e x ⟨rfl, hx⟩; rw [hoff]; subst hx)
    | (go_at_call 31; refine (HEN.out hA).mono ?_; rintro e x ⟨rfl, b⟩; replace KK := KK.trans2' (SS.kept b); replace SS := SS.later b; clear b)
    | (go_at_call 32; refine (Mt.size_at SS ⟨#[109, 97, 110, 105, 102, 101, 115, 116, 46, 110, 101, 119]⟩ (by decide)).mono ?_; rintro e x ⟨rfl, hx⟩; rw [hsz]; subst hx)
    | (go_at_call 33; refine (Mt.delete_at SS e6).mono ?_; rintro e x ⟨rfl, S', q⟩; replace KK := KK.trans2' q; replace SS := S'; clear S' q)
    | (go_at_call 33; refine (Mt.delete_at SS e1).mono ?_; rintro e x ⟨rfl, S', q⟩; replace KK := KK.trans2' q; replace SS := S'; clear S' q)
    | (go_at_call 34; refine (Mt.create_at SS e2).mono ?_; rintro e x ⟨rfl, S', q⟩; replace KK := KK.trans2' q; replace SS := S'; clear S' q)
    | (go_at_call 35; refine (Mt.append_at HB.out SS e3).mono ?_; rintro e x ⟨rfl, S', q⟩; replace KK := KK.trans2' q; replace SS := S'; clear S' q)
    | (go_at_call 36; refine (Mt.sync_at SS e4).mono ?_; rintro e x ⟨rfl, S', q⟩; replace KK := KK.trans2' q; replace SS := S'; clear S' q)
    | (go_at_call 37; refine (Mt.rename_at SS e5).mono ?_; rintro e x ⟨rfl, S', q⟩; replace KK := KK.trans2' q; replace SS := S'; clear S' q))
  go_ret
  exact ⟨rfl, SS, KK⟩
set_option maxRecDepth 100000 in
set_option maxHeartbeats 2000000 in
theorem Mt.store_t3 {m1 m2 m3 m6 : Dk.M} {c1 c2 c3 c6 t l : Int} {X : Man} {A : Option Addr} {cap : Nat} {b : ByteArray} (SS : Mt.Sit B W0 w d m K) (hoff : m.off = false)
    (HEN : Hid (∀ {x : World}, Below w.heap.size w x → Calls Tryz.prog 31 #[.agg #[.int .i64 X.w, .int .i64 X.c, .int .i64 X.m, .int .i64 X.seq, .int .i64 X.next, .int .i64 X.jr, .slice A X.runs.length cap]] x fun e w' => e = .returned (.tuple #[.string b, .int .i64 0]) ∧ Below x.heap.size x w')) (HB : Hid (b.size ≤ 140737488355328))
    (hsz : Dk.sizeV m (⟨#[109, 97, 110, 105, 102, 101, 115, 116, 46, 110, 101, 119]⟩ : ByteArray).data.toList = .tuple #[.int .i64 l, .int .i64 t]) (ht : (t == 0) = true) (e1 : Dk.delete m Ms.nw = (m1, c1)) (hc1 : (c1 != 0) = false) (e2 : Dk.create m1 Ms.nw = (m2, c2)) (hc2 : (c2 != 0) = false) (e3 : Dk.append m2 Ms.nw b.data.toList = (m3, c3)) (hc3 : (c3 != 0) = true) (hq : (c3 != 45) = true) (e6 : Dk.delete m3 Ms.nw = (m6, c6)) :
    Calls Tryz.prog 10 #[.pointer (some ⟨d, 0, none⟩), .agg #[.int .i64 X.w, .int .i64 X.c, .int .i64 X.m, .int .i64 X.seq, .int .i64 X.next, .int .i64 X.jr, .slice A X.runs.length cap]] w fun e w' => e = .returned (.int .i64 c3) ∧ Mt.Sit B W0 w' d m6 K ∧ Jl.Kept K w w' := by
  have hA : Below w.heap.size w (w.alloc (.cells #[.int .i64 X.w, .int .i64 X.c, .int .i64 X.m, .int .i64 X.seq, .int .i64 X.next, .int .i64 X.jr, .slice A X.runs.length cap] 31)) := (Below.refl _ _).alloc (Nat.le_refl _) _
  have KK := SS.kept hA
  replace SS := SS.later hA
  go_enter Tryz.func10, Tryz.ntmps10
  go_wp2_with (first
    | (go_at_call 22; refine (Mt.down_at SS).mono ?_; rintro e x ⟨rfl, hx⟩; rw [hoff]; subst hx)
    | (go_at_call 31; refine (HEN.out hA).mono ?_; rintro e x ⟨rfl, b⟩; replace KK := KK.trans2' (SS.kept b); replace SS := SS.later b; clear b)
    | (go_at_call 32; refine (Mt.size_at SS ⟨#[109, 97, 110, 105, 102, 101, 115, 116, 46, 110, 101, 119]⟩ (by decide)).mono ?_; rintro e x ⟨rfl, hx⟩; rw [hsz]; subst hx)
    | (go_at_call 33; refine (Mt.delete_at SS e6).mono ?_; rintro e x ⟨rfl, S', q⟩; replace KK := KK.trans2' q; replace SS := S'; clear S' q)
    | (go_at_call 33; refine (Mt.delete_at SS e1).mono ?_; rintro e x ⟨rfl, S', q⟩; replace KK := KK.trans2' q; replace SS := S'; clear S' q)
    | (go_at_call 34; refine (Mt.create_at SS e2).mono ?_; rintro e x ⟨rfl, S', q⟩; replace KK := KK.trans2' q; replace SS := S'; clear S' q)
    | (go_at_call 35; refine (Mt.append_at HB.out SS e3).mono ?_; rintro e x ⟨rfl, S', q⟩; replace KK := KK.trans2' q; replace SS := S'; clear S' q)
    | (go_at_call 36; refine (Mt.sync_at SS e4).mono ?_; rintro e x ⟨rfl, S', q⟩; replace KK := KK.trans2' q; replace SS := S'; clear S' q)
    | (go_at_call 37; refine (Mt.rename_at SS e5).mono ?_; rintro e x ⟨rfl, S', q⟩; replace KK := KK.trans2' q; replace SS := S'; clear S' q))
  go_ret
  exact ⟨rfl, SS, KK⟩
set_option maxRecDepth 100000 in
set_option maxHeartbeats 2000000 in
theorem Mt.store_t3b {m1 m2 m3 : Dk.M} {c1 c2 c3 t l : Int} {X : Man} {A : Option Addr} {cap : Nat} {b : ByteArray} (SS : Mt.Sit B W0 w d m K) (hoff : m.off = false)
    (HEN : Hid (∀ {x : World}, Below w.heap.size w x → Calls Tryz.prog 31 #[.agg #[.int .i64 X.w, .int .i64 X.c, .int .i64 X.m, .int .i64 X.seq, .int .i64 X.next, .int .i64 X.jr, .slice A X.runs.length cap]] x fun e w' => e = .returned (.tuple #[.string b, .int .i64 0]) ∧ Below x.heap.size x w')) (HB : Hid (b.size ≤ 140737488355328))
    (hsz : Dk.sizeV m (⟨#[109, 97, 110, 105, 102, 101, 115, 116, 46, 110, 101, 119]⟩ : ByteArray).data.toList = .tuple #[.int .i64 l, .int .i64 t]) (ht : (t == 0) = true) (e1 : Dk.delete m Ms.nw = (m1, c1)) (hc1 : (c1 != 0) = false) (e2 : Dk.create m1 Ms.nw = (m2, c2)) (hc2 : (c2 != 0) = false) (e3 : Dk.append m2 Ms.nw b.data.toList = (m3, c3)) (hc3 : (c3 != 0) = true) (hq : (c3 != 45) = false) :
    Calls Tryz.prog 10 #[.pointer (some ⟨d, 0, none⟩), .agg #[.int .i64 X.w, .int .i64 X.c, .int .i64 X.m, .int .i64 X.seq, .int .i64 X.next, .int .i64 X.jr, .slice A X.runs.length cap]] w fun e w' => e = .returned (.int .i64 c3) ∧ Mt.Sit B W0 w' d m3 K ∧ Jl.Kept K w w' := by
  have hA : Below w.heap.size w (w.alloc (.cells #[.int .i64 X.w, .int .i64 X.c, .int .i64 X.m, .int .i64 X.seq, .int .i64 X.next, .int .i64 X.jr, .slice A X.runs.length cap] 31)) := (Below.refl _ _).alloc (Nat.le_refl _) _
  have KK := SS.kept hA
  replace SS := SS.later hA
  go_enter Tryz.func10, Tryz.ntmps10
  go_wp2_with (first
    | (go_at_call 22; refine (Mt.down_at SS).mono ?_; rintro e x ⟨rfl, hx⟩; rw [hoff]; subst hx)
    | (go_at_call 31; refine (HEN.out hA).mono ?_; rintro e x ⟨rfl, b⟩; replace KK := KK.trans2' (SS.kept b); replace SS := SS.later b; clear b)
    | (go_at_call 32; refine (Mt.size_at SS ⟨#[109, 97, 110, 105, 102, 101, 115, 116, 46, 110, 101, 119]⟩ (by decide)).mono ?_; rintro e x ⟨rfl, hx⟩; rw [hsz]; subst hx)
    | (go_at_call 33; refine (Mt.delete_at SS e6).mono ?_; rintro e x ⟨rfl, S', q⟩; replace KK := KK.trans2' q; replace SS := S'; clear S' q)
    | (go_at_call 33; refine (Mt.delete_at SS e1).mono ?_; rintro e x ⟨rfl, S', q⟩; replace KK := KK.trans2' q; replace SS := S'; clear S' q)
    | (go_at_call 34; refine (Mt.create_at SS e2).mono ?_; rintro e x ⟨rfl, S', q⟩; replace KK := KK.trans2' q; replace SS := S'; clear S' q)
    | (go_at_call 35; refine (Mt.append_at HB.out SS e3).mono ?_; rintro e x ⟨rfl, S', q⟩; replace KK := KK.trans2' q; replace SS := S'; clear S' q)
    | (go_at_call 36; refine (Mt.sync_at SS e4).mono ?_; rintro e x ⟨rfl, S', q⟩; replace KK := KK.trans2' q; replace SS := S'; clear S' q)
    | (go_at_call 37; refine (Mt.rename_at SS e5).mono ?_; rintro e x ⟨rfl, S', q⟩; replace KK := KK.trans2' q; replace SS := S'; clear S' q))
  go_ret
  exact ⟨rfl, SS, KK⟩
set_option maxRecDepth 100000 in
set_option maxHeartbeats 2000000 in
theorem Mt.store_t4 {m1 m2 m3 m4 : Dk.M} {c1 c2 c3 c4 t l : Int} {X : Man} {A : Option Addr} {cap : Nat} {b : ByteArray} (SS : Mt.Sit B W0 w d m K) (hoff : m.off = false)
    (HEN : Hid (∀ {x : World}, Below w.heap.size w x → Calls Tryz.prog 31 #[.agg #[.int .i64 X.w, .int .i64 X.c, .int .i64 X.m, .int .i64 X.seq, .int .i64 X.next, .int .i64 X.jr, .slice A X.runs.length cap]] x fun e w' => e = .returned (.tuple #[.string b, .int .i64 0]) ∧ Below x.heap.size x w')) (HB : Hid (b.size ≤ 140737488355328))
    (hsz : Dk.sizeV m (⟨#[109, 97, 110, 105, 102, 101, 115, 116, 46, 110, 101, 119]⟩ : ByteArray).data.toList = .tuple #[.int .i64 l, .int .i64 t]) (ht : (t == 0) = true) (e1 : Dk.delete m Ms.nw = (m1, c1)) (hc1 : (c1 != 0) = false) (e2 : Dk.create m1 Ms.nw = (m2, c2)) (hc2 : (c2 != 0) = false) (e3 : Dk.append m2 Ms.nw b.data.toList = (m3, c3)) (hc3 : (c3 != 0) = false) (e4 : Dk.sync m3 Ms.nw = (m4, c4)) (hc4 : (c4 != 0) = true) :
    Calls Tryz.prog 10 #[.pointer (some ⟨d, 0, none⟩), .agg #[.int .i64 X.w, .int .i64 X.c, .int .i64 X.m, .int .i64 X.seq, .int .i64 X.next, .int .i64 X.jr, .slice A X.runs.length cap]] w fun e w' => e = .returned (.int .i64 c4) ∧ Mt.Sit B W0 w' d m4 K ∧ Jl.Kept K w w' := by
  have hA : Below w.heap.size w (w.alloc (.cells #[.int .i64 X.w, .int .i64 X.c, .int .i64 X.m, .int .i64 X.seq, .int .i64 X.next, .int .i64 X.jr, .slice A X.runs.length cap] 31)) := (Below.refl _ _).alloc (Nat.le_refl _) _
  have KK := SS.kept hA
  replace SS := SS.later hA
  go_enter Tryz.func10, Tryz.ntmps10
  go_wp2_with (first
    | (go_at_call 22; refine (Mt.down_at SS).mono ?_; rintro e x ⟨rfl, hx⟩; rw [hoff]; subst hx)
    | (go_at_call 31; refine (HEN.out hA).mono ?_; rintro e x ⟨rfl, b⟩; replace KK := KK.trans2' (SS.kept b); replace SS := SS.later b; clear b)
    | (go_at_call 32; refine (Mt.size_at SS ⟨#[109, 97, 110, 105, 102, 101, 115, 116, 46, 110, 101, 119]⟩ (by decide)).mono ?_; rintro e x ⟨rfl, hx⟩; rw [hsz]; subst hx)
    | (go_at_call 33; refine (Mt.delete_at SS e6).mono ?_; rintro e x ⟨rfl, S', q⟩; replace KK := KK.trans2' q; replace SS := S'; clear S' q)
    | (go_at_call 33; refine (Mt.delete_at SS e1).mono ?_; rintro e x ⟨rfl, S', q⟩; replace KK := KK.trans2' q; replace SS := S'; clear S' q)
    | (go_at_call 34; refine (Mt.create_at SS e2).mono ?_; rintro e x ⟨rfl, S', q⟩; replace KK := KK.trans2' q; replace SS := S'; clear S' q)
    | (go_at_call 35; refine (Mt.append_at HB.out SS e3).mono ?_; rintro e x ⟨rfl, S', q⟩; replace KK := KK.trans2' q; replace SS := S'; clear S' q)
    | (go_at_call 36; refine (Mt.sync_at SS e4).mono ?_; rintro e x ⟨rfl, S', q⟩; replace KK := KK.trans2' q; replace SS := S'; clear S' q)
    | (go_at_call 37; refine (Mt.rename_at SS e5).mono ?_; rintro e x ⟨rfl, S', q⟩; replace KK := KK.trans2' q; replace SS := S'; clear S' q))
  go_ret
  exact ⟨rfl, SS, KK⟩
set_option maxRecDepth 100000 in
set_option maxHeartbeats 2000000 in
theorem Mt.store_t5 {m1 m2 m3 m4 m5 : Dk.M} {c1 c2 c3 c4 c5 t l : Int} {X : Man} {A : Option Addr} {cap : Nat} {b : ByteArray} (SS : Mt.Sit B W0 w d m K) (hoff : m.off = false)
    (HEN : Hid (∀ {x : World}, Below w.heap.size w x → Calls Tryz.prog 31 #[.agg #[.int .i64 X.w, .int .i64 X.c, .int .i64 X.m, .int .i64 X.seq, .int .i64 X.next, .int .i64 X.jr, .slice A X.runs.length cap]] x fun e w' => e = .returned (.tuple #[.string b, .int .i64 0]) ∧ Below x.heap.size x w')) (HB : Hid (b.size ≤ 140737488355328))
    (hsz : Dk.sizeV m (⟨#[109, 97, 110, 105, 102, 101, 115, 116, 46, 110, 101, 119]⟩ : ByteArray).data.toList = .tuple #[.int .i64 l, .int .i64 t]) (ht : (t == 0) = true) (e1 : Dk.delete m Ms.nw = (m1, c1)) (hc1 : (c1 != 0) = false) (e2 : Dk.create m1 Ms.nw = (m2, c2)) (hc2 : (c2 != 0) = false) (e3 : Dk.append m2 Ms.nw b.data.toList = (m3, c3)) (hc3 : (c3 != 0) = false) (e4 : Dk.sync m3 Ms.nw = (m4, c4)) (hc4 : (c4 != 0) = false) (e5 : Dk.rename m4 Ms.nw Ms.nm = (m5, c5)) :
    Calls Tryz.prog 10 #[.pointer (some ⟨d, 0, none⟩), .agg #[.int .i64 X.w, .int .i64 X.c, .int .i64 X.m, .int .i64 X.seq, .int .i64 X.next, .int .i64 X.jr, .slice A X.runs.length cap]] w fun e w' => e = .returned (.int .i64 c5) ∧ Mt.Sit B W0 w' d m5 K ∧ Jl.Kept K w w' := by
  have hA : Below w.heap.size w (w.alloc (.cells #[.int .i64 X.w, .int .i64 X.c, .int .i64 X.m, .int .i64 X.seq, .int .i64 X.next, .int .i64 X.jr, .slice A X.runs.length cap] 31)) := (Below.refl _ _).alloc (Nat.le_refl _) _
  have KK := SS.kept hA
  replace SS := SS.later hA
  go_enter Tryz.func10, Tryz.ntmps10
  go_wp2_with (first
    | (go_at_call 22; refine (Mt.down_at SS).mono ?_; rintro e x ⟨rfl, hx⟩; rw [hoff]; subst hx)
    | (go_at_call 31; refine (HEN.out hA).mono ?_; rintro e x ⟨rfl, b⟩; replace KK := KK.trans2' (SS.kept b); replace SS := SS.later b; clear b)
    | (go_at_call 32; refine (Mt.size_at SS ⟨#[109, 97, 110, 105, 102, 101, 115, 116, 46, 110, 101, 119]⟩ (by decide)).mono ?_; rintro e x ⟨rfl, hx⟩; rw [hsz]; subst hx)
    | (go_at_call 33; refine (Mt.delete_at SS e6).mono ?_; rintro e x ⟨rfl, S', q⟩; replace KK := KK.trans2' q; replace SS := S'; clear S' q)
    | (go_at_call 33; refine (Mt.delete_at SS e1).mono ?_; rintro e x ⟨rfl, S', q⟩; replace KK := KK.trans2' q; replace SS := S'; clear S' q)
    | (go_at_call 34; refine (Mt.create_at SS e2).mono ?_; rintro e x ⟨rfl, S', q⟩; replace KK := KK.trans2' q; replace SS := S'; clear S' q)
    | (go_at_call 35; refine (Mt.append_at HB.out SS e3).mono ?_; rintro e x ⟨rfl, S', q⟩; replace KK := KK.trans2' q; replace SS := S'; clear S' q)
    | (go_at_call 36; refine (Mt.sync_at SS e4).mono ?_; rintro e x ⟨rfl, S', q⟩; replace KK := KK.trans2' q; replace SS := S'; clear S' q)
    | (go_at_call 37; refine (Mt.rename_at SS e5).mono ?_; rintro e x ⟨rfl, S', q⟩; replace KK := KK.trans2' q; replace SS := S'; clear S' q))
  go_ret
  exact ⟨rfl, SS, KK⟩
set_option maxRecDepth 100000 in
set_option maxHeartbeats 2000000 in
theorem Mt.store_off {X : Man} {A : Option Addr} {cap : Nat} (SS : Mt.Sit B W0 w d m K) (hoff : m.off = true) : Calls Tryz.prog 10 #[.pointer (some ⟨d, 0, none⟩), .agg #[.int .i64 X.w, .int .i64 X.c, .int .i64 X.m, .int .i64 X.seq, .int .i64 X.next, .int .i64 X.jr, .slice A X.runs.length cap]] w fun e w' => e = .returned (.int .i64 45) ∧ Mt.Sit B W0 w' d m K ∧ Jl.Kept K w w' := by
  have hA : Below w.heap.size w (w.alloc (.cells #[.int .i64 X.w, .int .i64 X.c, .int .i64 X.m, .int .i64 X.seq, .int .i64 X.next, .int .i64 X.jr, .slice A X.runs.length cap] 31)) := (Below.refl _ _).alloc (Nat.le_refl _) _
  have KK := SS.kept hA
  replace SS := SS.later hA
  go_enter Tryz.func10, Tryz.ntmps10
  go_wp2_with (go_at_call 22; refine (Mt.down_at SS).mono ?_; rintro e x ⟨rfl, hx⟩; rw [hoff]; subst hx)
  go_ret
  exact ⟨rfl, SS, KK⟩
set_option maxRecDepth 100000 in
set_option maxHeartbeats 2000000 in
theorem Mt.store_no {X : Man} {A : Option Addr} {cap : Nat} {n : Int} (SS : Mt.Sit B W0 w d m K) (hoff : m.off = false) (hn : (n != 0) = true)
    (HEN : Hid (∀ {x : World}, Below w.heap.size w x → Calls Tryz.prog 31 #[.agg #[.int .i64 X.w, .int .i64 X.c, .int .i64 X.m, .int .i64 X.seq, .int .i64 X.next, .int .i64 X.jr, .slice A X.runs.length cap]] x fun e w' => e = .returned (.tuple #[.string ⟨#[]⟩, .int .i64 n]) ∧ Below x.heap.size x w')) : Calls Tryz.prog 10 #[.pointer (some ⟨d, 0, none⟩), .agg #[.int .i64 X.w, .int .i64 X.c, .int .i64 X.m, .int .i64 X.seq, .int .i64 X.next, .int .i64 X.jr, .slice A X.runs.length cap]] w fun e w' => e = .returned (.int .i64 n) ∧ Mt.Sit B W0 w' d m K ∧ Jl.Kept K w w' := by
  have hA : Below w.heap.size w (w.alloc (.cells #[.int .i64 X.w, .int .i64 X.c, .int .i64 X.m, .int .i64 X.seq, .int .i64 X.next, .int .i64 X.jr, .slice A X.runs.length cap] 31)) := (Below.refl _ _).alloc (Nat.le_refl _) _
  have KK := SS.kept hA
  replace SS := SS.later hA
  go_enter Tryz.func10, Tryz.ntmps10
  go_wp2_with (first
    | (go_at_call 22; refine (Mt.down_at SS).mono ?_; rintro e x ⟨rfl, hx⟩; rw [hoff]; subst hx)
    | (go_at_call 31; refine (HEN.out hA).mono ?_; rintro e x ⟨rfl, b⟩))
  go_ret
  exact ⟨rfl, SS.later b, KK.trans2' (SS.kept b)⟩
/-- Store. -/
theorem Mt.store_any {X : Man} {A : Option Addr} {cap : Nat} (SS : Mt.Sit B W0 w d m K) (HR : Rs w w.heap.size A X.runs) (hM : Mf.Fit X) {n : Nat} (hn : Mf.check X = n) :
    Calls Tryz.prog 10 #[.pointer (some ⟨d, 0, none⟩), manV X A cap] w fun e w' => e = .returned (.int .i64 (Ms.store m X n).2) ∧ Mt.Sit B W0 w' d (Ms.store m X n).1 K ∧ Jl.Kept K w w' := by
  unfold Ms.store
  have hen := fun {x : World} (hb : Below w.heap.size w x) => refEncode_any X A cap x ((HR.below hb).more hb.size) hM n hn
  cases hoff : m.off with
  | true =>
    rw [if_pos rfl]
    exact Mt.store_off SS hoff
  | false =>
    rw [if_neg (by decide)]
    by_cases h0 : n = 0
    · rw [if_pos h0]
      obtain ⟨b, hb, hbd, hbs⟩ := str_of (Sl.frame 3 (Mf.body X))
      have HB : Hid (b.size ≤ 140737488355328) := Lib.hid (by have := Mf.body_len (Mf.good (h0 ▸ hn)); rw [hbs, Sl.frame_len]; omega)
      have hee : encV X n = .tuple #[.string b, .int .i64 0] := by unfold encV; rw [if_pos h0, hb]
      rw [hee] at hen
      have HEN : Hid (∀ {x : World}, Below w.heap.size w x → Calls Tryz.prog 31 #[.agg #[.int .i64 X.w, .int .i64 X.c, .int .i64 X.m, .int .i64 X.seq, .int .i64 X.next, .int .i64 X.jr, .slice A X.runs.length cap]] x fun e w' => e = .returned (.tuple #[.string b, .int .i64 0]) ∧ Below x.heap.size x w') := Lib.hid (fun hb => hen hb)
      rw [← hbd]
      obtain ⟨l, t, hsz, ht⟩ : ∃ l t : Int, Dk.sizeV m Ms.nw = .tuple #[.int .i64 l, .int .i64 t] ∧ t = Dk.code m Ms.nw := by
        unfold Dk.sizeV
        split
        · rename_i h; exact ⟨_, _, rfl, h.symm⟩
        · exact ⟨_, _, rfl, rfl⟩
      unfold Ms.storeD Ms.s1
      by_cases h1 : Dk.code m Ms.nw = 0
      · have ht0 : (t == 0) = true := by rw [beq_iff_eq, ht, h1]
        rw [if_pos h1]
        obtain ⟨⟨m1, c1⟩, e1⟩ : ∃ z, Dk.delete m Ms.nw = z := ⟨_, rfl⟩
        rw [e1]
        by_cases hc1 : c1 = 0
        · rw [if_neg (not_not_intro hc1)]
          have hc1' : (c1 != 0) = false := by rw [bne_eq_false_iff_eq]; exact hc1
          unfold Ms.s2345
          obtain ⟨⟨m2, c2⟩, e2⟩ : ∃ z, Dk.create m1 Ms.nw = z := ⟨_, rfl⟩
          rw [show Dk.create (m1, c1).1 Ms.nw = (m2, c2) from e2]
          by_cases hc2 : c2 = 0
          · rw [if_neg (not_not_intro hc2)]
            have hc2' : (c2 != 0) = false := by rw [bne_eq_false_iff_eq]; exact hc2
            unfold Ms.s345 Ms.s3
            obtain ⟨⟨m3, c3⟩, e3⟩ : ∃ z, Dk.append m2 Ms.nw b.data.toList = z := ⟨_, rfl⟩
            rw [show Dk.append (m2, c2).1 Ms.nw b.data.toList = (m3, c3) from e3]
            by_cases hc3 : c3 = 0
            · have hc3' : (c3 != 0) = false := by rw [bne_eq_false_iff_eq]; exact hc3
              rw [if_pos (show (m3, c3).2 = 0 ∨ (m3, c3).2 = 45 from .inl hc3), if_neg (not_not_intro hc3)]
              unfold Ms.s45
              obtain ⟨⟨m4, c4⟩, e4⟩ : ∃ z, Dk.sync m3 Ms.nw = z := ⟨_, rfl⟩
              rw [show Dk.sync (m3, c3).1 Ms.nw = (m4, c4) from e4]
              by_cases hc4 : c4 = 0
              · have hc4' : (c4 != 0) = false := by rw [bne_eq_false_iff_eq]; exact hc4
                rw [if_neg (not_not_intro hc4)]
                obtain ⟨⟨m5, c5⟩, e5⟩ : ∃ z, Dk.rename m4 Ms.nw Ms.nm = z := ⟨_, rfl⟩
                rw [show Dk.rename (m4, c4).1 Ms.nw Ms.nm = (m5, c5) from e5]
                exact Mt.store_t5 SS hoff HEN HB hsz ht0 e1 hc1' e2 hc2' e3 hc3' e4 hc4' e5
              · rw [if_pos hc4]
                exact Mt.store_t4 SS hoff HEN HB hsz ht0 e1 hc1' e2 hc2' e3 hc3' e4 (bne_iff_ne.2 hc4)
            · by_cases hq : c3 = 45
              · rw [if_pos (show (m3, c3).2 = 0 ∨ (m3, c3).2 = 45 from .inr hq), if_pos hc3]
                exact Mt.store_t3b SS hoff HEN HB hsz ht0 e1 hc1' e2 hc2' e3 (bne_iff_ne.2 hc3) (by rw [bne_eq_false_iff_eq]; exact hq)
              · rw [if_neg (show ¬ ((m3, c3).2 = 0 ∨ (m3, c3).2 = 45) from fun h => h.elim hc3 hq), if_pos hc3]
                obtain ⟨⟨m6, c6⟩, e6⟩ : ∃ z, Dk.delete m3 Ms.nw = z := ⟨_, rfl⟩
                rw [show Dk.delete (m3, c3).1 Ms.nw = (m6, c6) from e6]
                exact Mt.store_t3 SS hoff HEN HB hsz ht0 e1 hc1' e2 hc2' e3 (bne_iff_ne.2 hc3) (bne_iff_ne.2 hq) e6
          · rw [if_pos hc2]
            exact Mt.store_t2 SS hoff HEN HB hsz ht0 e1 hc1' e2 (bne_iff_ne.2 hc2)
        · rw [if_pos hc1]
          exact Mt.store_t1 SS hoff HEN HB hsz ht0 e1 (bne_iff_ne.2 hc1)
      · have ht0 : (t == 0) = false := by rw [beq_eq_false_iff_ne, ht]; exact h1
        rw [if_neg h1, if_neg (not_not_intro rfl)]
        unfold Ms.s2345
        obtain ⟨⟨m2, c2⟩, e2⟩ : ∃ z, Dk.create m Ms.nw = z := ⟨_, rfl⟩
        rw [show Dk.create (m, 0).1 Ms.nw = (m2, c2) from e2]
        by_cases hc2 : c2 = 0
        · rw [if_neg (not_not_intro hc2)]
          have hc2' : (c2 != 0) = false := by rw [bne_eq_false_iff_eq]; exact hc2
          unfold Ms.s345 Ms.s3
          obtain ⟨⟨m3, c3⟩, e3⟩ : ∃ z, Dk.append m2 Ms.nw b.data.toList = z := ⟨_, rfl⟩
          rw [show Dk.append (m2, c2).1 Ms.nw b.data.toList = (m3, c3) from e3]
          by_cases hc3 : c3 = 0
          · have hc3' : (c3 != 0) = false := by rw [bne_eq_false_iff_eq]; exact hc3
            rw [if_pos (show (m3, c3).2 = 0 ∨ (m3, c3).2 = 45 from .inl hc3), if_neg (not_not_intro hc3)]
            unfold Ms.s45
            obtain ⟨⟨m4, c4⟩, e4⟩ : ∃ z, Dk.sync m3 Ms.nw = z := ⟨_, rfl⟩
            rw [show Dk.sync (m3, c3).1 Ms.nw = (m4, c4) from e4]
            by_cases hc4 : c4 = 0
            · have hc4' : (c4 != 0) = false := by rw [bne_eq_false_iff_eq]; exact hc4
              rw [if_neg (not_not_intro hc4)]
              obtain ⟨⟨m5, c5⟩, e5⟩ : ∃ z, Dk.rename m4 Ms.nw Ms.nm = z := ⟨_, rfl⟩
              rw [show Dk.rename (m4, c4).1 Ms.nw Ms.nm = (m5, c5) from e5]
              exact Mt.store_n5 SS hoff HEN HB hsz ht0 e2 hc2' e3 hc3' e4 hc4' e5
            · rw [if_pos hc4]
              exact Mt.store_n4 SS hoff HEN HB hsz ht0 e2 hc2' e3 hc3' e4 (bne_iff_ne.2 hc4)
          · by_cases hq : c3 = 45
            · rw [if_pos (show (m3, c3).2 = 0 ∨ (m3, c3).2 = 45 from .inr hq), if_pos hc3]
              exact Mt.store_n3b SS hoff HEN HB hsz ht0 e2 hc2' e3 (bne_iff_ne.2 hc3) (by rw [bne_eq_false_iff_eq]; exact hq)
            · rw [if_neg (show ¬ ((m3, c3).2 = 0 ∨ (m3, c3).2 = 45) from fun h => h.elim hc3 hq), if_pos hc3]
              obtain ⟨⟨m6, c6⟩, e6⟩ : ∃ z, Dk.delete m3 Ms.nw = z := ⟨_, rfl⟩
              rw [show Dk.delete (m3, c3).1 Ms.nw = (m6, c6) from e6]
              exact Mt.store_n3 SS hoff HEN HB hsz ht0 e2 hc2' e3 (bne_iff_ne.2 hc3) (bne_iff_ne.2 hq) e6
        · rw [if_pos hc2]
          exact Mt.store_n2 SS hoff HEN HB hsz ht0 e2 (bne_iff_ne.2 hc2)
    · rw [if_neg h0]
      have hee : encV X n = .tuple #[.string ⟨#[]⟩, .int .i64 n] := by unfold encV; rw [if_neg h0]; rfl
      rw [hee] at hen
      exact Mt.store_no SS hoff (by rw [bne_iff_ne]; omega) (Lib.hid (fun hb => hen hb))
end
#print axioms Mt.store_any
end Go.Proofs.YtdhnkcfmjibibaaGreatDoor
