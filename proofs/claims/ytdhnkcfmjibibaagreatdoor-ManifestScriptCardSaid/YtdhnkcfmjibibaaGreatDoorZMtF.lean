/- Store, Load and the four questions on two disks that are alike. Conditions: each theorem's own hypotheses. -/
import Derived.Test.YtdhnkcfmjibibaaGreatDoorMtD
import Derived.Test.YtdhnkcfmjibibaaGreatDoorMtE
import Derived.Deep.CutBlock
namespace Go.Proofs.YtdhnkcfmjibibaaGreatDoor
open Go.RowKit Go.Maps
set_option linter.unusedVariables false

section
variable {a b : Dk.M}
theorem Mt.like_then {x y : Dk.M × Int} {f g : Dk.M → Dk.M × Int} (h : Dp.Like2 x y) (hfg : ∀ a b, Dp.Like a b → Dp.Like2 (f a) (g b)) : Dp.Like2 (if x.2 ≠ 0 then x else f x.1) (if y.2 ≠ 0 then y else g y.1) := by
  obtain ⟨h1, h2⟩ := h
  rw [h2]
  exact Dp.like_ite ⟨h1, h2⟩ (hfg _ _ h1)
theorem Mt.like_code (h : Dp.Like a b) (nm : List UInt8) : Dk.code a nm = Dk.code b nm := by unfold Dk.code; rw [h.off, h.files]
theorem Mt.like_s1 (h : Dp.Like a b) : Dp.Like2 (Ms.s1 a) (Ms.s1 b) := by
  obtain ⟨q1, q2, q3, q4, q5, q6, q7, q8, q9⟩ := Dp.like_ops h
  unfold Ms.s1
  rw [Mt.like_code h]
  exact Dp.like_ite (q6 _) ⟨h, rfl⟩
theorem Mt.like_s3 (h : Dp.Like a b) (c : List UInt8) : Dp.Like2 (Ms.s3 a c) (Ms.s3 b c) := by
  obtain ⟨q1, q2, q3, q4, q5, q6, q7, q8, q9⟩ := Dp.like_ops h
  obtain ⟨l1, l2⟩ := q2 Ms.nw c
  obtain ⟨_, _, _, _, _, p6, _⟩ := Dp.like_ops l1
  unfold Ms.s3
  rw [l2]
  exact Dp.like_ite ⟨l1, l2⟩ ⟨(p6 _).1, rfl⟩
theorem Mt.like_s45 (h : Dp.Like a b) : Dp.Like2 (Ms.s45 a) (Ms.s45 b) := by
  obtain ⟨q1, q2, q3, q4, q5, q6, q7, q8, q9⟩ := Dp.like_ops h
  exact Mt.like_then (q3 Ms.nw) fun a b h => (Dp.like_ops h).2.2.2.2.1 _ _
theorem Mt.like_storeD (h : Dp.Like a b) (c : List UInt8) : Dp.Like2 (Ms.storeD a c) (Ms.storeD b c) :=
  Mt.like_then (Mt.like_s1 h) fun a b h => Mt.like_then ((Dp.like_ops h).1 Ms.nw) fun a b h => Mt.like_then (Mt.like_s3 h c) fun a b h => Mt.like_s45 h
theorem Mt.like_store (h : Dp.Like a b) (X : Man) (n : Nat) : Dp.Like2 (Ms.store a X n) (Ms.store b X n) := by
  unfold Ms.store
  rw [h.off]
  exact Dp.like_ite ⟨h, rfl⟩ (Dp.like_ite (Mt.like_storeD h _) ⟨h, rfl⟩)
theorem Mt.like_load (h : Dp.Like a b) : Ms.load a = Ms.load b := by
  have hd : Dk.data a Ms.nm = Dk.data b Ms.nm := by unfold Dk.data; rw [h.files]
  unfold Ms.load
  rw [Mt.like_code h, hd]
end
section
variable {B d r : Nat} {W0 w : World} {m m' : Dk.M} {K : Nat → Prop}
theorem Mt.store1 (T : Mt.Two B W0 w d m r m' K) {X : Man} {A : Option Addr} {cap rl n : Nat} {m1 : Dk.M} {c : Int} (HR : Rs w w.heap.size A X.runs) (hM : Mf.Fit X) (hT : TabS w) (hrl : X.runs.length = rl) (hn : Mf.check X = n) (e : Ms.store m X n = (m1, c)) :
    Calls Tryz.prog 7 #[.pointer (some ⟨d, 0, none⟩), .agg #[.int .i64 X.w, .int .i64 X.c, .int .i64 X.m, .int .i64 X.seq, .int .i64 X.next, .int .i64 X.jr, .slice A rl cap]] w fun e w' => e = .returned (.int .i64 c) ∧ Mt.Two B W0 w' d m1 r m' K ∧ Jl.Kept K w w' := by
  subst hrl
  refine T.one fun K0 S => ?_
  have := Ms.store_any (cap := cap) S HR hM hT hn
  rw [e] at this
  exact this
theorem Mt.store2 (T : Mt.Two B W0 w d m r m' K) {X : Man} {A : Option Addr} {cap rl n : Nat} {m1 : Dk.M} {c : Int} (HR : Rs w w.heap.size A X.runs) (hM : Mf.Fit X) (hrl : X.runs.length = rl) (hn : Mf.check X = n) (e : Ms.store m' X n = (m1, c)) :
    Calls Tryz.prog 10 #[.pointer (some ⟨r, 0, none⟩), .agg #[.int .i64 X.w, .int .i64 X.c, .int .i64 X.m, .int .i64 X.seq, .int .i64 X.next, .int .i64 X.jr, .slice A rl cap]] w fun e w' => e = .returned (.int .i64 c) ∧ Mt.Two B W0 w' d m r m1 K ∧ Jl.Kept K w w' := by
  subst hrl
  refine T.two fun K0 S => ?_
  have := Mt.store_any (cap := cap) S HR hM hn
  rw [e] at this
  exact this
theorem Mt.load1 (T : Mt.Two B W0 w d m r m' K) (hT : ∀ {w : World}, Below B W0 w → TabS w) {X : Man} {c : Int} {rl : Nat} (e : Ms.load m = (c, X)) (hrl : X.runs.length = rl) :
    Calls Tryz.prog 11 #[.pointer (some ⟨d, 0, none⟩)] w fun e w' => (∃ A cap, e = .returned (.tuple #[.agg #[.int .i64 X.w, .int .i64 X.c, .int .i64 X.m, .int .i64 X.seq, .int .i64 X.next, .int .i64 X.jr, .slice A rl cap], .int .i64 c]) ∧ Runs w' w.heap.size A cap X.runs) ∧ Below w.heap.size w w' := by
  subst hrl
  have := Ms.load_any T.sit1 hT
  rw [e] at this
  exact this
theorem Mt.load2 (T : Mt.Two B W0 w d m r m' K) {X : Man} {c : Int} {rl : Nat} (e : Ms.load m' = (c, X)) (hrl : X.runs.length = rl) :
    Calls Tryz.prog 12 #[.pointer (some ⟨r, 0, none⟩)] w fun e w' => (∃ A cap, e = .returned (.tuple #[.agg #[.int .i64 X.w, .int .i64 X.c, .int .i64 X.m, .int .i64 X.seq, .int .i64 X.next, .int .i64 X.jr, .slice A rl cap], .int .i64 c]) ∧ Runs w' w.heap.size A cap X.runs) ∧ Below w.heap.size w w' := by
  subst hrl
  have := Mt.load_any T.sit2
  rw [e] at this
  exact this
theorem Mt.image1 (T : Mt.Two B W0 w d m r m' K) {ib : ByteArray} (h : ib.data.toList = Dk.image m) : Calls Tryz.prog 15 #[.pointer (some ⟨d, 0, none⟩)] w fun e W' => e = .returned (.string ib) ∧ Below w.heap.size w W' := by
  obtain ⟨F, G, h1, h2, h3, h4, h5, h6, h7, h8⟩ := T
  have := Dk.image_any h1 h6
  rwa [Tx.v_eq h] at this
theorem Mt.image2 (T : Mt.Two B W0 w d m r m' K) {ib : ByteArray} (h : ib.data.toList = Dk.image m') : Calls Tryz.prog 16 #[.pointer (some ⟨r, 0, none⟩)] w fun e W' => e = .returned (.string ib) ∧ Below w.heap.size w W' := by
  obtain ⟨F, G, h1, h2, h3, h4, h5, h6, h7, h8⟩ := T
  have := Dr.image_any h2 h7
  rwa [Tx.v_eq h] at this
theorem Mt.tells (T : Mt.Two B W0 w d m r m' K) (hl : Dp.Like m m') {z u : Int} {o : Bool} (h1 : m.writes = z) (h2 : (Dk.used m.files : Int) = u) (h3 : m.off = o) :
    (Calls Tryz.prog 17 #[.pointer (some ⟨d, 0, none⟩)] w fun e W' => e = .returned (.int .i64 z) ∧ w = W') ∧ (Calls Tryz.prog 18 #[.pointer (some ⟨r, 0, none⟩)] w fun e W' => e = .returned (.int .i64 z) ∧ w = W') ∧
    (Calls Tryz.prog 19 #[.pointer (some ⟨d, 0, none⟩)] w fun e W' => e = .returned (.int .i64 u) ∧ w = W') ∧ (Calls Tryz.prog 20 #[.pointer (some ⟨r, 0, none⟩)] w fun e W' => e = .returned (.int .i64 u) ∧ w = W') ∧
    (Calls Tryz.prog 21 #[.pointer (some ⟨d, 0, none⟩)] w fun e W' => e = .returned (.bool o) ∧ w = W') ∧ (Calls Tryz.prog 22 #[.pointer (some ⟨r, 0, none⟩)] w fun e W' => e = .returned (.bool o) ∧ w = W') := by
  subst h1 h2 h3
  obtain ⟨F, G, h1, h2, h3, h4, h5, h6, h7, h8⟩ := T
  have q1 := Dr.writes_any h2
  have q2 := Dr.used_any h2 (by have := h7.used; have := h7.cap; omega) h7.many
  have q3 := Dr.down_any h2
  rw [← hl.writes] at q1
  rw [← hl.files] at q2
  rw [← hl.off] at q3
  exact ⟨Dk.writes_any h1, q1, Dk.used_any h1, q2, Dk.down_any h1, q3⟩
theorem Mt.others_two {lb : Nat} {W0 : World} (T : Mt.Two W0.heap.size W0 w d m r m' (fun k => k = lb)) (hlb : lb < w.heap.size) (hl : Dp.Like m m') (t : Mt.Op) (hf : Mt.OpFit W0 t) :
    ∃ M1 M2, Dp.Like M1 M2 ∧ Calls Tryz.prog 14 #[.pointer (some ⟨d, 0, none⟩), .pointer (some ⟨r, 0, none⟩), .agg (Mt.Op.arr t)] w fun e W' => e = .returned (.tuple #[]) ∧ Mt.Two W0.heap.size W0 W' d M1 r M2 (fun k => k = lb) ∧ W'.heap[lb]? = w.heap[lb]? := by
  obtain ⟨ob, hob⟩ : ∃ ob, w.heap[lb]? = some ob := ⟨_, Array.getElem?_eq_getElem hlb⟩
  have D := T.duo (L := [(lb, ob)]) fun p hp => by
    rw [List.mem_singleton.1 hp]; exact ⟨rfl, hob⟩
  obtain ⟨M1, M2, h1, h2⟩ := Mt.others_any D hl t hf
  refine ⟨M1, M2, h1, h2.mono fun e W' ⟨he, hd⟩ => ⟨he, (Mt.Two.of hd).sub fun k hk => ⟨ob, ?_⟩, ?_⟩⟩
  · rw [hk]; exact List.mem_singleton.2 rfl
  · rw [hd.blk (List.mem_singleton.2 rfl), hob]
end
end Go.Proofs.YtdhnkcfmjibibaaGreatDoor
/- The law ManifestScript: its walk. Conditions: each theorem's own hypotheses. -/
namespace Go.Proofs.YtdhnkcfmjibibaaGreatDoor
open Go.RowKit Go.Maps
set_option linter.unusedVariables false

theorem Mt.make {B d r : Nat} {W0 w3 w4 : World} {m : Dk.M} {F G : Nat → Prop} (A1 : Dk.At w3 d m F) (f1 : ∀ k, F k → B ≤ k) (hz : B ≤ w3.heap.size) (hB : Below w3.heap.size w3 w4) (A2 : Dr.At w4 r m G) (g2 : ∀ k, G k → w3.heap.size ≤ k) (hb : Below B W0 w4) (hG : Dk.Good m) : Mt.Two B W0 w4 d m r m (fun _ => False) :=
  ⟨F, G, A1.later hB (Nat.le_refl _), A2, fun k hk => ⟨f1 k hk, fun h => by have := A1.lt hk; have := g2 k h; omega⟩, fun k hk => Nat.le_trans hz (g2 k hk), fun k hk => hk.elim, hG, hG, hb⟩
theorem Mt.last_fit (W : World) : Mt.OpFit W Mt.last :=
  ⟨fun h => absurd h (by decide), fun _ => ⟨rfl, rfl⟩, ⟨by decide, by decide, by decide, by decide⟩, by decide, .inl ⟨⟨none, 0, rfl⟩, rfl⟩, by decide, fun c hc => absurd hc (by simp [Mt.last]), by decide, by decide, by decide⟩
theorem Mt.last_cells (w : World) : ∀ j u, (Mt.opCells [Mt.last])[j]? = some u → (w.alloc (.cells #[.int .i64 2, .int .i64 0, .int .i64 0, .int .i64 0, .int .i64 0, .int .i64 0, .int .i64 0, .slice none 0 0, .int .i64 0, .bool false, .slice none 0 0, .string ⟨#[]⟩, .string ⟨#[]⟩] 34)).cell? ((⟨w.heap.size, 0, none⟩ : Addr).add j) = some u :=
  World.news_of_block (Blk.new w 34 #[.int .i64 2, .int .i64 0, .int .i64 0, .int .i64 0, .int .i64 0, .int .i64 0, .int .i64 0, .slice none 0 0, .int .i64 0, .bool false, .slice none 0 0, .string ⟨#[]⟩, .string ⟨#[]⟩])
theorem Mt.OpFit.one {W : World} {t : Mt.Op} (h : Mt.OpFit W t) : t.cv.oneCell' = true := by
  obtain ⟨a, c, e⟩ := h.cuts.form
  rw [e]; rfl
/-- The script copied, and a Load behind it. -/
theorem Mt.Scr.of {w : World} {B n : Nat} {v : Value} {L : List Mt.Op} (h : w.ownsRow B 34 13 v n (Mt.opCells L)) (hn : 0 < n) : ∃ lb c, v = .slice (some ⟨lb, 0, none⟩) n c ∧ Mt.Scr lb L w ∧ B ≤ lb ∧ lb < w.heap.size := by
  obtain ⟨g, c, rfl, _⟩ := World.ownsRow.form h hn
  refine ⟨g, c, rfl, fun j t hj i v hi => ?_, World.ownsRow.lt h g rfl⟩
  have := World.ownsRow.cells h (g := g) rfl _ _ (Mt.opCells_get L j t hj i v hi)
  rwa [addLit, Nat.zero_add] at this
theorem Mt.own_parts {w : World} {base g cap : Nat} {hs : List Run} (h : Own w base g cap hs) : ∃ cur, Blk w g 42 cur ∧ base ≤ g ∧ hs.length ≤ cap ∧ cap ≤ maxLen ∧ cur.size = cap * 4 := by
  rcases h.2 with ⟨h0, _⟩ | ⟨g', cap', cur, h0, hb, hg, h1, h2, h3, h4⟩
  · cases h0
  · injection h0 with h0 _ h5
    injection h0 with h0
    injection h0 with e1
    subst e1 h5
    exact ⟨cur, hg, hb, h1, h2, h3⟩
theorem Mt.own_at {w : World} {base n cap : Nat} {A : Option Addr} {hs : List Run} (h : Runs w base A cap hs) (hn : hs.length = n) {g : Nat} (e : (Value.slice A n cap).ownBlock = some g) : A = some ⟨g, 0, none⟩ := by
  subst hn
  rcases h.2 with ⟨h0, _⟩ | ⟨g', cap', cur, h0, _⟩
  · rw [h0] at e; cases e
  · rw [h0] at e
    injection h0 with h0
    rw [h0]
    obtain rfl : g' = g := Option.some.inj e
    rfl
set_option maxRecDepth 100000 in
set_option maxHeartbeats 16000000 in
theorem Mt.script_law (W : World) (cap : Int) (A : Option Addr) (cp : Nat) (L : List Mt.Op) (HO : Mt.Ops W W.heap.size A L) (HF : ∀ t ∈ L, Mt.OpFit W t) (hlen : (L.length + 1) * 152 ≤ 140737488355328) (hA : A = none → cp = 0 ∧ L = []) (hT : TabS W) :
    Calls Tryz.prog 3 #[.int .i64 cap, .slice A L.length cp] W fun e W' => e = .returned (.bool true) ∧ Below W.heap.size W W' := by
  have hTB : ∀ {w : World}, Below W.heap.size W w → TabS w := fun hB => hT.below hB
  by_cases hcap : cap < 0 ∨ 1073741824 < cap
  · have k1 : ∀ w, _ := fun w => Dk.new_none cap hcap w
    have k2 : ∀ w, _ := fun w => Dr.new_none cap hcap w
    go_enter Tryz.func3, Tryz.ntmps3
    go_wp2_with (first
      | (go_at_call 4; refine (k1 _).mono ?_; clear k1; rintro e w3 ⟨rfl, h3⟩)
      | (go_at_call 5; refine (k2 _).mono ?_; clear k2; rintro e w4 ⟨rfl, h4⟩))
    go_ret
    exact ⟨rfl, by rw [← h4, ← h3]; exact Below.refl _ _⟩
  obtain ⟨n, rfl⟩ : ∃ n : Nat, cap = (n : Int) := ⟨cap.toNat, by omega⟩
  have hn : n ≤ 1073741824 := by omega
  obtain ⟨i0, hi, hz0, hz1, hz2⟩ := info_parts Mt.opInfo
  have hfg : Dk.Good (Dk.fresh n) := Dk.fresh_good n hn
  have k1 : ∀ w, _ := fun w => Dk.new_any n hn w
  have k2 : ∀ w, _ := fun w => Dr.new_any n hn w
  have hag := fun {w : World} (h : Below W.heap.size W w) => Mt.again_any w (hTB h)
  clear hcap hT
  go_enter Tryz.func3, Tryz.ntmps3
  go_upto_region 7 with (first
    | (go_at_call 4; refine (k1 _).mono ?_; clear k1; rintro e w3 ⟨d, F3, rfl, A3, b3, f3⟩)
    | (go_at_call 5; refine (k2 _).mono ?_; clear k2; rintro e w4 ⟨r, F4, rfl, A4, b4, f4⟩))
  have T0 : Mt.Two W.heap.size W w4 d (Dk.fresh n) r (Dk.fresh n) (fun _ => False) := Mt.make A3 f3 b3.size b4 A4 f4 (b3.trans (b4.mono b3.size)) hfg
  clear A3 A4 b3 b4 f3 f4 hfg w3
  have hops : ∀ ad, A = some ad → ∀ j u, (Mt.opCells L)[j]? = some u → w4.cell? (ad.add j) = some u := fun ad e j u hj => by
    subst e
    have h1 := HO.cells j u hj
    have h0 : 0 < L.length := by
      obtain ⟨k, t, i, h1, _⟩ := Mt.opCells_of L j u hj
      exact Nat.lt_of_le_of_lt (Nat.zero_le _) (List.getElem?_eq_some_iff.1 h1).1
    obtain ⟨b, off, e, hb, _⟩ := HO h0
    obtain rfl := Option.some.inj e
    rw [addLit] at h1 ⊢
    rw [← h1]
    exact World.cell?_of_block (T0.below.block _ hb)
  have hone : ∀ u ∈ Mt.opCells L, u.oneCell' = true := Mt.opCells_one L fun t ht => (HF t ht).one
  have hll : L.length * 152 ≤ 140737488355328 := by omega
  have HFH := Lib.hid HF
  clear HF HO
  go_cut [7] (fun v X => ∃ x, x = X ∧ ∃ v', v' = v ∧ x.ownsRow W.heap.size 34 13 v' L.length (Mt.opCells L) ∧ Mt.Two W.heap.size W x d (Dk.fresh n) r (Dk.fresh n) (fun k => v'.ownBlock = some k))
  case first =>
    have hnil := World.ownsRow_nil w4 w4.heap.size 34 13
    cases A with
    | none =>
      obtain ⟨rfl, rfl⟩ := hA rfl
      simp only [List.length_nil]
      go_wp2_with (at_builtin; refine wpList_append_own_none rfl (.const (.slice none 0 0)) (.tmp 36) 22 rfl w4.heap.size 34 i0 13 Tryz.underlying22 hi _ _ _ rfl hnil rfl ?_)
      go_meet
      exact ⟨_, rfl, _, rfl, World.ownsRow_nil _ _ _ _, T0.sub fun k hk => by cases hk⟩
    | some ad =>
      go_wp2_with (at_builtin; refine wpList_append_own _ rfl (.const (.slice none 0 0)) (.tmp 36) 22 rfl w4.heap.size 34 i0 (.agg #[.int .i64 0, .int .i64 0, .int .i64 0, .int .i64 0, .int .i64 0, .int .i64 0, .int .i64 0, .slice none 0 0, .int .i64 0, .bool false, .slice none 0 0, .string ⟨#[]⟩, .string ⟨#[]⟩]) 13 152 Tryz.underlying22 hi hz0 hz1 hz2 rfl (by decide) _ _ _ rfl hnil ad L.length cp (Mt.opCells L) rfl (Mt.opCells_len _) (hops ad rfl) hone (by unfold maxLen; omega) (by omega) (Nat.le_refl _) ?_; intro v1 w5 hown1 hgrow1 _; simp only [Nat.zero_add, List.nil_append] at hown1)
      go_meet
      have hB1 : Below w4.heap.size w4 w5 := (Below.refl _ _).grown hgrow1 (Nat.le_refl _) fun k e => by cases e
      exact ⟨_, rfl, _, rfl, own_keep hown1 T0.size fun k _ _ => rfl, (T0.grow hB1).sub fun k hk => .inr (World.ownsRow.lt hown1 k hk)⟩
  case rest =>
    obtain ⟨w5, rfl, v1, rfl, hown, T1⟩ := hcut
    clear T0 hops hone hA
    have hap1 : L.length + 1 ≤ maxLen := by unfold maxLen; omega
    have hap3 : W.heap.size ≤ (w5.alloc (.cells #[.int .i64 2, .int .i64 0, .int .i64 0, .int .i64 0, .int .i64 0, .int .i64 0, .int .i64 0, .slice none 0 0, .int .i64 0, .bool false, .slice none 0 0, .string ⟨#[]⟩, .string ⟨#[]⟩] 34)).heap.size := by have := T1.size; rw [World.size_alloc]; omega
    go_upto_region 9 with (at_builtin; refine wpList_append_lies (hs := ?e1) (hx := ?e2) (hown := World.ownsRow.alloc hown _) (hnews := Mt.last_cells w5) _ rfl (.tmp 38) (.tmp 40) 22 ?e0 W.heap.size 34 i0 (.agg #[.int .i64 0, .int .i64 0, .int .i64 0, .int .i64 0, .int .i64 0, .int .i64 0, .int .i64 0, .slice none 0 0, .int .i64 0, .bool false, .slice none 0 0, .string ⟨#[]⟩, .string ⟨#[]⟩]) 13 152 Tryz.underlying22 hi hz0 hz1 hz2 ?e3 (by decide) v1 L.length (Mt.opCells L) ⟨w5.heap.size, 0, none⟩ 1 1 (Mt.opCells [Mt.last]) ?e4 (Mt.opCells_one _ fun t ht => by rw [List.mem_singleton.1 ht]; rfl) (by decide) hap1 hlen hap3 _ rfl ?_)
    case e0 => rfl
    case e3 => rfl
    case e4 => rfl
    case e1 => simp [Act.eval]
    case e2 => simp [Act.eval]
    intro lb lc w6 hown2 hgrow2 hat2 _
    obtain ⟨L', hL'⟩ : ∃ L', L ++ [Mt.last] = L' := ⟨_, rfl⟩
    have hF' : ∀ t ∈ L', Mt.OpFit W t := by
      rw [← hL']
      intro t ht
      rcases List.mem_append.1 ht with ht | ht
      · exact HFH.out t ht
      · rw [List.mem_singleton.1 ht]; exact Mt.last_fit W
    have hlen' : L.length + 1 = L'.length := by rw [← hL']; simp
    rw [← Mt.opCells_append, hL', hlen'] at hown2
    have hlb := World.ownsRow.lt hown2 lb rfl
    have hsc : Mt.Scr lb L' w6 := fun j t hj i v hi => by
      have := World.ownsRow.cells hown2 (g := lb) rfl _ _ (Mt.opCells_get L' j t hj i v hi)
      rwa [addLit, Nat.zero_add] at this
    have T2 : Mt.Two W.heap.size W w6 d (Dk.fresh n) r (Dk.fresh n) (fun k => k = lb) := (T1.only (((Dk.Only.refl _ w5).alloc _).grown hgrow2 fun k e => .inl e) fun k hk => hk).sub fun k hk => by
      subst hk
      rcases hat2 with e | e
      · exact .inl e
      · exact .inr ⟨by omega, hlb.2⟩
    have hl9 : L'.length ≤ 925904528653 := by omega
    rw [hlen']
    have HF' := Lib.hid hF'
    have HLK := Lib.hid (Dp.Like.refl (Dk.fresh n))
    clear hown2 hgrow2 hat2 hlb hown T1 hap1 hap3 hlen hll hL' hlen' hF' hi hz0 hz1 hz2
    go_wp2_with fail
    go_loopw [8] (fun vi wr => ∃ (k : Nat) (M1 M2 : Dk.M), k ≤ L'.length ∧ vi = .int .i64 (k : Nat) ∧ Hid (Dp.Like M1 M2) ∧ Mt.Two W.heap.size W wr d M1 r M2 (fun k => k = lb) ∧ Mt.Scr lb L' wr) (fun vi _ => L'.length - (intOf vi).toNat)
    case atStart => exact ⟨0, _, _, Nat.zero_le _, rfl, HLK, T2, hsc⟩
    case round =>
      clear HLK T2 hsc
      obtain ⟨k, M1, M2, hk, rfl, HL, T, SC⟩ := hrel
      by_cases hlt : k < L'.length
      · obtain ⟨t, ht⟩ : ∃ t, L'[k]? = some t := ⟨_, List.getElem?_eq_getElem hlt⟩
        have HO := Lib.hid (HF'.out t (List.mem_of_getElem? ht))
        have hcl := SC k t ht
        have HT := Lib.hid ht
        clear ht
        obtain ⟨kd, M, tA, tc, tn, td, tcv, cuts, nm, tb⟩ := t
        have hcf := HO.out.cuts.form
        simp only at hcf
        obtain ⟨ca, cc, rfl⟩ := hcf
        obtain ⟨cn, hcn⟩ : ∃ cn, cuts.length = cn := ⟨_, rfl⟩
        obtain ⟨rl, hrl⟩ : ∃ rl, M.runs.length = rl := ⟨_, rfl⟩
        unfold Mt.Op.cells at hcl
        simp only [hcn, hrl] at hcl
        have x0 := hcl 0 _ rfl
        have x1 := hcl 1 _ rfl
        have x2 := hcl 2 _ rfl
        have x3 := hcl 3 _ rfl
        have x4 := hcl 4 _ rfl
        have x5 := hcl 5 _ rfl
        have x6 := hcl 6 _ rfl
        have x7 := hcl 7 _ rfl
        have x8 := hcl 8 _ rfl
        have x9 := hcl 9 _ rfl
        have x10 := hcl 10 _ rfl
        have x11 := hcl 11 _ rfl
        have x12 := hcl 12 _ rfl
        simp only [Nat.add_zero] at x0
        have HN := Lib.hid (And.intro hcn hrl)
        clear hcl hcn hrl
        go_upto_region 13 with fail
        obtain ⟨K9, hK9, T9, k9, hA9⟩ := T.block_step (.cells #[.int .i64 kd, .int .i64 M.w, .int .i64 M.c, .int .i64 M.m, .int .i64 M.seq, .int .i64 M.next, .int .i64 M.jr, .slice tA rl tc, .int .i64 tn, .bool td, .slice ca cn cc, .string nm, .string tb] 34)
        have P9 : Blk (wr.alloc (.cells #[.int .i64 kd, .int .i64 M.w, .int .i64 M.c, .int .i64 M.m, .int .i64 M.seq, .int .i64 M.next, .int .i64 M.jr, .slice tA rl tc, .int .i64 tn, .bool td, .slice ca cn cc, .string nm, .string tb] 34)) wr.heap.size 34 #[.int .i64 kd, .int .i64 M.w, .int .i64 M.c, .int .i64 M.m, .int .i64 M.seq, .int .i64 M.next, .int .i64 M.jr, .slice tA rl tc, .int .i64 tn, .bool td, .slice ca cn cc, .string nm, .string tb] := Blk.new _ _ _
        have hlb := (T.lt rfl).2
        have SC9 := SC.later hA9 hlb
        have l9 : lb < wr.heap.size := hlb
        generalize wr.alloc (.cells #[.int .i64 kd, .int .i64 M.w, .int .i64 M.c, .int .i64 M.m, .int .i64 M.seq, .int .i64 M.next, .int .i64 M.jr, .slice tA rl tc, .int .i64 tn, .bool td, .slice ca cn cc, .string nm, .string tb] 34) = w9 at T9 P9 SC9 hA9 ⊢
        have kl9 := hK9 lb rfl
        generalize wr.heap.size = b9 at *
        clear x0 x1 x2 x3 x4 x5 x6 x7 x8 x9 x10 x11 x12 T SC hA9 hlb
        obtain ⟨x0, x1, x2, x3, x4, x5, x6, x7⟩ : w9.cell? ⟨b9, 0, none⟩ = some (.int .i64 kd) ∧ w9.cell? ⟨b9, 1, none⟩ = some (.int .i64 M.w) ∧ w9.cell? ⟨b9, 2, none⟩ = some (.int .i64 M.c) ∧ w9.cell? ⟨b9, 3, none⟩ = some (.int .i64 M.m) ∧ w9.cell? ⟨b9, 4, none⟩ = some (.int .i64 M.seq) ∧ w9.cell? ⟨b9, 5, none⟩ = some (.int .i64 M.next) ∧ w9.cell? ⟨b9, 6, none⟩ = some (.int .i64 M.jr) ∧ w9.cell? ⟨b9, 7, none⟩ = some (.slice tA rl tc) := ⟨P9.cell 0, P9.cell 1, P9.cell 2, P9.cell 3, P9.cell 4, P9.cell 5, P9.cell 6, P9.cell 7⟩
        go_upto_block 2 with fail
        go_cut [] (fun X => ∃ (x : World) (N1 N2 : Dk.M), x = X ∧ Hid (Dp.Like N1 N2) ∧ Mt.Two W.heap.size W x d N1 r N2 (fun k => k = lb) ∧ Mt.Scr lb L' x)
        case first =>
          by_cases k1 : kd = 1
          · subst k1
            have hfit := HO.out.fit
            have hsh := HO.out.short
            have hnil := HO.out.nil
            have hrs := fun {w : World} (h : Below W.heap.size W w) => (HO.out.rs.below h).more h.size
            simp only at hfit hsh hnil hrs
            have kt := twin_any M tA tc w9 (hrs T9.below) hnil hsh
            unfold manV at kt
            simp only [HN.out.2] at kt
            go_upto_region 17 with (go_at_call 6; refine kt.mono ?_; clear kt; rintro e w2 ⟨⟨g, cap, rfl, own2⟩, b2⟩)
            obtain ⟨cur, hcb, hgB, hc1, hc2, hc3⟩ := Mt.own_parts own2
            rw [List.length_append, HN.out.2] at hc1
            replace hc1 : rl + 1 ≤ cap := hc1
            have hgl := hcb.lt
            obtain ⟨w10, hw10⟩ : ∃ x, w2.alloc (.cells #[.int .i64 M.w, .int .i64 M.c, .int .i64 M.m, .int .i64 M.seq, .int .i64 M.next, .int .i64 M.jr, .slice (some ⟨g, 0, none⟩) rl cap] 31) = x := ⟨_, rfl⟩
            have hA2 : Below w2.heap.size w2 w10 := by rw [← hw10]; exact (Below.refl _ _).alloc (Nat.le_refl _) _
            have P10 : Blk w10 w2.heap.size 31 #[.int .i64 M.w, .int .i64 M.c, .int .i64 M.m, .int .i64 M.seq, .int .i64 M.next, .int .i64 M.jr, .slice (some ⟨g, 0, none⟩) rl cap] := by rw [← hw10]; exact Blk.new _ _ _
            have hz10 : w10.heap.size = w2.heap.size + 1 := by rw [← hw10]; simp
            rw [hw10]
            have b210 := b2.trans (hA2.mono b2.size)
            have T10 := T9.grow b210
            have R10 : Rs w10 w10.heap.size (some ⟨g, 0, none⟩) (M.runs ++ [mark]) := (own2.rs.below hA2).more hA2.size
            have hz2 := b2.size
            have SC10 := SC9.later b210 (T9.lt kl9).2
            have P910 : Blk w10 b9 34 _ := (b210.block _ P9.lt).trans P9
            have lb9 := (T9.lt kl9).2
            have b9l := (T9.lt k9).2
            generalize w2.heap.size = b10 at *
            obtain ⟨K10, hK10, T10, kg, kb10, kl10, k910⟩ : ∃ K10 : Nat → Prop, K10 = K10 ∧ Mt.Two W.heap.size W w10 d M1 r M2 K10 ∧ K10 g ∧ K10 b10 ∧ K10 lb ∧ K10 b9 := ⟨_, rfl, T10, .inr ⟨hgB, by omega⟩, .inr ⟨hz2, by omega⟩, .inl kl9, .inl k9⟩
            have hcb10 : Blk w10 g 42 cur := (hA2.block g hgl).trans hcb
            have n1 : g ≠ b10 := by omega
            have n2 : g ≠ lb := by omega
            have n3 : g ≠ b9 := by omega
            clear hw10 own2 b2 b210 hA2 hcb hz2 hz10 hgl lb9 b9l x0 x1 x2 x3 x4 x5 x6 x7 P9 SC9 T9 kl9 k9 hgB
            obtain ⟨a0, a1, a2, a3, a4, a5, a6⟩ : w10.cell? ⟨b10, 0, none⟩ = some (.int .i64 M.w) ∧ w10.cell? ⟨b10, 1, none⟩ = some (.int .i64 M.c) ∧ w10.cell? ⟨b10, 2, none⟩ = some (.int .i64 M.m) ∧ w10.cell? ⟨b10, 3, none⟩ = some (.int .i64 M.seq) ∧ w10.cell? ⟨b10, 4, none⟩ = some (.int .i64 M.next) ∧ w10.cell? ⟨b10, 5, none⟩ = some (.int .i64 M.jr) ∧ w10.cell? ⟨b10, 6, none⟩ = some (.slice (some ⟨g, 0, none⟩) rl cap) := ⟨P10.cell 0, P10.cell 1, P10.cell 2, P10.cell 3, P10.cell 4, P10.cell 5, P10.cell 6⟩
            obtain ⟨nn, hnn⟩ : ∃ nn, Mf.check M = nn := ⟨_, rfl⟩
            obtain ⟨⟨N1, c⟩, hN1⟩ : ∃ z, Ms.store M1 M nn = z := ⟨_, rfl⟩
            obtain ⟨⟨N2, c2⟩, hN2⟩ : ∃ z, Ms.store M2 M nn = z := ⟨_, rfl⟩
            have hlk := Mt.like_store HL.out M nn
            rw [hN1, hN2] at hlk
            obtain ⟨hlk, hcc⟩ := hlk
            have hcc' : c = c2 := hcc
            subst hcc'
            have HL2 : Hid (Dp.Like N1 N2) := Lib.hid hlk
            have kst := Mt.store1 (cap := cap) T10 R10.fst hfit (hTB T10.below) HN.out.2 hnn hN1
            have ks2 := fun {w : World} (T : Mt.Two W.heap.size W w d N1 r M2 K10) => Mt.store2 (cap := tc) T (hrs T.below) hfit HN.out.2 hnn hN2
            clear hlk hcc hN1 hN2 hnn
            go_upto_region 18 with (go_at_call 7; refine kst.mono ?_; clear kst; rintro e w11 ⟨rfl, T11, q11⟩)
            have P11 : Blk w11 b10 31 _ := (q11.2 b10 kb10).trans P10
            have P911 : Blk w11 b9 34 _ := (q11.2 b9 k910).trans P910
            have hcb11 : Blk w11 g 42 cur := (q11.2 g kg).trans hcb10
            have SC11 := SC10.kept q11 kl10
            have R11 : Rs w11 w11.heap.size (some ⟨g, 0, none⟩) (M.runs ++ [mark]) := fun h0 => by
              obtain ⟨b, off, e, hb, hc⟩ := R10 h0
              injection e with e
              injection e with e1 e2 _
              subst e1 e2
              refine ⟨g, 0, rfl, Nat.lt_of_lt_of_le hb q11.1, fun j r hj => ?_⟩
              have hq := q11.2 g kg
              obtain ⟨h1, h2, h3, h4⟩ := hc j r hj
              exact ⟨(World.cell?_of_block hq).trans h1, (World.cell?_of_block hq).trans h2, (World.cell?_of_block hq).trans h3, (World.cell?_of_block hq).trans h4⟩
            have kk := kept_any M tA g cap tc w11 (hrs T11.below) R11 (by rw [HN.out.2]; exact hc1) (by have h := hc2; unfold maxLen at h; omega) (by have h := HO.out.fit.len; simp only at h; exact h)
            unfold manV at kk
            simp only [HN.out.2] at kk
            clear a0 a1 a2 a3 a4 a5 a6 P10 P910 hcb10 SC10 R10 R11 T10 q11
            obtain ⟨a0, a1, a2, a3, a4, a5, a6⟩ : w11.cell? ⟨b10, 0, none⟩ = some (.int .i64 M.w) ∧ w11.cell? ⟨b10, 1, none⟩ = some (.int .i64 M.c) ∧ w11.cell? ⟨b10, 2, none⟩ = some (.int .i64 M.m) ∧ w11.cell? ⟨b10, 3, none⟩ = some (.int .i64 M.seq) ∧ w11.cell? ⟨b10, 4, none⟩ = some (.int .i64 M.next) ∧ w11.cell? ⟨b10, 5, none⟩ = some (.int .i64 M.jr) ∧ w11.cell? ⟨b10, 6, none⟩ = some (.slice (some ⟨g, 0, none⟩) rl cap) := ⟨P11.cell 0, P11.cell 1, P11.cell 2, P11.cell 3, P11.cell 4, P11.cell 5, P11.cell 6⟩
            obtain ⟨x1, x2, x3, x4, x5, x6, x7⟩ : w11.cell? ⟨b9, 1, none⟩ = some (.int .i64 M.w) ∧ w11.cell? ⟨b9, 2, none⟩ = some (.int .i64 M.c) ∧ w11.cell? ⟨b9, 3, none⟩ = some (.int .i64 M.m) ∧ w11.cell? ⟨b9, 4, none⟩ = some (.int .i64 M.seq) ∧ w11.cell? ⟨b9, 5, none⟩ = some (.int .i64 M.next) ∧ w11.cell? ⟨b9, 6, none⟩ = some (.int .i64 M.jr) ∧ w11.cell? ⟨b9, 7, none⟩ = some (.slice tA rl tc) := ⟨P911.cell 1, P911.cell 2, P911.cell 3, P911.cell 4, P911.cell 5, P911.cell 6, P911.cell 7⟩
            go_upto_region 19 with (go_at_call 8; refine kk.mono ?_; clear kk; rintro e w12 ⟨rfl, b12⟩)
            have b12d : Below w11.heap.size w11 w12.drew := b12.drew
            have T12 := T11.later b12d
            have q12 := T11.kept b12d
            have P12 : Blk w12.drew b10 31 _ := (q12.2 b10 kb10).trans P11
            have P912 : Blk w12.drew b9 34 _ := (q12.2 b9 k910).trans P911
            have hcb12 : Blk w12.drew g 42 cur := (q12.2 g kg).trans hcb11
            have SC12 := SC11.kept q12 kl10
            have S12 : w12.drew.cell? ⟨b9, 1, none⟩ = some (.int .i64 M.w) ∧ w12.drew.cell? ⟨b9, 2, none⟩ = some (.int .i64 M.c) ∧ w12.drew.cell? ⟨b9, 3, none⟩ = some (.int .i64 M.m) ∧ w12.drew.cell? ⟨b9, 4, none⟩ = some (.int .i64 M.seq) ∧ w12.drew.cell? ⟨b9, 5, none⟩ = some (.int .i64 M.next) ∧ w12.drew.cell? ⟨b9, 6, none⟩ = some (.int .i64 M.jr) ∧ w12.drew.cell? ⟨b9, 7, none⟩ = some (.slice tA rl tc) := ⟨P912.cell 1, P912.cell 2, P912.cell 3, P912.cell 4, P912.cell 5, P912.cell 6, P912.cell 7⟩
            have ucc : (c != c) = false := by simp
            clear a0 a1 a2 a3 a4 a5 a6 x1 x2 x3 x4 x5 x6 x7 P11 P911 hcb11 SC11 T11 b12 b12d q12
            go_region_held3 (fun W' => W'.cell? ⟨b9, 1, none⟩ = some (.int .i64 M.w) ∧ W'.cell? ⟨b9, 2, none⟩ = some (.int .i64 M.c) ∧ W'.cell? ⟨b9, 3, none⟩ = some (.int .i64 M.m) ∧ W'.cell? ⟨b9, 4, none⟩ = some (.int .i64 M.seq) ∧ W'.cell? ⟨b9, 5, none⟩ = some (.int .i64 M.next) ∧ W'.cell? ⟨b9, 6, none⟩ = some (.int .i64 M.jr) ∧ W'.cell? ⟨b9, 7, none⟩ = some (.slice tA rl tc))
              (first
                | with_reducible assumption)
              (first
                | (go_at_call 9; refine (Mt.num_r _ _).mono ?_; rintro e w ⟨rfl, rfl⟩)
                | (go_at_call 10; refine (ks2 T12).mono ?_; rintro e w13 ⟨rfl, T13, q13⟩; have P913 : Blk w13 b9 34 _ := (q13.2 b9 k910).trans P912; have S13 : w13.cell? ⟨b9, 1, none⟩ = some (.int .i64 M.w) ∧ w13.cell? ⟨b9, 2, none⟩ = some (.int .i64 M.c) ∧ w13.cell? ⟨b9, 3, none⟩ = some (.int .i64 M.m) ∧ w13.cell? ⟨b9, 4, none⟩ = some (.int .i64 M.seq) ∧ w13.cell? ⟨b9, 5, none⟩ = some (.int .i64 M.next) ∧ w13.cell? ⟨b9, 6, none⟩ = some (.int .i64 M.jr) ∧ w13.cell? ⟨b9, 7, none⟩ = some (.slice tA rl tc) := ⟨P913.cell 1, P913.cell 2, P913.cell 3, P913.cell 4, P913.cell 5, P913.cell 6, P913.cell 7⟩))
            all_goals
              have P13 : Blk w13 b10 31 _ := (q13.2 b10 kb10).trans P12
              have hcb13 : Blk w13 g 42 cur := (q13.2 g kg).trans hcb12
              have SC13 := SC12.kept q13 kl10
              have gB := (T13.lt kg).1
              obtain ⟨xs, hox⟩ := Mt.shut (n := rl) hcb13 gB (by omega) hc2 hc3
              have R0 := Mt.Ro.start T13 hox fun g' e => by
                obtain rfl : g = g' := Option.some.inj e
                exact kg
              obtain ⟨KA, hKA⟩ : ∃ KA : Nat → Prop, (fun k => K10 k ∧ (Value.slice (some ⟨g, 0, none⟩) rl cap).ownBlock ≠ some k) = KA := ⟨_, rfl⟩
              rw [hKA] at R0
              have kb' : KA b10 := by rw [← hKA]; exact ⟨kb10, fun e => n1 (Option.some.inj e)⟩
              have kl' : KA lb := by rw [← hKA]; exact ⟨kl10, fun e => n2 (Option.some.inj e)⟩
              have HC := Lib.hid (And.intro hc1 (And.intro hc2 hl9))
              clear S12 S13 P12 P912 P913 hcb12 hcb13 SC12 T12 T13 q13 hox ks2 hKA hc1 hc2 hc3 hl9
              go_wp2_with fail
              go_loopw [13] (fun vi wr => ∃ j : Nat, j ≤ rl ∧ vi = .int .i64 (j : Nat) ∧ Mt.Ro W.heap.size W d N1 r N2 KA w13 rl (.slice (some ⟨g, 0, none⟩) rl cap) wr) (fun vi _ => rl - (intOf vi).toNat)
              case atStart => exact ⟨0, Nat.zero_le _, rfl, R0⟩
              case round =>
                clear R0
                obtain ⟨j, hj, rfl, R⟩ := hrel
                have PB : Blk wr b10 31 #[.int .i64 M.w, .int .i64 M.c, .int .i64 M.m, .int .i64 M.seq, .int .i64 M.next, .int .i64 M.jr, .slice (some ⟨g, 0, none⟩) rl cap] := (R.kept.2 b10 kb').trans P13
                have a6 : wr.cell? ⟨b10, 6, none⟩ = some (.slice (some ⟨g, 0, none⟩) rl cap) := PB.cell 6
                by_cases hjl : j < rl
                · obtain ⟨g', cur', e, _, hgb, _, hq1, hq2, hq3⟩ := R.open_ (by omega)
                  obtain rfl : g = g' := by injection e with e; injection e
                  have cell : ∀ i, i < cap * 4 → ∃ u, wr.cell? ⟨g, i, none⟩ = some u := fun i hi => ⟨cur'[i]'(by omega), (hgb.cell i).trans (Array.getElem?_eq_getElem (by omega))⟩
                  obtain ⟨u0, e0⟩ := cell (j * 4) (by omega)
                  obtain ⟨u1, e1⟩ := cell (j * 4 + 1) (by omega)
                  obtain ⟨u2, e2⟩ := cell (j * 4 + 2) (by omega)
                  obtain ⟨u3, e3⟩ := cell (j * 4 + 3) (by omega)
                  have f0 := hgb.frozen (j * 4)
                  have f1 := hgb.frozen (j * 4 + 1)
                  have f2 := hgb.frozen (j * 4 + 2)
                  have f3 := hgb.frozen (j * 4 + 3)
                  have HC2 := Lib.hid (show rl ≤ 9223372036854775807 by have h := HC.out.2.1; have h2 := HC.out.1; unfold maxLen at h; omega)
                  have hr9 := HC2.out
                  clear cell hq1 hq2 hq3 PB e hgb
                  go_wp2_with fail
                  go_roundw
                  case rel => exact ⟨j + 1, by omega, by go_num, R.put4 (by omega)⟩
                  case measure => simp [intOf]; omega
                · obtain rfl : j = rl := by omega
                  go_wp2_with fail
                  go_meet
                  exact ⟨_, N1, N2, rfl, HL2, R.two.sub fun k hk => .inl (hk ▸ kl'), SC13.kept R.kept kl'⟩
          by_cases k2 : kd = 2
          · subst k2
            obtain ⟨r0, hr0, hr1, hr2, hr3⟩ := info_parts infoRun
            obtain ⟨⟨c, X⟩, hX⟩ : ∃ z, Ms.load M1 = z := ⟨_, rfl⟩
            have hX2 : Ms.load M2 = (c, X) := by rw [← Mt.like_load HL.out]; exact hX
            have hxl : X.runs.length ≤ 24 := by
              have h : (Ms.load M1).2.runs.length ≤ 24 := by
                unfold Ms.load
                split
                · split
                  · exact Mf.decode_len _
                  · exact Nat.zero_le 24
                · exact Nat.zero_le 24
              rwa [hX] at h
            have hxm : X.runs.length ≤ 4398046511104 := by omega
            have ka := Mt.load1 T9 hTB hX rfl
            go_upto_region 27 with (go_at_call 11; refine ka.mono ?_; clear ka; rintro e w1 ⟨⟨A1, c1, rfl, h1⟩, b1⟩)
            obtain ⟨KP, hKP, TP, MP, gP, RP, bP, z1, zP⟩ := T9.fresh_step h1 b1
            have SCP := SC9.later bP (T9.lt kl9).2
            have klP := hKP lb kl9
            rw [show (.cells #[.int .i64 X.w, .int .i64 X.c, .int .i64 X.m, .int .i64 X.seq, .int .i64 X.next, .int .i64 X.jr, .slice A1 X.runs.length c1] 31 : Obj) = .cells (manCells X A1 c1) 31 from rfl]
            have lb9 := (T9.lt kl9).2
            have hW9 := T9.size
            have hv1 := fun g => Mt.own_at h1 rfl (g := g)
            generalize w1.alloc (.cells (manCells X A1 c1) 31) = wP at TP MP RP SCP bP zP ⊢
            generalize w1.heap.size = bA at MP gP z1 zP ⊢
            generalize w9.heap.size = s9 at *
            clear h1 b1 bP x0 x1 x2 x3 x4 x5 x6 x7 P9 SC9 T9 k9 kl9 hK9
            have kb := Mt.load1 TP hTB hX rfl
            go_upto_region 28 with (go_at_call 11; refine kb.mono ?_; clear kb; rintro e w2 ⟨⟨A2, c2, rfl, h2⟩, b2⟩)
            obtain ⟨KQ, hKQ, TQ, MQ, gQ, RQ, bQ, z2, zQ⟩ := TP.fresh_step h2 b2
            have SCQ := SCP.later bQ (TP.lt klP).2
            have klQ := hKQ lb klP
            have MPQ := (MP.later bQ).more hKQ
            have RPQ := own_keep RP (Nat.le_refl _) fun k _ hk => bQ.block k hk
            rw [show (.cells #[.int .i64 X.w, .int .i64 X.c, .int .i64 X.m, .int .i64 X.seq, .int .i64 X.next, .int .i64 X.jr, .slice A2 X.runs.length c2] 31 : Obj) = .cells (manCells X A2 c2) 31 from rfl]
            generalize w2.alloc (.cells (manCells X A2 c2) 31) = wQ at TQ MQ MPQ RPQ SCQ bQ zQ ⊢
            generalize w2.heap.size = bB at MQ gQ z2 zQ ⊢
            clear h2 b2 bQ MP RP RQ SCP TP klP w1
            have kc := Mt.load2 TQ hX2 rfl
            go_upto_region 29 with (go_at_call 12; refine kc.mono ?_; clear kc; rintro e w3 ⟨⟨A3, c3, rfl, h3⟩, b3⟩)
            obtain ⟨KR, hKR, TR, MR, gR, RR, bR, z3, zR⟩ := TQ.fresh_step h3 b3
            have SCR := SCQ.later bR (TQ.lt klQ).2
            have klR := hKR lb klQ
            have MPR := (MPQ.later bR).more hKR
            have MQR := (MQ.later bR).more hKR
            have RPR := own_keep RPQ (Nat.le_refl _) fun k _ hk => bR.block k hk
            have gPR := fun g off e => hKR g (hKQ g (gP g off e).2.2)
            rw [show (.cells #[.int .i64 X.w, .int .i64 X.c, .int .i64 X.m, .int .i64 X.seq, .int .i64 X.next, .int .i64 X.jr, .slice A3 X.runs.length c3] 31 : Obj) = .cells (manCells X A3 c3) 31 from rfl]
            generalize w3.alloc (.cells (manCells X A3 c3) 31) = wR at TR MR MPR MQR RPR SCR bR zR ⊢
            generalize w3.heap.size = bC at MR gR z3 zR ⊢
            clear h3 b3 bR MQ MPQ RPQ RR SCQ TQ klQ hKP hKQ hKR w2
            obtain ⟨a0, a1, a2, a3, a4, a5, a6⟩ := MPR.seven
            obtain ⟨d0, d1, d2, d3, d4, d5, d6⟩ := MQR.seven
            obtain ⟨e0, e1, e2, e3, e4, e5, e6⟩ := MR.seven
            have ks1 := same_any X A1 A3 c1 c3 wR MPR.rs MR.rs hxm
            have ks2 := fun {w : World} (h : Below wR.heap.size wR w) => same_any X A2 A3 c2 c3 w ((MQR.rs.below h).more h.size) ((MR.rs.below h).more h.size) hxm
            unfold manV at ks1 ks2
            go_upto_region 30 with (first
              | (go_at_call 13; refine ks1.mono ?_; clear ks1; rintro e wS ⟨rfl, bS⟩; obtain ⟨v0, v1, v2, v3, v4, v5, v6⟩ := (MQR.later bS).seven; obtain ⟨y0, y1, y2, y3, y4, y5, y6⟩ := (MR.later bS).seven; have ks3 := ks2 bS; clear ks2)
              | (go_at_call 13; refine ks3.mono ?_; clear ks3; rintro e wT ⟨rfl, bT⟩))
            have bRT := bS.trans (bT.mono bS.size)
            have T5 := TR.later bRT
            have M5 := MQR.later bRT
            have N5 := MR.later bRT
            have P5 : Blk wT bA 31 (manCells X A1 c1) := (bRT.block _ MPR.blk.lt).trans MPR.blk
            have SC5 := SCR.later bRT (TR.lt klR).2
            have R5 := own_keep (base' := W.heap.size) RPR hW9 fun k _ hk => bRT.block k hk
            have hav : ∀ g, (Value.slice A1 X.runs.length c1).ownBlock = some g → s9 ≤ g ∧ g < bA ∧ KR g := fun g e => ⟨(gP g 0 (hv1 g e)).1, (gP g 0 (hv1 g e)).2.1, gPR g 0 (hv1 g e)⟩
            have R0 := Mt.Ro.start T5 R5 fun g e => (hav g e).2.2
            have kbA : KR bA := MPR.kb
            have kbB : KR bB := MQR.kb
            have kbC : KR bC := MR.kb
            obtain ⟨KA, hKA⟩ : ∃ KA : Nat → Prop, (fun k => KR k ∧ (Value.slice A1 X.runs.length c1).ownBlock ≠ some k) = KA := ⟨_, rfl⟩
            rw [hKA] at R0
            have kA : KA bA := by rw [← hKA]; exact ⟨kbA, fun e => by have := hav _ e; omega⟩
            have kL : KA lb := by rw [← hKA]; exact ⟨klR, fun e => by have := hav _ e; omega⟩
            have M6 : Ms.Mb wT KA bB X A2 c2 := ⟨M5.blk, M5.rs, by rw [← hKA]; exact ⟨kbB, fun e => by have := hav _ e; omega⟩, fun h0 g off e => by rw [← hKA]; exact ⟨M5.ka h0 g off e, fun e' => by have := hav _ e'; have := gQ g off e; omega⟩⟩
            have N6 : Ms.Mb wT KA bC X A3 c3 := ⟨N5.blk, N5.rs, by rw [← hKA]; exact ⟨kbC, fun e => by have := hav _ e; omega⟩, fun h0 g off e => by rw [← hKA]; exact ⟨N5.ka h0 g off e, fun e' => by have := hav _ e'; have := gR g off e; omega⟩⟩
            obtain ⟨xl, hxe⟩ : ∃ xl, X.runs.length = xl := ⟨_, rfl⟩
            have HX := Lib.hid (And.intro hxe (And.intro hxl hxm))
            have HI := Lib.hid (And.intro hr0 (And.intro hr1 (And.intro hr2 hr3)))
            rw [hxe] at hxl
            clear hr0 hr1 hr2 hr3 hxm hxe hX hX2 hl9 hav kbA kbB kbC hKA M5 N5 R5 T5 bRT bS bT MPR MQR MR TR RPR SCR klR gP gQ gR gPR hv1 z1 z2 z3 zP zQ zR lb9 hW9 a0 a1 a2 a3 a4 a5 a6 d0 d1 d2 d3 d4 d5 d6 e0 e1 e2 e3 e4 e5 e6 v0 v1 v2 v3 v4 v5 v6 y0 y1 y2 y3 y4 y5 y6
            go_wp2_with fail
            go_loopw [21] (fun vi wr => ∃ j : Nat, j ≤ X.runs.length ∧ vi = .int .i64 (j : Nat) ∧ Mt.Ro W.heap.size W d M1 r M2 KA wT X.runs.length (.slice A1 X.runs.length c1) wr) (fun vi _ => X.runs.length - (intOf vi).toNat)
            case atStart => exact ⟨0, Nat.zero_le _, rfl, R0⟩
            case round =>
              clear R0
              obtain ⟨j, hj, rfl, R⟩ := hrel
              have PB : Blk wr bA 31 (manCells X A1 c1) := (R.kept.2 bA kA).trans P5
              have a6 : wr.cell? ⟨bA, 6, none⟩ = some (.slice A1 X.runs.length c1) := PB.cell 6
              by_cases hjl : j < X.runs.length
              · have hx1 := HX.out.2.1
                obtain ⟨g, cur', rfl, _, hgb, _, hq1, hq2, hq3⟩ := R.open_ (by omega)
                have cell : ∀ i, i < c1 * 4 → ∃ u, wr.cell? ⟨g, i, none⟩ = some u := fun i hi => ⟨cur'[i]'(by omega), (hgb.cell i).trans (Array.getElem?_eq_getElem (by omega))⟩
                obtain ⟨u0, e0⟩ := cell (j * 4) (by omega)
                obtain ⟨u1, e1⟩ := cell (j * 4 + 1) (by omega)
                obtain ⟨u2, e2⟩ := cell (j * 4 + 2) (by omega)
                obtain ⟨u3, e3⟩ := cell (j * 4 + 3) (by omega)
                have f0 := hgb.frozen (j * 4)
                have f1 := hgb.frozen (j * 4 + 1)
                have f2 := hgb.frozen (j * 4 + 2)
                have f3 := hgb.frozen (j * 4 + 3)
                clear cell hq1 hq2 hq3 PB hgb
                go_wp2_with fail
                go_roundw
                case rel => exact ⟨j + 1, by omega, by go_num, R.put4 (by omega)⟩
                case measure => simp [intOf]; omega
              · obtain rfl : j = X.runs.length := by omega
                obtain ⟨xs, hown⟩ := R.own
                obtain ⟨hr0, hr1, hr2, hr3⟩ := HI.out
                have hx1 := HX.out.2.1
                have hap1 : X.runs.length + 1 ≤ maxLen := by unfold maxLen; omega
                have hap2 : (X.runs.length + 1) * 32 ≤ 140737488355328 := by omega
                have hap3 : W.heap.size ≤ (wr.alloc (.cells #[.int .i64 (-2), .int .i64 0, .int .i64 0, .int .i64 0] 42)).heap.size := by have := R.two.size; rw [World.size_alloc]; omega
                go_wp2_with (at_builtin; refine wpList_append_lies (hs := ?e1) (hx := ?e2) (hown := World.ownsRow.alloc hown _) (hnews := run_cells wr ⟨-2, 0, 0, 0⟩) _ rfl (.tmp 131) (.tmp 133) 29 ?e0 W.heap.size 42 r0 (.agg #[.int .i64 0, .int .i64 0, .int .i64 0, .int .i64 0]) 4 32 Tryz.underlying29 hr0 hr1 hr2 hr3 ?e3 (by decide) (.slice A1 X.runs.length c1) X.runs.length xs ⟨wr.heap.size, 0, none⟩ 1 1 (cellsOf [⟨-2, 0, 0, 0⟩]) ?e4 (cellsOf_one _) (by decide) hap1 hap2 hap3 _ rfl ?_)
                case e0 => rfl
                case e3 => rfl
                case e4 => rfl
                case e1 => simp [Act.eval]
                case e2 => simp [Act.eval]
                intro g2 cap2 x1 hown1 hgrow1 hat1 _
                have R1 := R.grown hown1 hgrow1 (by rw [World.size_alloc]; exact hat1)
                clear hown hown1 hgrow1 hat1 R PB a6 hap1 hap2 hap3 P5 hjl hj
                go_wp2_with fail
                go_loopw [22, 23] (fun v i wr => ∃ (j g cap nl : Nat), i = .int .i64 j ∧ j ≤ 64 ∧ nl = X.runs.length + 1 + j ∧ v = .slice (some ⟨g, 0, none⟩) nl cap ∧ Mt.Ro W.heap.size W d M1 r M2 KA wT nl (.slice (some ⟨g, 0, none⟩) nl cap) wr) (fun _ i _ => 64 - (intOf i).toNat)
                case atStart => exact ⟨0, g2, cap2, X.runs.length + 1, rfl, Nat.zero_le _, rfl, rfl, R1⟩
                case round =>
                  clear R1
                  obtain ⟨j, g, cap, nl, rfl, hj, hnl, rfl, R⟩ := hrel
                  by_cases hjl : j < 64
                  · obtain ⟨xs, hown⟩ := R.own
                    have hap1 : nl + 1 ≤ maxLen := by unfold maxLen; omega
                    have hap2 : (nl + 1) * 32 ≤ 140737488355328 := by omega
                    have hap3 : W.heap.size ≤ (wr.alloc (.cells #[.int .i64 (-2), .int .i64 0, .int .i64 0, .int .i64 0] 42)).heap.size := by have := R.two.size; rw [World.size_alloc]; omega
                    have HNL := Lib.hid hnl
                    clear hnl
                    go_wp2_with (at_builtin; refine wpList_append_lies (hs := ?e1) (hx := ?e2) (hown := World.ownsRow.alloc hown _) (hnews := run_cells wr ⟨-2, 0, 0, 0⟩) _ rfl (.tmp 139) (.tmp 141) 29 ?e0 W.heap.size 42 r0 (.agg #[.int .i64 0, .int .i64 0, .int .i64 0, .int .i64 0]) 4 32 Tryz.underlying29 hr0 hr1 hr2 hr3 ?e3 (by decide) (.slice (some ⟨g, 0, none⟩) nl cap) nl xs ⟨wr.heap.size, 0, none⟩ 1 1 (cellsOf [⟨-2, 0, 0, 0⟩]) ?e4 (cellsOf_one _) (by decide) hap1 hap2 hap3 _ rfl ?_)
                    case e0 => rfl
                    case e3 => rfl
                    case e4 => rfl
                    case e1 => simp [Act.eval]
                    case e2 => simp [Act.eval]
                    intro g3 cap3 x2 hown2 hgrow2 hat2 _
                    have R2 := R.grown hown2 hgrow2 (by rw [World.size_alloc]; exact hat2)
                    clear hown hown2 hgrow2 hat2 R hap1 hap2 hap3
                    go_wp2_with fail
                    go_roundw
                    case rel => exact ⟨j + 1, g3, cap3, nl + 1, by go_num, by omega, by have := HNL.out; omega, rfl, R2⟩
                    case measure => simp only [intOf]; omega
                  · obtain rfl : j = 64 := by omega
                    have hnlb : (((nl : Nat) : Int) != ((X.runs.length : Nat) : Int) + 65) = false := by rw [bne_eq_false_iff_eq]; omega
                    have ucc : (c != c) = false := by simp
                    have M7 := M6.kept R.kept
                    have N7 := N6.kept R.kept
                    have SC7 := SC5.kept R.kept kL
                    obtain ⟨d0, d1, d2, d3, d4, d5, d6⟩ := M7.seven
                    obtain ⟨e0, e1, e2, e3, e4, e5, e6⟩ := N7.seven
                    have ks1 := same_any X A2 A3 c2 c3 wr M7.rs N7.rs HX.out.2.2
                    unfold manV at ks1
                    have hlb7 := (R.two.lt (.inl kL)).2
                    clear hnl M6 N6 SC5
                    go_wp2_with (first
                      | (go_at_call 13; refine ks1.mono ?_; clear ks1; rintro e wS ⟨rfl, bS⟩; have R8 := R.later bS; have SC8 := SC7.later bS hlb7; have e6' := (N7.later bS).seven.2.2.2.2.2.2)
                      | (go_at_call 9; refine (Mt.num_r _ _).mono ?_; rintro e w ⟨rfl, rfl⟩))
                    go_meet
                    exact ⟨_, M1, M2, rfl, HL, R8.two.sub fun k hk => .inl (hk ▸ kL), SC8⟩
          have u1 : (kd == 1) = false := beq_eq_false_iff_ne.2 k1
          have u2 : (kd == 2) = false := beq_eq_false_iff_ne.2 k2
          obtain ⟨x8, x9, x10, x11, x12⟩ : w9.cell? ⟨b9, 8, none⟩ = some (.int .i64 tn) ∧ w9.cell? ⟨b9, 9, none⟩ = some (.bool td) ∧ w9.cell? ⟨b9, 10, none⟩ = some (.slice ca cn cc) ∧ w9.cell? ⟨b9, 11, none⟩ = some (.string nm) ∧ w9.cell? ⟨b9, 12, none⟩ = some (.string tb) := ⟨P9.cell 8, P9.cell 9, P9.cell 10, P9.cell 11, P9.cell 12⟩
          have l9' : lb < w9.heap.size := (T9.lt kl9).2
          obtain ⟨N1, N2, hl, ko⟩ := Mt.others_two (lb := lb) (T9.sub fun k hk => hk ▸ kl9) l9' HL.out _ HO.out
          unfold Mt.Op.arr at ko
          simp only [HN.out.1, HN.out.2] at ko
          have HL2 := Lib.hid hl
          clear k1 k2 hl
          go_wp2_with (go_at_call 14; refine ko.mono ?_; clear ko; rintro e w2 ⟨rfl, T2, hb2⟩)
          go_meet
          exact ⟨_, N1, N2, rfl, HL2, T2, fun j t hj i v hi => (World.cell?_of_block hb2).trans (SC9 j t hj i v hi)⟩
        case rest =>
          obtain ⟨w2, N1, N2, rfl, HL2, T2, SC2⟩ := hcut
          clear T9 P9 SC9 kl9 hK9 x0 x1 x2 x3 x4 x5 x6 x7 HL
          obtain ⟨ib, hib, _⟩ := Tx.of (Dk.image N1)
          have i1 := fun {w : World} (T : Mt.Two W.heap.size W w d N1 r N2 (fun k => k = lb)) => Mt.image1 T hib
          have i2 := fun {w : World} (T : Mt.Two W.heap.size W w d N1 r N2 (fun k => k = lb)) => Mt.image2 T (hib.trans HL2.out.image)
          have it := fun {w : World} (T : Mt.Two W.heap.size W w d N1 r N2 (fun k => k = lb)) => Mt.tells T HL2.out rfl rfl rfl
          generalize N1.writes = wv at it
          generalize (Dk.used N1.files : Int) = uv at it
          generalize N1.off = ov at it
          have j1 := i1 T2
          have lb2 := (T2.lt rfl).2
          clear hib i1
          go_wp2_with (first
            | (go_at_call 15; refine j1.mono ?_; clear j1; rintro e w3 ⟨rfl, b3⟩; have T3 := T2.later b3; have SC3 := SC2.later b3 lb2; have lb3 := (T3.lt rfl).2; have j2 := i2 T3; clear i2)
            | (go_at_call 16; refine j2.mono ?_; clear j2; rintro e w4 ⟨rfl, b4⟩; have T4 := T3.later b4; have SC4 := SC3.later b4 lb3; obtain ⟨j3, j4, j5, j6, j7, j8⟩ := it T4; clear it)
            | (go_at_call 17; refine j3.mono ?_; clear j3; rintro e w ⟨rfl, rfl⟩)
            | (go_at_call 18; refine j4.mono ?_; clear j4; rintro e w ⟨rfl, rfl⟩)
            | (go_at_call 19; refine j5.mono ?_; clear j5; rintro e w ⟨rfl, rfl⟩)
            | (go_at_call 20; refine j6.mono ?_; clear j6; rintro e w ⟨rfl, rfl⟩)
            | (go_at_call 21; refine j7.mono ?_; clear j7; rintro e w ⟨rfl, rfl⟩)
            | (go_at_call 22; refine j8.mono ?_; clear j8; rintro e w ⟨rfl, rfl⟩))
          go_roundw
          case rel => exact ⟨k + 1, N1, N2, hlt, by go_num, HL2, T4, SC4⟩
          case measure => simp [intOf]; omega
      · obtain rfl : k = L'.length := by omega
        have kag := hag T.below
        go_wp2_with (go_at_call 23; refine kag.mono ?_; clear kag; rintro e w7 ⟨rfl, b7⟩)
        go_ret
        exact ⟨rfl, T.below.trans (b7.mono T.size)⟩
theorem Mt.script_card (cap : Int) (L : List Mt.Op) (A : Option Addr) (cp : Nat) (W : World) (HO : Mt.Ops W W.heap.size A L) (HF : ∀ t ∈ L, Mt.OpFit W t) (hlen : (L.length + 1) * 152 ≤ 140737488355328) (hA : A = none → cp = 0 ∧ L = []) (hT : TabS W) :
    Calls Tryz.prog 3 #[.int .i64 cap, .slice A L.length cp] W fun e W' => e = .returned (.bool true) ∧ Below W.heap.size W W' := Mt.script_law W cap A cp L HO HF hlen hA hT
end Go.Proofs.YtdhnkcfmjibibaaGreatDoor
