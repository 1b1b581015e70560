/- Disks: Open, the program's. Conditions: each theorem's own hypotheses. -/
import Derived.Test.YtgbeeghdoilmkaaDkN
import Derived.Maps.Own
namespace Go.Proofs.Ytgbeeghdoilmkaa
open Go.RowKit Go.Maps Go.Sort
set_option linter.unusedVariables false

theorem Dk.less_eq : ∀ a b : List UInt8, Op.bytesLess a b = bytesBefore a b
  | [], [] => rfl
  | [], _ :: _ => rfl
  | _ :: _, [] => rfl
  | a :: x, b :: y => by
    show (_ || (_ && Op.bytesLess x y)) = (_ || (_ && bytesBefore x y))
    rw [Dk.less_eq x y]
/-- How a test 'a <= b' of texts comes out: by its two parts. -/
theorem Dk.leq_cases (a b : ByteArray) :
    (bytesBefore b.data.toList a.data.toList = true ∧ Op.bytesLess a.toList b.toList = false ∧ (a.toList == b.toList) = false) ∨
    (bytesBefore b.data.toList a.data.toList = false ∧ Op.bytesLess a.toList b.toList = false ∧ (a.toList == b.toList) = true) ∨
    (bytesBefore b.data.toList a.data.toList = false ∧ Op.bytesLess a.toList b.toList = true ∧ (a.toList == b.toList) = false) := by
  rw [Dk.less_eq, ByteArray.toList_eq, ByteArray.toList_eq]
  by_cases h : a.data.toList = b.data.toList
  · rw [h, WideAt.bytes_irrefl]
    exact .inr (.inl ⟨rfl, rfl, by simp⟩)
  · have hne : (a.data.toList == b.data.toList) = false := by simpa using h
    rcases WideAt.bytes_total _ _ h with h1 | h1
    · refine .inr (.inr ⟨?_, h1, hne⟩)
      cases h2 : bytesBefore b.data.toList a.data.toList with
      | false => rfl
      | true =>
        have := WideShapes.bytes_trans _ _ _ h1 h2
        rw [WideAt.bytes_irrefl] at this
        cases this
    · refine .inl ⟨h1, ?_, hne⟩
      cases h2 : bytesBefore a.data.toList b.data.toList with
      | false => rfl
      | true =>
        have := WideShapes.bytes_trans _ _ _ h1 h2
        rw [WideAt.bytes_irrefl] at this
        cases this
theorem Dk.run_leq {P : Program} (a b : ByteArray) (t : TypeId) (q : Bool) (hq : bytesBefore b.data.toList a.data.toList = q) (W : World) : (binOp .leq t (.string a) (.string b)).run P W = .ok (.bool (!q)) W := by
  subst hq
  have h : binOp .leq t (.string a) (.string b) = pure (.bool (Op.bytesLess a.toList b.toList || a.toList == b.toList)) := by simp [binOp, Op.stringOp]
  rw [h]
  rcases Dk.leq_cases a b with ⟨h1, h2, h3⟩ | ⟨h1, h2, h3⟩ | ⟨h1, h2, h3⟩ <;> rw [h1, h2, h3] <;> rfl
/-- len of the map. -/
theorem Dk.Stand.run_len {W : World} {d b : Nat} {m : Dk.M} {L : List Dk.X} (h : Dk.Stand W d b m L) (ty : TypeId) :
    (Builtin.len_ #[75] ty #[.map (some b)]).run Try.prog W = .ok (.int .i64 (m.files.length : Int)) W := by
  rw [h.map.len Try.underlying75 ty, Dk.dat_size, ← h.fs, List.length_map]
/-- The map is where it was. -/
theorem Dk.map_keep {W W' : World} {b n : Nat} {D : DataW Unit} (h : W.ownsMap Try.prog 9 Dk.R b n D) (hk : W'.heap[b]? = W.heap[b]?) : W'.ownsMap Try.prog 9 Dk.R b n D := by
  obtain ⟨es, clock, hb, r⟩ := h
  exact ⟨es, clock, hk.trans hb, r⟩
/-- A text made into bytes. -/
theorem Dk.conv_bytes (w : World) (s : ByteArray) (hs : s.size ≤ maxLen) : ∃ g cap w', (convert 9 81 (.string s)).run Try.prog w = .ok (.slice (some ⟨g, 0, none⟩) s.size cap) w' ∧ Dk.Row w' (.slice (some ⟨g, 0, none⟩) s.size cap) s.data.toList ∧ Hid (g = w.heap.size) ∧ Below w.heap.size w w' ∧ Hid (w'.heap.size = w.heap.size + 1) := by
  refine ⟨_, _, _, Lib.run_convert_string_bytes w 9 81 5 s Try.underlying9 Try.underlying81 Try.underlying5, Dk.Row.made w s hs, rfl, ⟨rfl, rfl, rfl, ?_, fun k hk => Lib.bytesWorld_at_old w _ s k hk⟩, Lib.bytesWorld_size w _ s⟩
  rw [Lib.bytesWorld_size]; omega
/-- The loop of an opening. -/
structure Dk.OpSt (W wr : World) (d b c : Nat) (R : Option (List Dk.F)) (zb lb : ByteArray) (fu : Nat) (acc : List Dk.F) (L : List Dk.X) : Prop where
  text : Dk.scan fu acc zb.data.toList = R
  len : zb.size < fu
  small : zb.size ≤ 9223372036854775807
  last : lb.data.toList = Dk.lastN acc
  fine : Dk.Fine acc
  st : Dk.Stand wr d b { Dk.fresh c with files := acc } L
  foot : ∀ k, Dk.foot d b L k → W.heap.size ≤ k
  below : Below W.heap.size W wr
/-- A file's cells in memory. -/
def Dk.fcells (v : Value) (n : Nat) : Array Value := #[v, .int .i64 n]
theorem Dk.OpSt.step {W w3 w5 w6 : World} {d b c : Nat} {R : Option (List Dk.F)} {zb lb nb db rb : ByteArray} {fu : Nat} {acc : List Dk.F} {L : List Dk.X} (h : Dk.OpSt W w3 d b c R zb lb fu acc L) {nm data : List UInt8} {g5 cap5 : Nat}
    (hn : Dk.named nm = true) (hd : data.length ≤ 268435456) (hnb : nb.data.toList = nm) (hdb : db.data.toList = data) (hst : Dk.scan (fu - 1) (acc ++ [⟨nm, data, data.length⟩]) rb.data.toList = R) (hlen : rb.size < fu - 1) (hsm : rb.size ≤ 9223372036854775807)
    (hb : bytesBefore (Dk.lastN acc) nm = true) (hm : acc.length ≠ 4096)
    (hrow : Dk.Row w5 (.slice (some ⟨g5, 0, none⟩) db.size cap5) db.data.toList) (hg : g5 = w3.heap.size) (hB5 : Below w3.heap.size w3 w5) (hs5 : w5.heap.size = w3.heap.size + 1)
    (hown : w6.ownsMap Try.prog 9 Dk.R b (L.length + 1) ((Dk.dat L).put (.string nm) (.lit (.int .i64 w5.heap.size))))
    (hg6 : (w5.alloc (.cells (Dk.fcells (.slice (some ⟨g5, 0, none⟩) db.size cap5) db.size) 83)).grownBy w6 (some b)) :
    Dk.OpSt W (w6.setCell ⟨d, 2, none⟩ (.int .i64 (Dk.used (acc ++ [⟨nm, data, data.length⟩]) : Nat))) d b c R rb nb (fu - 1) (acc ++ [⟨nm, data, data.length⟩]) (Dk.ins Dk.X.nm ⟨⟨nm, data, data.length⟩, w5.heap.size, .slice (some ⟨g5, 0, none⟩) db.size cap5⟩ L) := by
  have hS := h.st
  have hd3 := hS.disk.lt
  have hb3 := hS.map.lt
  have hdb2 : d ≠ b := fun e => hS.lone b (.inl rfl) e.symm
  have hsz : (w5.alloc (.cells (Dk.fcells (.slice (some ⟨g5, 0, none⟩) db.size cap5) db.size) 83)).heap.size = w3.heap.size + 2 := by rw [World.size_alloc, hs5]
  have h6 := hg6.size
  rw [hsz] at h6
  have hds : db.size = data.length := by rw [Tx.size, hdb]
  have hold : ∀ k, k < w3.heap.size → k ≠ b → w6.heap[k]? = w3.heap[k]? := fun k hk hkb =>
    (hg6.block k (by rw [hsz]; omega) (fun e => hkb (Option.some.inj e))).trans ((Below.heap_alloc w5 _ k (by rw [hs5]; omega)).trans (hB5.block k hk))
  have hnew : ∀ k, k < w3.heap.size + 2 → k ≠ b → w6.heap[k]? = (w5.alloc (.cells (Dk.fcells (.slice (some ⟨g5, 0, none⟩) db.size cap5) db.size) 83)).heap[k]? := fun k hk hkb => hg6.block k (by rw [hsz]; exact hk) (fun e => hkb (Option.some.inj e))
  have hset : ∀ k, k ≠ d → (w6.setCell ⟨d, 2, none⟩ (.int .i64 (Dk.used (acc ++ [⟨nm, data, data.length⟩]) : Nat))).heap[k]? = w6.heap[k]? := fun k hk => Below.heap_setCell w6 ⟨d, 2, none⟩ _ k hk
  obtain ⟨hup1, hup2⟩ := Dk.up_snoc h.fine.up (⟨nm, data, data.length⟩ : Dk.F) hb
  have hno : ∀ y ∈ L, y.nm ≠ nm := by
    intro y hy e
    have hm : y.f ∈ acc := by
      have := hS.fs
      show y.f ∈ ({ Dk.fresh c with files := acc } : Dk.M).files
      rw [← this]
      exact List.mem_map_of_mem hy
    have := hup1 y.f hm
    rw [show y.f.name = nm from e, WideAt.bytes_irrefl] at this
    cases this
  refine ⟨hst, hlen, hsm, by rw [Dk.lastN_snoc]; exact hnb, h.fine.snoc hn hd hb hm, ?_, ?_, ?_⟩
  · refine hS.insert _ ?_ ?_ (Dk.get_none_iff.2 hno) ?_ ?_ ?_ ?_ ?_ ?_
    · have h1 : Blk w6 d 77 (Dk.cells b { Dk.fresh c with files := acc }) := (hold d hd3 hdb2).trans hS.disk
      exact h1.set_ 2 _
    · exact Dk.map_keep hown (hset b (fun e => hdb2 e.symm))
    · exact (Dk.ins_last hup1).symm
    · show Blk _ w5.heap.size _ _
      refine (hset w5.heap.size (by omega)).trans ((hnew w5.heap.size (by omega) (by omega)).trans ?_)
      rw [← hds]
      exact Blk.new w5 _ _
    · have hrow2 : Dk.Row w5 (.slice (some ⟨g5, 0, none⟩) db.size cap5) data := hdb ▸ hrow
      refine hrow2.keep fun k hk => ?_
      have hk2 : g5 = k := Option.some.inj hk
      exact (hset k (by omega)).trans ((hnew k (by omega) (by omega)).trans (Below.heap_alloc w5 _ k (by omega)))
    · show w3.heap.size ≤ w5.heap.size
      omega
    · intro k hk
      have hk2 : g5 = k := Option.some.inj hk
      omega
    · exact fun k h1 h2 h3 => (hset k h2).trans (hold k h1 h3)
  · have hfoot := h.foot
    have hsB := h.below.size
    rintro k (rfl | rfl | ⟨x, hx, hx2⟩)
    · exact hfoot _ (.inl rfl)
    · exact hfoot _ (.inr (.inl rfl))
    · rcases (Dk.mem_ins Dk.X.nm).1 hx with rfl | hx
      · rcases hx2 with e | e
        · have e2 : w5.heap.size = k := e
          rw [← e2, hs5]
          omega
        · have hk2 : g5 = k := Option.some.inj e
          omega
      · exact hfoot _ (.inr (.inr ⟨x, hx, hx2⟩))
  · have hsB := h.below.size
    have hbW := h.foot b (.inr (.inl rfl))
    have hdW := h.foot d (.inl rfl)
    refine h.below.trans ⟨?_, ?_, ?_, ?_, fun k hk => ?_⟩
    · exact hg6.os.trans hB5.os
    · exact hg6.tape.trans hB5.tape
    · exact hg6.output.trans hB5.output
    · show w3.heap.size ≤ (w6.setCell _ _).heap.size
      simp only [World.setCell, Array.size_modify]; omega
    · exact (hset k (by omega)).trans (hold k (by omega) (by omega))
def Dk.lenOf : Value → Nat | .string b => b.size | _ => 0
/-- How an opening ends. -/
def Dk.openV (d : Nat) : Except Int Dk.M → Value
  | .error e => .tuple #[.pointer none, .int .i64 e]
  | .ok _ => .tuple #[.pointer (some ⟨d, 0, none⟩), .int .i64 0]
set_option maxRecDepth 100000 in
set_option maxHeartbeats 4000000 in
theorem Dk.open_any (W : World) (s : ByteArray) (hs : s.size ≤ 9223372036854775807) (n : Int) (hn : -9223372036854775808 ≤ n ∧ n < 9223372036854775808) :
    Calls Try.prog 11 #[.string s, .int .i64 n] W fun e W' => ∃ d, e = .returned (Dk.openV d (Dk.opened s.data.toList n)) ∧ Below W.heap.size W W' ∧
      ∀ m, Dk.opened s.data.toList n = .ok m → ∃ F, Dk.At W' d m F ∧ ∀ k, F k → W.heap.size ≤ k := by
  by_cases hc : n < 0 ∨ 1073741824 < n
  · have ho : Dk.opened s.data.toList n = .error 13 := by unfold Dk.opened; rw [if_pos hc]
    have hcall := Dk.new_none n hc W
    rw [ho]
    go_enter Try.func11, Try.ntmps11
    go_wp2_with (go_at_call 9; refine hcall.mono ?_; rintro e w' ⟨rfl, rfl⟩)
    go_ret2
    exact ⟨0, rfl, Below.refl _ _, fun m h => by cases h⟩
  · obtain ⟨c, rfl⟩ := Int.eq_ofNat_of_zero_le (show 0 ≤ n by omega)
    have hcall := Dk.new_any c (by omega) W
    cases hl : s.data.toList with
    | nil =>
      have ho : Dk.opened [] (c : Int) = .error 46 := by unfold Dk.opened; rw [if_neg hc]
      have he : (s.toList == []) = true := by rw [ByteArray.toList_eq, hl]; rfl
      rw [ho]
      clear hl
      go_enter Try.func11, Try.ntmps11
      go_wp2_with (go_at_call 9; refine hcall.mono ?_; rintro e w' ⟨d, F, rfl, hA, hB, hF⟩)
      go_ret2
      exact ⟨0, rfl, hB, fun m h => by cases h⟩
    | cons x r =>
      have h1 : s.size = r.length + 1 := by rw [Tx.size, hl]; rfl
      have h0 : 0 < s.size := by omega
      have hx : s[0] = x := by
        have h : s.data.toList[0]? = some x := by rw [hl]; rfl
        have h2 : s.data.toList[0]? = some s[0] := by
          rw [List.getElem?_eq_getElem (by rw [← Tx.size]; exact h0)]; rfl
        rw [h2] at h
        exact Option.some.inj h
      have he : (s.toList == []) = false := by rw [ByteArray.toList_eq, hl]; rfl
      by_cases hx2 : x = 68
      · have hx3 : ((x.toNat : Int) != 68) = false := by rw [hx2]; rfl
        obtain ⟨zb, hz⟩ : ∃ zb, s.extract 1 s.size = zb := ⟨_, rfl⟩
        have hzl : zb.data.toList = r := by
          rw [← hz, Tx.extract, hl]
          exact List.take_of_length_le (by simp; omega)
        have hzs : zb.size = r.length := by rw [Tx.size, hzl]
        obtain ⟨R, hR⟩ : ∃ R, Dk.scan (r.length + 1) [] r = R := ⟨_, rfl⟩
        have hspec : Hid (Dk.opened (x :: r) (c : Int) = Dk.verdict c R) := by
          show _ = _
          unfold Dk.opened
          rw [if_neg hc]
          simp only
          rw [if_pos hx2, hR]
        obtain ⟨Z, hZ⟩ : ∃ Z, Dk.opened (x :: r) (c : Int) = Z := ⟨_, rfl⟩
        rw [hZ] at hspec ⊢
        clear hZ
        have hi1 : (1 : Int) ≤ (s.size : Int) := by omega
        have HX := Lib.hid hx2
        have HZ := Lib.hid hz
        have HZL := Lib.hid hzl
        have HR := Lib.hid hR
        have HZS := Lib.hid (And.intro hzs h1)
        clear hx2 hl hz hzl hR hzs h1
        go_enter Try.func11, Try.ntmps11
        go_wp2_with (go_at_call 9; refine hcall.mono ?_; rintro e w' ⟨d, F, rfl, ⟨b, L, hS, rfl⟩, hB, hF⟩)
        rw [HZ.out]
        have h0 : Dk.OpSt W w' d b c R zb ⟨#[]⟩ (r.length + 1) [] L := ⟨by rw [HZL.out]; exact HR.out, by have := HZS.out.1; omega, by have := HZS.out.1; have := HZS.out.2; omega, rfl, Dk.Fine.nil, hS, hF, hB⟩
        clear hcall hS hF hB HZ
        go_loopw [8, 7] (fun v l wr => ∃ zb lb fu acc L, v = .string zb ∧ l = .string lb ∧ Dk.OpSt W wr d b c R zb lb fu acc L) (fun v _ _ => Dk.lenOf v)
        case atStart => exact ⟨zb, _, _, _, _, rfl, rfl, h0⟩
        case round =>
          obtain ⟨zb, lb, fu, acc, L, rfl, rfl, hO⟩ := hrel
          have hcall := Dk.one_any zb hO.small wr
          cases hl : zb.data.toList with
          | nil =>
            have hb1 : (zb.toList == []) = true := by rw [ByteArray.toList_eq, hl]; rfl
            have hRR : R = some acc := by
              have h1 := hO.text
              have h2 := hO.len
              obtain ⟨n, rfl⟩ : ∃ n, fu = n + 1 := ⟨fu - 1, by omega⟩
              rw [hl, Dk.scan_nil] at h1
              exact h1.symm
            have hsp := hspec.out
            rw [hRR] at hsp
            unfold Dk.verdict at hsp
            simp only at hsp
            obtain ⟨c0, c1, c2, _⟩ := hO.st.eight
            obtain ⟨u, hu⟩ : ∃ u, Dk.used acc = u := ⟨_, rfl⟩
            have c2' : wr.cell? ⟨d, 2, none⟩ = some (.int .i64 (u : Int)) := by rw [← hu]; exact c2
            rw [hu] at hsp
            have hA : Dk.At wr d { Dk.fresh c with files := acc } (Dk.foot d b L) := ⟨b, L, hO.st, rfl⟩
            have hB := hO.below
            have hF := hO.foot
            clear hcall hl hO hRR c2 hu c0 c1 HR HZL HZS hspec
            by_cases hcu : (c : Int) < u
            · have u1 : decide (c < u) = true := decide_eq_true (by omega)
              rw [if_pos hcu] at hsp
              have HSP := Lib.hid hsp
              clear hsp hcu
              go_wp2_with fail
              go_ret2
              exact ⟨0, by rw [HSP.out]; rfl, hB, fun m h => by rw [HSP.out] at h; cases h⟩
            · have u1 : decide (c < u) = false := decide_eq_false (by omega)
              rw [if_neg hcu] at hsp
              have HSP := Lib.hid hsp
              clear hsp hcu
              go_wp2_with fail
              go_ret2
              refine ⟨d, by rw [HSP.out]; rfl, hB, fun m h => ?_⟩
              rw [HSP.out] at h
              injection h with h
              subst h
              exact ⟨_, hA, hF⟩
          | cons y t =>
            have hb1 : (zb.toList == []) = false := by rw [ByteArray.toList_eq, hl]; rfl
            cases ho : Dk.one (y :: t) with
            | none =>
              rw [hl, ho] at hcall
              unfold Dk.oneV at hcall
              have hRR : R = none := by
                have h1 := hO.text
                have h2 := hO.len
                obtain ⟨n, rfl⟩ : ∃ n, fu = n + 1 := ⟨fu - 1, by omega⟩
                rw [hl, Dk.scan_none (by simp) ho] at h1
                exact h1.symm
              have hsp := hspec.out
              rw [hRR] at hsp
              unfold Dk.verdict at hsp
              simp only at hsp
              have HSP := Lib.hid hsp
              have hB := hO.below
              clear hl hO hRR HR HZL HZS hspec hsp ho
              go_wp2_with (go_at_call 38; refine hcall.mono ?_; rintro e w' ⟨⟨k, rfl⟩, rfl⟩)
              go_ret2
              exact ⟨0, by rw [HSP.out]; rfl, below_dn hB _, fun m h => by rw [HSP.out] at h; cases h⟩
            | some q =>
              obtain ⟨nm, data, rest⟩ := q
              rw [hl, ho] at hcall
              unfold Dk.oneV at hcall
              obtain ⟨g1, g2, g3⟩ := Dk.one_good ho
              obtain ⟨nb, hnb, hnbs⟩ := Tx.of nm
              obtain ⟨db, hdb, hdbs⟩ := Tx.of data
              obtain ⟨rb, hrb, hrbs⟩ := Tx.of rest
              simp only [Tx.v_eq hnb, Tx.v_eq hdb, Tx.v_eq hrb] at hcall
              have hcall2 := hcall.mono fun e w' h => (show Dk.OpSt W w' d b c R zb lb fu acc L ∧ e = .returned (.tuple #[.string nb, .string db, .string rb, .bool true]) from by
                obtain ⟨⟨k, rfl⟩, rfl⟩ := h
                have hB : Below W.heap.size W (wr.drewN k) := below_dn hO.below _
                exact ⟨⟨hO.text, hO.len, hO.small, hO.last, hO.fine, hO.st.later (below_dn (Below.refl wr.heap.size wr) _) (Nat.le_refl _), hO.foot, hB⟩, rfl⟩)
              have hzb : zb.size = (y :: t).length := by rw [Tx.size, hl]
              have hst : Hid (Dk.scan (fu - 1) (acc ++ [⟨nm, data, data.length⟩]) rest = R ∨ ¬ (bytesBefore (Dk.lastN acc) nm = true ∧ acc.length ≠ 4096)) := by
                by_cases hcc : bytesBefore (Dk.lastN acc) nm = true ∧ acc.length ≠ 4096
                · refine .inl ?_
                  have h1 := hO.text
                  have h2 := hO.len
                  obtain ⟨n, rfl⟩ : ∃ n, fu = n + 1 := ⟨fu - 1, by omega⟩
                  rw [hl, Dk.scan_some (by simp) ho, if_pos hcc] at h1
                  exact h1
                · exact .inr hcc
              have hbad : ¬ (bytesBefore (Dk.lastN acc) nm = true ∧ acc.length ≠ 4096) → Hid (Z = .error 46) := by
                intro hcc
                have h1 := hO.text
                have h2 := hO.len
                obtain ⟨n, rfl⟩ : ∃ n, fu = n + 1 := ⟨fu - 1, by omega⟩
                rw [hl, Dk.scan_some (by simp) ho, if_neg hcc] at h1
                show _ = _
                rw [hspec.out, ← h1]
                rfl
              have hlast := hO.last
              rw [← hlast, ← hnb] at hbad hst
              have hfu := hO.len
              rw [hzb, g3] at hfu
              have hsm := hO.small
              rw [hzb, g3] at hsm
              have HZB := Lib.hid (hzb.trans g3)
              clear hcall hl hO ho hzb HR HZL HZS hspec hlast
              cases a1 : bytesBefore lb.data.toList nb.data.toList with
              | true =>
                have hleq := Dk.run_leq (P := Try.prog) nb lb 9 _ a1
                by_cases hm : acc.length = 4096
                · have HSP := hbad (fun h => h.2 hm)
                  have hm2 : ((acc.length : Int) == 4096) = true := by rw [hm]; rfl
                  clear hbad hst hm
                  go_wp2_with (go_at_call 38; refine hcall2.mono ?_; rintro e w3 ⟨hO, rfl⟩; obtain ⟨c0, c1, c2, _⟩ := hO.st.eight; have hlen := hO.st.run_len)
                  go_ret2
                  exact ⟨0, by rw [HSP.out]; rfl, hO.below, fun m h => by rw [HSP.out] at h; cases h⟩
                · have hm2 : ((acc.length : Int) == 4096) = false := by rw [beq_eq_false_iff_ne]; omega
                  have HM := Lib.hid hm
                  have HA := Lib.hid a1
                  clear hbad hm
                  go_upto_region 12 with (go_at_call 38; refine hcall2.mono ?_; rintro e w3 ⟨hO, rfl⟩; obtain ⟨c0, c1, c2, _⟩ := hO.st.eight; have hlen := hO.st.run_len)
                  obtain ⟨g5, cap5, w5, hcv, hrow, hvb, hB5, hs5⟩ := Dk.conv_bytes w3 db (by unfold maxLen; omega)
                  obtain ⟨u, hu⟩ : ∃ u, Dk.used (acc ++ [(⟨nm, data, data.length⟩ : Dk.F)]) = u := ⟨_, rfl⟩
                  obtain ⟨u0, hu0⟩ : ∃ u0, Dk.used acc = u0 := ⟨_, rfl⟩
                  have huu : u = u0 + db.size := by
                    rw [← hu, Dk.used_append, hu0, hdbs]
                    show _ + (data.length + 0) = _
                    omega
                  have hu1 := hO.fine.used
                  have c2' : ∀ w' : World, w'.heap[d]? = w3.heap[d]? → w'.cell? ⟨d, 2, none⟩ = some (.int .i64 (u0 : Int)) ∧ w'.frozen? ⟨d, 2, none⟩ = false := fun w' hw => by
                    have hb : Blk w' d _ _ := hw.trans hO.st.disk
                    refine ⟨?_, hb.frozen 2⟩
                    rw [← hu0]
                    exact hb.cell 2
                  have hwr : IntKind.i64.wrap ((u0 : Int) + (db.size : Int)) = (u : Int) := (IntWalk.i64_in _ (by omega)).trans (by omega)
                  have hkey : keyOf Try.prog 9 (.string nb) = some (.string nm) := by
                    have : nb.size ≤ maxLen := by unfold maxLen; omega
                    simp [keyOf, Try.underlying9, mapKey, this, hnb]
                  have hlt := hO.st.disk.lt
                  have hbt := hO.st.map.lt
                  have hne : d ≠ b := fun e => hO.st.lone b (.inl rfl) e.symm
                  have HU := Lib.hid hu
                  have HNB := Lib.hid hnb
                  have HDB := Lib.hid hdb
                  have HRB := Lib.hid hrb
                  have HS := Lib.hid (And.intro hnbs (And.intro hdbs hrbs))
                  clear hu hu0 huu hnb hdb hrb hnbs hdbs hrbs c2 c1
                  go_wp2_with (at_mapUpdate; refine wpList_mapUpdate_own _ rfl _ _ _ 75 rfl 9 80 Dk.strKeyed Try.underlying75 Dk.R b L.length (Dk.dat L) rfl (Dk.map_keep hO.st.map ((Below.heap_alloc w5 _ b (by have := hs5.out; omega)).trans (hB5.block b hbt))) (by have := hO.fine.many; have := congrArg List.length hO.st.fs; simp at this; unfold maxLen; omega) (.string nb) (.pointer (some ⟨w5.heap.size, 0, none⟩)) (.string nm) rfl rfl hkey (.lit (.int .i64 w5.heap.size)) [] (Dk.R_ptr _) ?_; intro w6 hown6 hg6; obtain ⟨d2, f2⟩ := c2' w6 ((hg6.block d (by have := hs5.out; simp; omega) (fun e => hne (Option.some.inj e))).trans ((Below.heap_alloc w5 _ d (by have := hs5.out; omega)).trans (hB5.block d hlt))))
                  have hHS := HS.out
                  have hst2 : Dk.scan (fu - 1) (acc ++ [⟨nm, data, data.length⟩]) rb.data.toList = R := by
                    rw [HRB.out]
                    rcases hst.out with h | h
                    · rw [HNB.out] at h; exact h
                    · exact absurd ⟨HA.out, HM.out⟩ h
                  refine ⟨⟨rb, nb, fu - 1, acc ++ [⟨nm, data, data.length⟩], Dk.ins Dk.X.nm ⟨⟨nm, data, data.length⟩, w5.heap.size, .slice (some ⟨g5, 0, none⟩) db.size cap5⟩ L, rfl, rfl, ?_⟩, ?_⟩
                  · rw [← HU.out]
                    exact hO.step g1 g2 HNB.out HDB.out hst2 (by omega) (by omega) (by rw [← hO.last, ← HNB.out]; exact HA.out) HM.out hrow hvb.out hB5 hs5.out hown6 hg6
                  · show rb.size < zb.size
                    have := HZB.out
                    omega
              | false =>
                have hleq := Dk.run_leq (P := Try.prog) nb lb 9 _ a1
                have HSP := hbad (fun h => by rw [a1] at h; cases h.1)
                clear hbad hst
                go_wp2_with (go_at_call 38; refine hcall2.mono ?_; rintro e w3 ⟨hO, rfl⟩; obtain ⟨c0, c1, c2, _⟩ := hO.st.eight; have hlen := hO.st.run_len)
                go_ret2
                exact ⟨0, by rw [HSP.out]; rfl, hO.below, fun m h => by rw [HSP.out] at h; cases h⟩
      · have ho : Dk.opened (x :: r) (c : Int) = .error 46 := by
          unfold Dk.opened
          rw [if_neg hc]
          simp only
          rw [if_neg hx2]
        have hx3 : ((x.toNat : Int) != 68) = true := by
          rw [bne_iff_ne]
          intro e
          exact hx2 (UInt8.toNat_inj.1 (by show x.toNat = 68; omega))
        rw [ho]
        clear hl h1
        go_enter Try.func11, Try.ntmps11
        go_wp2_with (go_at_call 9; refine hcall.mono ?_; rintro e w' ⟨d, F, rfl, hA, hB, hF⟩)
        go_ret2
        exact ⟨0, rfl, hB, fun m h => by cases h⟩
end Go.Proofs.Ytgbeeghdoilmkaa
