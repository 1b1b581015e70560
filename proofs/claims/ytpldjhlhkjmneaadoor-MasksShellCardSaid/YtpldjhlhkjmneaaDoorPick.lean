/- Contracts of kindredlaw2.pick and num. Conditions: each theorem's own hypotheses. -/
import Derived.Test.YtpldjhlhkjmneaaDoorMasksA
namespace Go.Proofs.YtpldjhlhkjmneaaDoor
open Go.RowKit

theorem tmod_emod (k n : Int) (hn : 0 < n) : k % n = if k.tmod n < 0 then k.tmod n + n else k.tmod n := by
  have h1 := Int.emod_nonneg k (show n ≠ 0 by omega)
  have h2 := Int.emod_lt_of_pos k hn
  rw [Int.tmod_eq_emod]
  split <;> rename_i h
  · split <;> omega
  · have : (n.natAbs : Int) = n := by omega
    split <;> omega

theorem pick_any (k n : Int) (w : World) (hn : 0 < n) (hn2 : n ≤ 9223372036854775807) :
    Calls Tryd.prog 12 #[.int .i64 k, .int .i64 n] w fun e w' => (∃ r : Int, e = .returned (.int .i64 r) ∧ 0 ≤ r ∧ r < n) ∧ w = w' := by
  have h0 : ¬ n = 0 := by omega
  have h1 := Int.emod_nonneg k (show n ≠ 0 by omega)
  have h2 := Int.emod_lt_of_pos k hn
  have he := tmod_emod k n hn
  have H := Lib.hid he
  clear he
  have hb1 := Int.lt_tmod_of_pos k hn
  have hb2 := Int.tmod_lt_of_pos k hn
  by_cases hneg : k.tmod n < 0
  · go_enter Tryd.func12, Tryd.ntmps12
    go_wp2_with fail
    go_ret
    exact ⟨⟨_, rfl, by omega, by omega⟩, rfl⟩
  · go_enter Tryd.func12, Tryd.ntmps12
    go_wp2_with fail
    go_ret
    exact ⟨⟨_, rfl, by omega, by omega⟩, rfl⟩

theorem num_any (k : Int) (w : World) :
    Calls Tryd.prog 11 #[.int .i64 k] w fun e w' => e = .returned (.int .i64 k) ∧ w = w' := by
  go_enter Tryd.func11, Tryd.ntmps11
  go_wp2
  go_ret
  exact ⟨rfl, rfl⟩

end Go.Proofs.YtpldjhlhkjmneaaDoor
