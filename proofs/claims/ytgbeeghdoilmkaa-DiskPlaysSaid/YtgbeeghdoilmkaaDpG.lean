/- The law DiskPlays as the statement's arguments come. Conditions: each theorem's own hypotheses. -/
import Derived.Test.YtgbeeghdoilmkaaDpF
namespace Go.Proofs.Ytgbeeghdoilmkaa
open Go.RowKit Go.Maps Go.Sort
set_option linter.unusedVariables false

theorem Dp.plays_bare {W : World} (s : ByteArray) (n : Int) (A : Option Addr) (cp : Nat) (L : List Dw.S) (hz : s.size ≤ 140737488355328) (wn : (Lit.int .i64 n).wf = true) (hF : Dw.Steps W A L) (hl : L.length ≤ 1400000000000) :
    Calls Try.prog 7 #[.string s, .int .i64 n, .slice A L.length cp] W fun e W' => e = .returned (.bool true) ∧ Below W.heap.size W W' := by
  obtain ⟨p, q⟩ := bounds_i64 wn
  exact Dp.plays W s (Nat.le_trans hz (by decide)) n ⟨p, Int.lt_of_le_of_lt q (by decide)⟩ A cp L hF hl
end Go.Proofs.Ytgbeeghdoilmkaa
