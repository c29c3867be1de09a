/-
  The contracts of package ring's function At and of the chapter's example, at this translation.
-/
import Derived.Test.YtigebiknlodghaaRows
import Derived.WalkKit
import Derived.Deep.QuietTactic
import Derived.BigQuiet
namespace Go.Proofs.Ytigebiknlodghaa.ring
open Go.RowKit
set_option linter.unusedVariables false

/-- ring.At. -/
theorem at_any (x log : Int) (h0 : 0 ≤ x) (h1 : 1 ≤ log) (h2 : log ≤ 4096) (w : World) :
    Calls Try.prog 13 #[.int .u64 x, .int .i64 log] w fun e w' => e = .returned (.int .i64 (2 + x % log)) ∧ w = w' := by
  have b1 : 0 ≤ x % log := Int.emod_nonneg _ (by omega)
  have b2 : x % log < log := Int.emod_lt_of_pos _ (by omega)
  go_enter Try.func13, Try.ntmps13
  go_wp2
  go_ret
  exact ⟨rfl, rfl⟩

/-- The chapter's example. -/
theorem alive_true (w : World) : Calls Try.prog 14 #[] w fun e w' => e = .returned (.bool true) ∧ w = w' := by
  go_enter Try.func14, Try.ntmps14
  go_wp2
  go_ret
  exact ⟨rfl, rfl⟩
end Go.Proofs.Ytigebiknlodghaa.ring
