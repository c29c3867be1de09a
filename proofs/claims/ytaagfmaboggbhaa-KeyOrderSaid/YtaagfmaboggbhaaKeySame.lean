/-
  The walks of key.Same, key.First, key.Last.
-/
import Derived.Test.YtaagfmaboggbhaaKeyNextW
import Derived.Deep.RegionHeld3
namespace Go.Proofs.Ytaagfmaboggbhaa.key
open Go.RowKit Go.ChangeShapes Go.WideShapes Go.ChangeAt Go.Joins
set_option linter.unusedVariables false

set_option maxHeartbeats 800000 in
theorem same_any (v b s v' b' s' : Int) (w : World) :
    Calls Try.prog 31 #[.agg #[.int .u16 v, .int .u32 b, .int .u64 s], .agg #[.int .u16 v', .int .u32 b', .int .u64 s']] w fun e w' => e = .returned (.bool (decide (v = v' ∧ b = b'))) ∧ Below w.heap.size w w' := by
  by_cases h : v = v'
  · subst h
    rw [show decide (v = v ∧ b = b') = (b == b') by by_cases h : b = b' <;> simp [h]]
    go_enter Try.func31, Try.ntmps31
    go_wp2_with fail
    go_ret
    exact ⟨rfl, (((Below.refl _ w).alloc (Nat.le_refl _) _).alloc (by simp) _)⟩
  · rw [decide_eq_false (fun q => h q.1)]
    have t1 : (v == v') = false := by rw [beq_eq_false_iff_ne]; exact h
    clear h
    go_enter Try.func31, Try.ntmps31
    go_wp2_with fail
    go_ret
    exact ⟨rfl, (((Below.refl _ w).alloc (Nat.le_refl _) _).alloc (by simp) _)⟩

set_option maxHeartbeats 800000 in
theorem first_any (v b : Int) (w : World) :
    Calls Try.prog 28 #[.int .u16 v, .int .u32 b] w fun e w' => e = .returned (.agg #[.int .u16 v, .int .u32 b, .int .u64 0]) ∧ Below w.heap.size w w' := by
  go_enter Try.func28, Try.ntmps28
  go_wp2_with fail
  refine bodyPost_ret (v := .agg #[.int .u16 v, .int .u32 b, .int .u64 0]) (by simp [results, Try.results28, go_sem]) rfl ⟨rfl, ?_⟩
  exact (Below.refl _ w).alloc (Nat.le_refl _) _

set_option maxHeartbeats 800000 in
theorem last_any (v b : Int) (w : World) :
    Calls Try.prog 29 #[.int .u16 v, .int .u32 b] w fun e w' => e = .returned (.agg #[.int .u16 v, .int .u32 b, .int .u64 18446744073709551615]) ∧ Below w.heap.size w w' := by
  go_enter Try.func29, Try.ntmps29
  go_wp2_with fail
  refine bodyPost_ret (v := .agg #[.int .u16 v, .int .u32 b, .int .u64 18446744073709551615]) (by simp [results, Try.results29, go_sem]) rfl ⟨rfl, ?_⟩
  exact (Below.refl _ w).alloc (Nat.le_refl _) _
end Go.Proofs.Ytaagfmaboggbhaa.key
