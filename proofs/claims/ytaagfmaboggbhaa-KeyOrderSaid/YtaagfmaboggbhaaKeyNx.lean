/-
  The walk of key.Next, and of the laws' alive.
-/
import Derived.Test.YtaagfmaboggbhaaKeyCmp
namespace Go.Proofs.Ytaagfmaboggbhaa.key
open Go.RowKit
set_option linter.unusedVariables false

set_option maxRecDepth 100000 in
set_option maxHeartbeats 1600000 in
theorem next1 (v b s s' : Int) (h0 : 0 ≤ s) (h1 : s < 18446744073709551615) (hs : s + 1 = s') (w : World) :
    Calls Try.prog 24 #[.agg #[.int .u16 v, .int .u32 b, .int .u64 s]] w fun e w' => e = .returned (.tuple #[.agg #[.int .u16 v, .int .u32 b, .int .u64 s'], .bool true]) ∧ Below w.heap.size w w' := by
  have e1 : IntKind.u64.wrap (s + 1) = s' := by rw [hs]; exact IntWalk.u64_in _ (by omega)
  have t1 : (s' == 0) = false := by rw [beq_eq_false_iff_ne]; omega
  have t2 : (s' != 0) = true := by rw [bne_iff_ne]; omega
  clear hs
  go_enter Try.func24, Try.ntmps24
  go_wp2_with fail
  go_region_with fail
  all_goals
    go_wp2
    refine bodyPost_ret (v := .tuple #[.agg #[.int .u16 v, .int .u32 b, .int .u64 s'], .bool true]) (by simp [results, Try.results24, go_sem]) rfl ⟨rfl, ?_⟩
    exact (((Below.refl _ w).alloc (Nat.le_refl _) _).alloc (by simp) _).drew

set_option maxRecDepth 100000 in
set_option maxHeartbeats 1600000 in
theorem next2 (v b b' : Int) (h0 : 0 ≤ b) (h1 : b < 4294967295) (hb : b + 1 = b') (w : World) :
    Calls Try.prog 24 #[.agg #[.int .u16 v, .int .u32 b, .int .u64 18446744073709551615]] w fun e w' => e = .returned (.tuple #[.agg #[.int .u16 v, .int .u32 b', .int .u64 0], .bool true]) ∧ Below w.heap.size w w' := by
  have e1 : IntKind.u64.wrap 18446744073709551616 = 0 := by decide
  have e2 : b + 1 = b' := hb
  have t1 : (b' == 0) = false := by rw [beq_eq_false_iff_ne]; omega
  have t2 : (b' != 0) = true := by rw [bne_iff_ne]; omega
  clear hb
  go_enter Try.func24, Try.ntmps24
  go_wp2_with fail
  go_region_with fail
  all_goals
    go_wp2
    refine bodyPost_ret (v := .tuple #[.agg #[.int .u16 v, .int .u32 b', .int .u64 0], .bool true]) (by simp [results, Try.results24, go_sem]) rfl ⟨rfl, ?_⟩
    exact (((Below.refl _ w).alloc (Nat.le_refl _) _).alloc (by simp) _).drew

set_option maxRecDepth 100000 in
set_option maxHeartbeats 1600000 in
theorem next3 (v v' : Int) (h0 : 0 ≤ v) (h1 : v < 65535) (hv : v + 1 = v') (w : World) :
    Calls Try.prog 24 #[.agg #[.int .u16 v, .int .u32 4294967295, .int .u64 18446744073709551615]] w fun e w' => e = .returned (.tuple #[.agg #[.int .u16 v', .int .u32 0, .int .u64 0], .bool true]) ∧ Below w.heap.size w w' := by
  have e1 : IntKind.u64.wrap 18446744073709551616 = 0 := by decide
  have e3 : IntKind.u16.wrap (v + 1) = v' := by rw [hv]; exact IntWalk.u16_in _ (by omega)
  have t1 : (v' == 0) = false := by rw [beq_eq_false_iff_ne]; omega
  have t2 : (v' != 0) = true := by rw [bne_iff_ne]; omega
  clear hv
  go_enter Try.func24, Try.ntmps24
  go_wp2_with fail
  go_region_with fail
  all_goals
    go_wp2
    refine bodyPost_ret (v := .tuple #[.agg #[.int .u16 v', .int .u32 0, .int .u64 0], .bool true]) (by simp [results, Try.results24, go_sem]) rfl ⟨rfl, ?_⟩
    exact (((Below.refl _ w).alloc (Nat.le_refl _) _).alloc (by simp) _).drew

set_option maxRecDepth 100000 in
set_option maxHeartbeats 1600000 in
theorem next4  (w : World) :
    Calls Try.prog 24 #[.agg #[.int .u16 65535, .int .u32 4294967295, .int .u64 18446744073709551615]] w fun e w' => e = .returned (.tuple #[.agg #[.int .u16 0, .int .u32 0, .int .u64 0], .bool false]) ∧ Below w.heap.size w w' := by
  have e1 : IntKind.u64.wrap 18446744073709551616 = 0 := by decide
  have e3 : IntKind.u16.wrap 65536 = 0 := by decide
  go_enter Try.func24, Try.ntmps24
  go_wp2_with fail
  go_region_with fail
  all_goals
    go_wp2
    refine bodyPost_ret (v := .tuple #[.agg #[.int .u16 0, .int .u32 0, .int .u64 0], .bool false]) (by simp [results, Try.results24, go_sem]) rfl ⟨rfl, ?_⟩
    exact (((Below.refl _ w).alloc (Nat.le_refl _) _).alloc (by simp) _).drew

set_option maxHeartbeats 800000 in
/-- The chapter's example. -/
theorem alive_true (w : World) : Calls Try.prog 26 #[] w fun e w' => e = .returned (.bool true) ∧ Below w.heap.size w w' := by
  have h := next2 1 2 3 (by decide) (by decide) (by decide)
  have HX := Lib.hid h
  clear h
  go_enter Try.func26, Try.ntmps26
  go_wp2_with fail
  refine (HX.out _).mono ?_
  rintro e w' ⟨rfl, hb⟩
  have HB := Lib.hid hb
  clear hb
  go_wp2_with fail
  go_ret
  exact ⟨rfl, HB.out.alloc HB.out.size _⟩

end Go.Proofs.Ytaagfmaboggbhaa.key
