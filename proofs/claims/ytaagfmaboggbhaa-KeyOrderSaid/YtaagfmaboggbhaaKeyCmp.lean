/-
  The walk of key.Compare.
-/
import Derived.Test.YtaagfmaboggbhaaKey
import Derived.StillTailTactics
namespace Go.Proofs.Ytaagfmaboggbhaa.key
open Go.RowKit
set_option linter.unusedVariables false

set_option maxRecDepth 100000 in
set_option maxHeartbeats 1600000 in
theorem compare_any (v b s v' b' s' : Int) (w : World) :
    Calls Try.prog 30 #[.agg #[.int .u16 v, .int .u32 b, .int .u64 s], .agg #[.int .u16 v', .int .u32 b', .int .u64 s']] w fun e w' => e = .returned (.int .i64 (cmpK v b s v' b' s')) ∧ Below w.heap.size w w' := by
  have hr : (if cmpI v v' ≠ 0 then cmpI v v' else if cmpI b b' ≠ 0 then cmpI b b' else cmpI s s') = cmpK v b s v' b' s' := rfl
  generalize cmpK v b s v' b' s' = r at *
  have HR := Lib.hid hr
  clear hr
  go_enter Try.func30, Try.ntmps30
  go_wp2_with fail
  generalize hc1 : cmpI v v' = y1 at *
  generalize hc2 : cmpI b b' = y2 at *
  generalize hc3 : cmpI s s' = y3 at *
  have HC1 := Lib.hid hc1
  have HC2 := Lib.hid hc2
  have HC3 := Lib.hid hc3
  clear hc1 hc2 hc3
  have q0 := fun k u h => cell_new w #[Value.int IntKind.u16 v, Value.int IntKind.u32 b, Value.int IntKind.u64 s] 49 w.heap.size k u rfl h
  obtain ⟨W, hW⟩ : ∃ W, W = (w.alloc (Obj.cells #[Value.int IntKind.u16 v, Value.int IntKind.u32 b, Value.int IntKind.u64 s] 49)).alloc (Obj.cells #[Value.int IntKind.u16 v', Value.int IntKind.u32 b', Value.int IntKind.u64 s'] 49) := ⟨_, rfl⟩
  have g0 : W.cell? ⟨w.heap.size, 0, none⟩ = some (.int .u16 v) := by rw [hW, cell_old (by simp)]; exact q0 0 _ rfl
  have g1 : W.cell? ⟨w.heap.size, 1, none⟩ = some (.int .u32 b) := by rw [hW, cell_old (by simp)]; exact q0 1 _ rfl
  have g2 : W.cell? ⟨w.heap.size, 2, none⟩ = some (.int .u64 s) := by rw [hW, cell_old (by simp)]; exact q0 2 _ rfl
  have g3 : W.cell? ⟨w.heap.size + 1, 0, none⟩ = some (.int .u16 v') := by rw [hW]; exact cell_new _ _ _ _ _ _ (by simp) rfl
  have g4 : W.cell? ⟨w.heap.size + 1, 1, none⟩ = some (.int .u32 b') := by rw [hW]; exact cell_new _ _ _ _ _ _ (by simp) rfl
  have g5 : W.cell? ⟨w.heap.size + 1, 2, none⟩ = some (.int .u64 s') := by rw [hW]; exact cell_new _ _ _ _ _ _ (by simp) rfl
  have HB := Lib.hid (show Below w.heap.size w W by rw [hW]; exact ((Below.refl _ w).alloc (Nat.le_refl _) _).alloc (by simp) _)
  rw [← hW]
  clear q0 hW
  have q := fun k u h => cell_new W.drew #[Value.int IntKind.i64 y1, Value.int IntKind.i64 y2, Value.int IntKind.i64 y3] 3 W.drew.heap.size k u rfl h
  go_still_tail 15, (by kernel_rfl)
  still_call (((cmp16 v v' _).mono (fun e w' h => ⟨h.1, h.2.symm⟩)))
  repeat still_step
  still_call (((cmp32 b b' _).mono (fun e w' h => ⟨h.1, h.2.symm⟩)))
  repeat still_step
  still_call (((cmp64 s s' _).mono (fun e w' h => ⟨h.1, h.2.symm⟩)))
  repeat still_step
  refine wpStill_nil ?_
  rw [HC1.out, HC2.out, HC3.out]
  change wpList _ _ _ _ _ W.drew
  have HB2 := Lib.hid HB.out.drew
  generalize W.drew = w2 at *
  have h0 := q 0 (.int .i64 y1) rfl
  have h1 := q 1 (.int .i64 y2) rfl
  have h2 := q 2 (.int .i64 y3) rfl
  have ho := orI y1 y2 y3 r HR.out _ _ h0 h1 h2
  clear h0 h1 h2 q
  have HX := Lib.hid ho
  clear ho
  go_wp2_with fail
  refine (HX.out).mono ?_
  rintro e w1 ⟨rfl, rfl⟩
  go_wp2
  go_ret
  exact ⟨rfl, HB2.out.alloc HB2.out.size _⟩

theorem cmpK_lt (v b s v' b' s' : Int) : cmpK v b s v' b' s' < 0 ↔ (v < v' ∨ (v = v' ∧ (b < b' ∨ (b = b' ∧ s < s')))) := by
  unfold cmpK cmpI
  (repeat' split) <;> omega

set_option maxHeartbeats 800000 in
theorem less_any (v b s v' b' s' : Int) (w : World) :
    Calls Try.prog 27 #[.agg #[.int .u16 v, .int .u32 b, .int .u64 s], .agg #[.int .u16 v', .int .u32 b', .int .u64 s']] w fun e w' => e = .returned (.bool (decide (cmpK v b s v' b' s' < 0))) ∧ Below w.heap.size w w' := by
  go_enter Try.func27, Try.ntmps27
  have h := compare_any v b s v' b' s'
  generalize cmpK v b s v' b' s' = r at *
  go_wp2_with fail
  refine (h _).mono ?_
  rintro e w' ⟨rfl, hb⟩
  have HB := Lib.hid (nextB (((Below.refl _ w).alloc (Nat.le_refl _) _).alloc (by simp) _) (Nat.le_refl _) hb)
  clear hb h
  go_wp2_with fail
  go_ret
  exact ⟨rfl, HB.out⟩

end Go.Proofs.Ytaagfmaboggbhaa.key
