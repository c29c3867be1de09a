/-
  The walk of the law KeyNext.
-/
import Derived.Test.YtaagfmaboggbhaaKeyNx
import Derived.ProofKit
import Derived.OpenShut
import Derived.Lib.SmallJoins
namespace Go.Proofs.Ytaagfmaboggbhaa.key
open Go.RowKit Go.ChangeShapes Go.WideShapes Go.ChangeAt Go.Joins
set_option linter.unusedVariables false

set_option maxHeartbeats 1600000 in
/-- There is a next one. -/
theorem nextlaw_ok (v b s v' b' s' v1 b1 s1 : Int) (hx : ∀ w, Calls Try.prog 24 #[.agg #[.int .u16 v, .int .u32 b, .int .u64 s]] w fun e w' => e = .returned (.tuple #[.agg #[.int .u16 v1, .int .u32 b1, .int .u64 s1], .bool true]) ∧ Below w.heap.size w w')
    (h1 : cmpK v b s v1 b1 s1 < 0) (h2 : ¬ (cmpK v b s v' b' s' < 0 ∧ cmpK v' b' s' v1 b1 s1 < 0)) (w : World) :
    Calls Try.prog 6 #[.agg #[.int .u16 v, .int .u32 b, .int .u64 s], .agg #[.int .u16 v', .int .u32 b', .int .u64 s']] w fun e w' => e = .returned (.bool true) ∧ Below w.heap.size w w' := by
  have l1 := less_any v b s v1 b1 s1
  have l2 := less_any v b s v' b' s'
  have l3 := less_any v' b' s' v1 b1 s1
  rw [decide_eq_true h1] at l1
  have L1 := Lib.hid l1
  have L2 := Lib.hid l2
  have L3 := Lib.hid l3
  have HX := Lib.hid hx
  clear hx h1 l1 l2 l3
  obtain ⟨O0, hO0⟩ : ∃ O, O = Obj.cells #[Value.int IntKind.u16 v, Value.int IntKind.u32 b, Value.int IntKind.u64 s] 49 := ⟨_, rfl⟩
  obtain ⟨O1, hO1⟩ : ∃ O, O = Obj.cells #[Value.int IntKind.u16 v', Value.int IntKind.u32 b', Value.int IntKind.u64 s'] 49 := ⟨_, rfl⟩
  have bx0 : Box ((w.alloc (Obj.cells #[Value.int IntKind.u16 v, Value.int IntKind.u32 b, Value.int IntKind.u64 s] 49)).alloc (Obj.cells #[Value.int IntKind.u16 v', Value.int IntKind.u32 b', Value.int IntKind.u64 s'] 49)) w.heap.size 49 #[Value.int IntKind.u16 v, Value.int IntKind.u32 b, Value.int IntKind.u64 s] := (Box.new w #[Value.int IntKind.u16 v, Value.int IntKind.u32 b, Value.int IntKind.u64 s] 49).alloc _
  have bx1 : Box ((w.alloc (Obj.cells #[Value.int IntKind.u16 v, Value.int IntKind.u32 b, Value.int IntKind.u64 s] 49)).alloc (Obj.cells #[Value.int IntKind.u16 v', Value.int IntKind.u32 b', Value.int IntKind.u64 s'] 49)) (w.heap.size + 1) 49 #[Value.int IntKind.u16 v', Value.int IntKind.u32 b', Value.int IntKind.u64 s'] := by
    have := Box.new (w.alloc (Obj.cells #[Value.int IntKind.u16 v, Value.int IntKind.u32 b, Value.int IntKind.u64 s] 49)) #[Value.int IntKind.u16 v', Value.int IntKind.u32 b', Value.int IntKind.u64 s'] 49
    rw [show (w.alloc (Obj.cells #[Value.int IntKind.u16 v, Value.int IntKind.u32 b, Value.int IntKind.u64 s] 49)).heap.size = w.heap.size + 1 by simp] at this
    exact this
  have BX0 := Lib.hid bx0
  have BX1 := Lib.hid bx1
  clear bx0 bx1 hO0 hO1
  go_enter Try.func6, Try.ntmps6
  go_wp2_with fail
  refine (HX.out _).mono ?_
  rintro e w1 ⟨rfl, hb1⟩
  have X0 := Lib.hid ((BX0.out.below hb1 BX0.out.lt).alloc (Obj.cells #[Value.int IntKind.u16 v1, Value.int IntKind.u32 b1, Value.int IntKind.u64 s1] 49))
  have X1 := Lib.hid ((BX1.out.below hb1 BX1.out.lt).alloc (Obj.cells #[Value.int IntKind.u16 v1, Value.int IntKind.u32 b1, Value.int IntKind.u64 s1] 49))
  have X2 := Lib.hid (Box.new w1 #[Value.int IntKind.u16 v1, Value.int IntKind.u32 b1, Value.int IntKind.u64 s1] 49)
  have HB1 := Lib.hid (nextB (((Below.refl _ w).alloc (Nat.le_refl _) (Obj.cells #[Value.int IntKind.u16 v, Value.int IntKind.u32 b, Value.int IntKind.u64 s] 49)).alloc (by simp) (Obj.cells #[Value.int IntKind.u16 v', Value.int IntKind.u32 b', Value.int IntKind.u64 s'] 49)) (Nat.le_refl _) hb1)
  have HB := Lib.hid (HB1.out.alloc HB1.out.size (Obj.cells #[Value.int IntKind.u16 v1, Value.int IntKind.u32 b1, Value.int IntKind.u64 s1] 49))
  clear BX0 BX1 HB1 hb1
  have x00 : World.cell? (w1.alloc (Obj.cells #[Value.int IntKind.u16 v1, Value.int IntKind.u32 b1, Value.int IntKind.u64 s1] 49)) ⟨w.heap.size, 0, none⟩ = some (.int .u16 v) := (X0.out.cell 0).trans rfl
  have x01 : World.cell? (w1.alloc (Obj.cells #[Value.int IntKind.u16 v1, Value.int IntKind.u32 b1, Value.int IntKind.u64 s1] 49)) ⟨w.heap.size, 1, none⟩ = some (.int .u32 b) := (X0.out.cell 1).trans rfl
  have x02 : World.cell? (w1.alloc (Obj.cells #[Value.int IntKind.u16 v1, Value.int IntKind.u32 b1, Value.int IntKind.u64 s1] 49)) ⟨w.heap.size, 2, none⟩ = some (.int .u64 s) := (X0.out.cell 2).trans rfl
  have x10 : World.cell? (w1.alloc (Obj.cells #[Value.int IntKind.u16 v1, Value.int IntKind.u32 b1, Value.int IntKind.u64 s1] 49)) ⟨(w.heap.size + 1), 0, none⟩ = some (.int .u16 v') := (X1.out.cell 0).trans rfl
  have x11 : World.cell? (w1.alloc (Obj.cells #[Value.int IntKind.u16 v1, Value.int IntKind.u32 b1, Value.int IntKind.u64 s1] 49)) ⟨(w.heap.size + 1), 1, none⟩ = some (.int .u32 b') := (X1.out.cell 1).trans rfl
  have x12 : World.cell? (w1.alloc (Obj.cells #[Value.int IntKind.u16 v1, Value.int IntKind.u32 b1, Value.int IntKind.u64 s1] 49)) ⟨(w.heap.size + 1), 2, none⟩ = some (.int .u64 s') := (X1.out.cell 2).trans rfl
  have x20 : World.cell? (w1.alloc (Obj.cells #[Value.int IntKind.u16 v1, Value.int IntKind.u32 b1, Value.int IntKind.u64 s1] 49)) ⟨w1.heap.size, 0, none⟩ = some (.int .u16 v1) := (X2.out.cell 0).trans rfl
  have x21 : World.cell? (w1.alloc (Obj.cells #[Value.int IntKind.u16 v1, Value.int IntKind.u32 b1, Value.int IntKind.u64 s1] 49)) ⟨w1.heap.size, 1, none⟩ = some (.int .u32 b1) := (X2.out.cell 1).trans rfl
  have x22 : World.cell? (w1.alloc (Obj.cells #[Value.int IntKind.u16 v1, Value.int IntKind.u32 b1, Value.int IntKind.u64 s1] 49)) ⟨w1.heap.size, 2, none⟩ = some (.int .u64 s1) := (X2.out.cell 2).trans rfl
  go_wp2_with fail
  refine (L1.out _).mono ?_
  rintro e w2 ⟨rfl, hb2⟩
  have Y0 := Lib.hid (X0.out.below hb2 X0.out.lt)
  have Y1 := Lib.hid (X1.out.below hb2 X1.out.lt)
  have Y2 := Lib.hid (X2.out.below hb2 X2.out.lt)
  have HB' := Lib.hid (nextB HB.out (Nat.le_refl _) hb2)
  clear x00 x01 x02 x10 x11 x12 x20 x21 x22 X0 X1 X2 HB hb2
  have X0 := Y0; have X1 := Y1; have X2 := Y2; have HB := HB'
  clear Y0 Y1 Y2 HB'
  by_cases c1 : cmpK v b s v' b' s' < 0
  · have c2 : ¬ cmpK v' b' s' v1 b1 s1 < 0 := fun h => h2 ⟨c1, h⟩
    rw [decide_eq_true c1] at L2
    rw [decide_eq_false c2] at L3
    clear c1 c2 h2
    have x00 : World.cell? w2 ⟨w.heap.size, 0, none⟩ = some (.int .u16 v) := (X0.out.cell 0).trans rfl
    have x01 : World.cell? w2 ⟨w.heap.size, 1, none⟩ = some (.int .u32 b) := (X0.out.cell 1).trans rfl
    have x02 : World.cell? w2 ⟨w.heap.size, 2, none⟩ = some (.int .u64 s) := (X0.out.cell 2).trans rfl
    have x10 : World.cell? w2 ⟨(w.heap.size + 1), 0, none⟩ = some (.int .u16 v') := (X1.out.cell 0).trans rfl
    have x11 : World.cell? w2 ⟨(w.heap.size + 1), 1, none⟩ = some (.int .u32 b') := (X1.out.cell 1).trans rfl
    have x12 : World.cell? w2 ⟨(w.heap.size + 1), 2, none⟩ = some (.int .u64 s') := (X1.out.cell 2).trans rfl
    have x20 : World.cell? w2 ⟨w1.heap.size, 0, none⟩ = some (.int .u16 v1) := (X2.out.cell 0).trans rfl
    have x21 : World.cell? w2 ⟨w1.heap.size, 1, none⟩ = some (.int .u32 b1) := (X2.out.cell 1).trans rfl
    have x22 : World.cell? w2 ⟨w1.heap.size, 2, none⟩ = some (.int .u64 s1) := (X2.out.cell 2).trans rfl
    go_wp2_with fail
    refine (L2.out _).mono ?_
    rintro e w3 ⟨rfl, hb3⟩
    have Y0 := Lib.hid (X0.out.below hb3 X0.out.lt)
    have Y1 := Lib.hid (X1.out.below hb3 X1.out.lt)
    have Y2 := Lib.hid (X2.out.below hb3 X2.out.lt)
    have HB' := Lib.hid (nextB HB.out (Nat.le_refl _) hb3)
    clear x00 x01 x02 x10 x11 x12 x20 x21 x22 X0 X1 X2 HB hb3
    have X0 := Y0; have X1 := Y1; have X2 := Y2; have HB := HB'
    clear Y0 Y1 Y2 HB'
    have x00 : World.cell? w3 ⟨w.heap.size, 0, none⟩ = some (.int .u16 v) := (X0.out.cell 0).trans rfl
    have x01 : World.cell? w3 ⟨w.heap.size, 1, none⟩ = some (.int .u32 b) := (X0.out.cell 1).trans rfl
    have x02 : World.cell? w3 ⟨w.heap.size, 2, none⟩ = some (.int .u64 s) := (X0.out.cell 2).trans rfl
    have x10 : World.cell? w3 ⟨(w.heap.size + 1), 0, none⟩ = some (.int .u16 v') := (X1.out.cell 0).trans rfl
    have x11 : World.cell? w3 ⟨(w.heap.size + 1), 1, none⟩ = some (.int .u32 b') := (X1.out.cell 1).trans rfl
    have x12 : World.cell? w3 ⟨(w.heap.size + 1), 2, none⟩ = some (.int .u64 s') := (X1.out.cell 2).trans rfl
    have x20 : World.cell? w3 ⟨w1.heap.size, 0, none⟩ = some (.int .u16 v1) := (X2.out.cell 0).trans rfl
    have x21 : World.cell? w3 ⟨w1.heap.size, 1, none⟩ = some (.int .u32 b1) := (X2.out.cell 1).trans rfl
    have x22 : World.cell? w3 ⟨w1.heap.size, 2, none⟩ = some (.int .u64 s1) := (X2.out.cell 2).trans rfl
    go_wp2_with fail
    refine (L3.out _).mono ?_
    rintro e w4 ⟨rfl, hb4⟩
    have Y0 := Lib.hid (X0.out.below hb4 X0.out.lt)
    have Y1 := Lib.hid (X1.out.below hb4 X1.out.lt)
    have Y2 := Lib.hid (X2.out.below hb4 X2.out.lt)
    have HB' := Lib.hid (nextB HB.out (Nat.le_refl _) hb4)
    clear x00 x01 x02 x10 x11 x12 x20 x21 x22 X0 X1 X2 HB hb4
    have X0 := Y0; have X1 := Y1; have X2 := Y2; have HB := HB'
    clear Y0 Y1 Y2 HB'
    go_wp2_with fail
    refine (alive_true _).mono ?_
    rintro e w5 ⟨rfl, hb5⟩
    have HC := Lib.hid (nextB HB.out (Nat.le_refl _) hb5)
    clear hb5
    go_wp2_with fail
    go_ret
    exact ⟨rfl, HC.out⟩
  · rw [decide_eq_false c1] at L2
    clear c1 h2
    have x00 : World.cell? w2 ⟨w.heap.size, 0, none⟩ = some (.int .u16 v) := (X0.out.cell 0).trans rfl
    have x01 : World.cell? w2 ⟨w.heap.size, 1, none⟩ = some (.int .u32 b) := (X0.out.cell 1).trans rfl
    have x02 : World.cell? w2 ⟨w.heap.size, 2, none⟩ = some (.int .u64 s) := (X0.out.cell 2).trans rfl
    have x10 : World.cell? w2 ⟨(w.heap.size + 1), 0, none⟩ = some (.int .u16 v') := (X1.out.cell 0).trans rfl
    have x11 : World.cell? w2 ⟨(w.heap.size + 1), 1, none⟩ = some (.int .u32 b') := (X1.out.cell 1).trans rfl
    have x12 : World.cell? w2 ⟨(w.heap.size + 1), 2, none⟩ = some (.int .u64 s') := (X1.out.cell 2).trans rfl
    have x20 : World.cell? w2 ⟨w1.heap.size, 0, none⟩ = some (.int .u16 v1) := (X2.out.cell 0).trans rfl
    have x21 : World.cell? w2 ⟨w1.heap.size, 1, none⟩ = some (.int .u32 b1) := (X2.out.cell 1).trans rfl
    have x22 : World.cell? w2 ⟨w1.heap.size, 2, none⟩ = some (.int .u64 s1) := (X2.out.cell 2).trans rfl
    go_wp2_with fail
    refine (L2.out _).mono ?_
    rintro e w3 ⟨rfl, hb3⟩
    have Y0 := Lib.hid (X0.out.below hb3 X0.out.lt)
    have Y1 := Lib.hid (X1.out.below hb3 X1.out.lt)
    have Y2 := Lib.hid (X2.out.below hb3 X2.out.lt)
    have HB' := Lib.hid (nextB HB.out (Nat.le_refl _) hb3)
    clear x00 x01 x02 x10 x11 x12 x20 x21 x22 X0 X1 X2 HB hb3
    have X0 := Y0; have X1 := Y1; have X2 := Y2; have HB := HB'
    clear Y0 Y1 Y2 HB'
    have x00 : World.cell? w3 ⟨w.heap.size, 0, none⟩ = some (.int .u16 v) := (X0.out.cell 0).trans rfl
    have x01 : World.cell? w3 ⟨w.heap.size, 1, none⟩ = some (.int .u32 b) := (X0.out.cell 1).trans rfl
    have x02 : World.cell? w3 ⟨w.heap.size, 2, none⟩ = some (.int .u64 s) := (X0.out.cell 2).trans rfl
    have x10 : World.cell? w3 ⟨(w.heap.size + 1), 0, none⟩ = some (.int .u16 v') := (X1.out.cell 0).trans rfl
    have x11 : World.cell? w3 ⟨(w.heap.size + 1), 1, none⟩ = some (.int .u32 b') := (X1.out.cell 1).trans rfl
    have x12 : World.cell? w3 ⟨(w.heap.size + 1), 2, none⟩ = some (.int .u64 s') := (X1.out.cell 2).trans rfl
    have x20 : World.cell? w3 ⟨w1.heap.size, 0, none⟩ = some (.int .u16 v1) := (X2.out.cell 0).trans rfl
    have x21 : World.cell? w3 ⟨w1.heap.size, 1, none⟩ = some (.int .u32 b1) := (X2.out.cell 1).trans rfl
    have x22 : World.cell? w3 ⟨w1.heap.size, 2, none⟩ = some (.int .u64 s1) := (X2.out.cell 2).trans rfl
    go_wp2_with fail
    refine (alive_true _).mono ?_
    rintro e w5 ⟨rfl, hb5⟩
    have HC := Lib.hid (nextB HB.out (Nat.le_refl _) hb5)
    clear hb5
    go_wp2_with fail
    go_ret
    exact ⟨rfl, HC.out⟩

set_option maxHeartbeats 1600000 in
/-- There is no next one. -/
theorem nextlaw_no (v' b' s' : Int) (a0 : 0 ≤ v') (a1 : v' ≤ 65535) (b0 : 0 ≤ b') (b1 : b' ≤ 4294967295) (d1 : s' ≤ 18446744073709551615) (w : World) :
    Calls Try.prog 6 #[.agg #[.int .u16 65535, .int .u32 4294967295, .int .u64 18446744073709551615], .agg #[.int .u16 v', .int .u32 b', .int .u64 s']] w fun e w' => e = .returned (.bool true) ∧ Below w.heap.size w w' := by
  have h1 := law_any v' b' s' 65535 4294967295 18446744073709551615 a0 a1 b0 b1 (by decide) (by decide) (by decide) (by decide)
  have hc : cmpK v' b' s' 65535 4294967295 18446744073709551615 ≤ 0 := by
    unfold cmpK cmpI
    (repeat' split) <;> omega
  generalize cmpK v' b' s' 65535 4294967295 18446744073709551615 = r at *
  have t1 : decide (r ≤ 0) = true := by simpa using hc
  have H1 := Lib.hid h1
  clear h1 hc
  have bx0 : Box ((w.alloc (Obj.cells #[Value.int IntKind.u16 65535, Value.int IntKind.u32 4294967295, Value.int IntKind.u64 18446744073709551615] 49)).alloc (Obj.cells #[Value.int IntKind.u16 v', Value.int IntKind.u32 b', Value.int IntKind.u64 s'] 49)) w.heap.size 49 #[Value.int IntKind.u16 65535, Value.int IntKind.u32 4294967295, Value.int IntKind.u64 18446744073709551615] := (Box.new w #[Value.int IntKind.u16 65535, Value.int IntKind.u32 4294967295, Value.int IntKind.u64 18446744073709551615] 49).alloc _
  have bx1 : Box ((w.alloc (Obj.cells #[Value.int IntKind.u16 65535, Value.int IntKind.u32 4294967295, Value.int IntKind.u64 18446744073709551615] 49)).alloc (Obj.cells #[Value.int IntKind.u16 v', Value.int IntKind.u32 b', Value.int IntKind.u64 s'] 49)) (w.heap.size + 1) 49 #[Value.int IntKind.u16 v', Value.int IntKind.u32 b', Value.int IntKind.u64 s'] := by
    have := Box.new (w.alloc (Obj.cells #[Value.int IntKind.u16 65535, Value.int IntKind.u32 4294967295, Value.int IntKind.u64 18446744073709551615] 49)) #[Value.int IntKind.u16 v', Value.int IntKind.u32 b', Value.int IntKind.u64 s'] 49
    rw [show (w.alloc (Obj.cells #[Value.int IntKind.u16 65535, Value.int IntKind.u32 4294967295, Value.int IntKind.u64 18446744073709551615] 49)).heap.size = w.heap.size + 1 by simp] at this
    exact this
  have BX0 := Lib.hid bx0
  have BX1 := Lib.hid bx1
  clear bx0 bx1
  go_enter Try.func6, Try.ntmps6
  go_wp2_with fail
  refine (next4 _).mono ?_
  rintro e w1 ⟨rfl, hb1⟩
  have X0 := Lib.hid ((BX0.out.below hb1 BX0.out.lt).alloc (Obj.cells #[Value.int IntKind.u16 0, Value.int IntKind.u32 0, Value.int IntKind.u64 0] 49))
  have X1 := Lib.hid ((BX1.out.below hb1 BX1.out.lt).alloc (Obj.cells #[Value.int IntKind.u16 0, Value.int IntKind.u32 0, Value.int IntKind.u64 0] 49))
  have X2 := Lib.hid (Box.new w1 #[Value.int IntKind.u16 0, Value.int IntKind.u32 0, Value.int IntKind.u64 0] 49)
  have HB1 := Lib.hid (nextB (((Below.refl _ w).alloc (Nat.le_refl _) (Obj.cells #[Value.int IntKind.u16 65535, Value.int IntKind.u32 4294967295, Value.int IntKind.u64 18446744073709551615] 49)).alloc (by simp) (Obj.cells #[Value.int IntKind.u16 v', Value.int IntKind.u32 b', Value.int IntKind.u64 s'] 49)) (Nat.le_refl _) hb1)
  have HB := Lib.hid (HB1.out.alloc HB1.out.size (Obj.cells #[Value.int IntKind.u16 0, Value.int IntKind.u32 0, Value.int IntKind.u64 0] 49))
  clear BX0 BX1 HB1 hb1
  have x00 : World.cell? (w1.alloc (Obj.cells #[Value.int IntKind.u16 0, Value.int IntKind.u32 0, Value.int IntKind.u64 0] 49)) ⟨w.heap.size, 0, none⟩ = some (.int .u16 65535) := (X0.out.cell 0).trans rfl
  have x01 : World.cell? (w1.alloc (Obj.cells #[Value.int IntKind.u16 0, Value.int IntKind.u32 0, Value.int IntKind.u64 0] 49)) ⟨w.heap.size, 1, none⟩ = some (.int .u32 4294967295) := (X0.out.cell 1).trans rfl
  have x02 : World.cell? (w1.alloc (Obj.cells #[Value.int IntKind.u16 0, Value.int IntKind.u32 0, Value.int IntKind.u64 0] 49)) ⟨w.heap.size, 2, none⟩ = some (.int .u64 18446744073709551615) := (X0.out.cell 2).trans rfl
  have x10 : World.cell? (w1.alloc (Obj.cells #[Value.int IntKind.u16 0, Value.int IntKind.u32 0, Value.int IntKind.u64 0] 49)) ⟨(w.heap.size + 1), 0, none⟩ = some (.int .u16 v') := (X1.out.cell 0).trans rfl
  have x11 : World.cell? (w1.alloc (Obj.cells #[Value.int IntKind.u16 0, Value.int IntKind.u32 0, Value.int IntKind.u64 0] 49)) ⟨(w.heap.size + 1), 1, none⟩ = some (.int .u32 b') := (X1.out.cell 1).trans rfl
  have x12 : World.cell? (w1.alloc (Obj.cells #[Value.int IntKind.u16 0, Value.int IntKind.u32 0, Value.int IntKind.u64 0] 49)) ⟨(w.heap.size + 1), 2, none⟩ = some (.int .u64 s') := (X1.out.cell 2).trans rfl
  have x20 : World.cell? (w1.alloc (Obj.cells #[Value.int IntKind.u16 0, Value.int IntKind.u32 0, Value.int IntKind.u64 0] 49)) ⟨w1.heap.size, 0, none⟩ = some (.int .u16 0) := (X2.out.cell 0).trans rfl
  have x21 : World.cell? (w1.alloc (Obj.cells #[Value.int IntKind.u16 0, Value.int IntKind.u32 0, Value.int IntKind.u64 0] 49)) ⟨w1.heap.size, 1, none⟩ = some (.int .u32 0) := (X2.out.cell 1).trans rfl
  have x22 : World.cell? (w1.alloc (Obj.cells #[Value.int IntKind.u16 0, Value.int IntKind.u32 0, Value.int IntKind.u64 0] 49)) ⟨w1.heap.size, 2, none⟩ = some (.int .u64 0) := (X2.out.cell 2).trans rfl
  go_wp2_with fail
  refine (H1.out _).mono ?_
  rintro e w2 ⟨rfl, hb2⟩
  have HB2 := Lib.hid (nextB HB.out (Nat.le_refl _) hb2)
  clear hb2 HB
  go_wp2_with fail
  refine (alive_true _).mono ?_
  rintro e w5 ⟨rfl, hb5⟩
  have HC := Lib.hid (nextB HB2.out (Nat.le_refl _) hb5)
  clear hb5
  go_wp2_with fail
  go_ret
  exact ⟨rfl, HC.out⟩

theorem nextlaw_any (v b s v' b' s' : Int) (x0 : 0 ≤ v) (x1 : v ≤ 65535) (x2 : 0 ≤ b) (x3 : b ≤ 4294967295) (x4 : 0 ≤ s) (x5 : s ≤ 18446744073709551615)
    (y0 : 0 ≤ v') (y1 : v' ≤ 65535) (y2 : 0 ≤ b') (y3 : b' ≤ 4294967295) (y4 : 0 ≤ s') (y5 : s' ≤ 18446744073709551615) (w : World) :
    Calls Try.prog 6 #[.agg #[.int .u16 v, .int .u32 b, .int .u64 s], .agg #[.int .u16 v', .int .u32 b', .int .u64 s']] w fun e w' => e = .returned (.bool true) ∧ Below w.heap.size w w' := by
  by_cases h1 : s < 18446744073709551615
  · exact nextlaw_ok v b s v' b' s' v b (s + 1) (next1 v b s _ x4 h1 rfl) (by rw [cmpK_lt]; omega) (by rw [cmpK_lt, cmpK_lt]; omega) w
  · obtain rfl : s = 18446744073709551615 := by omega
    by_cases h2 : b < 4294967295
    · exact nextlaw_ok v b _ v' b' s' v (b + 1) 0 (next2 v b _ x2 h2 rfl) (by rw [cmpK_lt]; omega) (by rw [cmpK_lt, cmpK_lt]; omega) w
    · obtain rfl : b = 4294967295 := by omega
      by_cases h3 : v < 65535
      · exact nextlaw_ok v _ _ v' b' s' (v + 1) 0 0 (next3 v _ x0 h3 rfl) (by rw [cmpK_lt]; omega) (by rw [cmpK_lt, cmpK_lt]; omega) w
      · obtain rfl : v = 65535 := by omega
        exact nextlaw_no v' b' s' y0 y1 y2 y3 y5 w

theorem field_u64 {H : Type} {enc : TypeId × Value → H} {W : World} {base n : Nat} {spare : Nat → Bool} {held : Bool} {v : Value} {y : DataW H × List MemPlace}
    (h : DataW.trod enc Try.prog W base spare held n 47 [v] = some y) : ∃ x, v = .int .u64 x ∧ 0 ≤ x ∧ x ≤ 18446744073709551615 := by
  obtain ⟨x, e, _, wx⟩ := DataW.trod_int Try.underlying47 h
  simp at e
  exact ⟨x, e, u64_bd wx⟩
theorem field_u32 {H : Type} {enc : TypeId × Value → H} {W : World} {base n : Nat} {spare : Nat → Bool} {held : Bool} {v : Value} {y : DataW H × List MemPlace}
    (h : DataW.trod enc Try.prog W base spare held n 46 [v] = some y) : ∃ x, v = .int .u32 x ∧ 0 ≤ x ∧ x ≤ 4294967295 := by
  obtain ⟨x, e, _, wx⟩ := DataW.trod_int Try.underlying46 h
  simp at e
  exact ⟨x, e, u32_bd wx⟩
theorem field_u16 {H : Type} {enc : TypeId × Value → H} {W : World} {base n : Nat} {spare : Nat → Bool} {held : Bool} {v : Value} {y : DataW H × List MemPlace}
    (h : DataW.trod enc Try.prog W base spare held n 45 [v] = some y) : ∃ x, v = .int .u16 x ∧ 0 ≤ x ∧ x ≤ 65535 := by
  obtain ⟨x, e, _, wx⟩ := DataW.trod_int Try.underlying45 h
  simp at e
  exact ⟨x, e, u16_bd wx⟩

set_option maxRecDepth 100000 in
theorem open_key {H : Type} {enc : TypeId × Value → H} {base : Nat} {W : World} {v : Value} {d : DataW H} {p : List MemPlace}
    (h : DataW.Trod enc Try.prog W 0 (fun _ => true) true 49 v d p) (k : Value.okWide Try.prog W .any base 49 v) :
    ∃ a b s, v = .agg #[.int .u16 a, .int .u32 b, .int .u64 s] ∧ (0 ≤ a ∧ a ≤ 65535) ∧ (0 ≤ b ∧ b ≤ 4294967295) ∧ (0 ≤ s ∧ s ≤ 18446744073709551615) := by
  obtain ⟨c0, c1, c2, y0, y1, y2, n, rfl, _, _, g0, g1, g2⟩ := open_agg3 Try.underlying49 (by kernel_rfl) (by kernel_rfl) k h
  obtain ⟨a, rfl, e0⟩ := field_u16 g0
  obtain ⟨b, rfl, e1⟩ := field_u32 g1
  obtain ⟨s, rfl, e2⟩ := field_u64 g2
  exact ⟨a, b, s, rfl, e0, e1, e2⟩

set_option maxRecDepth 100000 in
theorem next_main {H : Type} {enc : TypeId × Value → H} {base : Nat} (W : World) {v0 v1 : Value} {d0 d1 : DataW H} {p0 p1 : List MemPlace}
    (h0 : DataW.Trod enc Try.prog W 0 (fun _ => true) true 49 v0 d0 p0) (k0 : Value.okWide Try.prog W .any base 49 v0)
    (h1 : DataW.Trod enc Try.prog W 0 (fun _ => true) true 49 v1 d1 p1) (k1 : Value.okWide Try.prog W .any base 49 v1) :
    Calls Try.prog 6 #[v0, v1] W fun e W' => e = .returned (.bool true) ∧ Below W.heap.size W W' := by
  obtain ⟨v, b, s, rfl, a0, a1, a2⟩ := open_key h0 k0
  obtain ⟨v', b', s', rfl, b0, b1, b2⟩ := open_key h1 k1
  exact nextlaw_any v b s v' b' s' a0.1 a0.2 a1.1 a1.2 a2.1 a2.2 b0.1 b0.2 b1.1 b1.2 b2.1 b2.2 W
end Go.Proofs.Ytaagfmaboggbhaa.key
