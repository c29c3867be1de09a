/-
  The walk of the law KeyOrder.
-/
import Derived.Test.YtaagfmaboggbhaaKeyOrderW
import Derived.Test.YtaagfmaboggbhaaDrawn
import Derived.Deep.RegionHeld3
namespace Go.Proofs.Ytaagfmaboggbhaa.key
open Go.RowKit Go.ChangeShapes Go.WideShapes Go.ChangeAt Go.Joins
set_option linter.unusedVariables false

set_option maxRecDepth 100000 in
set_option maxHeartbeats 3200000 in
theorem order_ff_1 (v b s v' b' s' : Int) (a0 : 0 ≤ v) (a1 : v ≤ 65535) (b0 : 0 ≤ b) (b2 : b ≤ 4294967295) (y0 : 0 ≤ v') (y1 : v' ≤ 65535) (z0 : 0 ≤ b') (z1 : b' ≤ 4294967295) (tv : (v == v') = false) (hsame : decide (v = v' ∧ b = b') = false) (hr1 : cmpK v b 0 v' b' s' = 1) (w : World) :
    Calls Try.prog 7 #[.agg #[.int .u16 v, .int .u32 b, .int .u64 s], .agg #[.int .u16 v', .int .u32 b', .int .u64 s']] w fun e w' => e = .returned (.bool true) ∧ Below w.heap.size w w' := by
  have l0 := law_any v b s v' b' s' a0 a1 b0 b2 y0 y1 z0 z1
  have l1 := law_any v b 0 v' b' s' a0 a1 b0 b2 y0 y1 z0 z1
  have l2 := law_any v' b' s' v b 18446744073709551615 y0 y1 z0 z1 a0 a1 b0 b2
  have l3 := compare_any v b s v' b' s'
  have l4 := less_any v b s v' b' s'
  have l5 := same_any v b s v' b' s'
  rw [hsame] at l5
  rw [hr1] at l1
  skip
  generalize cmpK v b s v' b' s' = r at *
  have L0 := Lib.hid l0
  have L1 := Lib.hid l1
  have L2 := Lib.hid l2
  have L3 := Lib.hid l3
  have L4 := Lib.hid l4
  have L5 := Lib.hid l5
  clear l0 l1 l2 l3 l4 l5 hsame hr1  a0 a1 b0 b2 y0 y1 z0 z1
  have bx0 : Box ((w.alloc (Obj.cells #[Value.int IntKind.u16 v, Value.int IntKind.u32 b, Value.int IntKind.u64 s] 49)).alloc (Obj.cells #[Value.int IntKind.u16 v', Value.int IntKind.u32 b', Value.int IntKind.u64 s'] 49)) w.heap.size 49 #[Value.int IntKind.u16 v, Value.int IntKind.u32 b, Value.int IntKind.u64 s] := (Box.new w #[Value.int IntKind.u16 v, Value.int IntKind.u32 b, Value.int IntKind.u64 s] 49).alloc _
  have bx1 : Box ((w.alloc (Obj.cells #[Value.int IntKind.u16 v, Value.int IntKind.u32 b, Value.int IntKind.u64 s] 49)).alloc (Obj.cells #[Value.int IntKind.u16 v', Value.int IntKind.u32 b', Value.int IntKind.u64 s'] 49)) (w.heap.size + 1) 49 #[Value.int IntKind.u16 v', Value.int IntKind.u32 b', Value.int IntKind.u64 s'] := by
    have := Box.new (w.alloc (Obj.cells #[Value.int IntKind.u16 v, Value.int IntKind.u32 b, Value.int IntKind.u64 s] 49)) #[Value.int IntKind.u16 v', Value.int IntKind.u32 b', Value.int IntKind.u64 s'] 49
    rw [show (w.alloc (Obj.cells #[Value.int IntKind.u16 v, Value.int IntKind.u32 b, Value.int IntKind.u64 s] 49)).heap.size = w.heap.size + 1 by simp] at this
    exact this
  have BX0 := Lib.hid bx0
  have BX1 := Lib.hid bx1
  clear bx0 bx1
  go_enter Try.func7, Try.ntmps7
  go_wp2_with fail
  refine (L0.out _).mono ?_
  rintro e w1 ⟨rfl, hb1⟩
  have X0 := Lib.hid (BX0.out.below hb1 BX0.out.lt)
  have X1 := Lib.hid (BX1.out.below hb1 BX1.out.lt)
  have HB := Lib.hid (nextB (((Below.refl _ w).alloc (Nat.le_refl _) (Obj.cells #[Value.int IntKind.u16 v, Value.int IntKind.u32 b, Value.int IntKind.u64 s] 49)).alloc (by simp) (Obj.cells #[Value.int IntKind.u16 v', Value.int IntKind.u32 b', Value.int IntKind.u64 s'] 49)) (Nat.le_refl _) hb1)
  clear BX0 BX1 hb1
  have x00 : World.cell? w1 ⟨w.heap.size, 0, none⟩ = some (.int .u16 v) := (X0.out.cell 0).trans rfl
  have x01 : World.cell? w1 ⟨w.heap.size, 1, none⟩ = some (.int .u32 b) := (X0.out.cell 1).trans rfl
  have x02 : World.cell? w1 ⟨w.heap.size, 2, none⟩ = some (.int .u64 s) := (X0.out.cell 2).trans rfl
  have x10 : World.cell? w1 ⟨(w.heap.size + 1), 0, none⟩ = some (.int .u16 v') := (X1.out.cell 0).trans rfl
  have x11 : World.cell? w1 ⟨(w.heap.size + 1), 1, none⟩ = some (.int .u32 b') := (X1.out.cell 1).trans rfl
  have x12 : World.cell? w1 ⟨(w.heap.size + 1), 2, none⟩ = some (.int .u64 s') := (X1.out.cell 2).trans rfl
  go_wp2_with fail
  have K0 := Lib.hid (show KS w v b s v' b' s' w1 from ⟨X0.out, X1.out, HB.out⟩)
  refine wp_region_held_drew (S := (fun wx => wx.cell? ⟨w.heap.size, 0, none⟩ = some (.int .u16 v) ∧ wx.cell? ⟨w.heap.size, 1, none⟩ = some (.int .u32 b) ∧ wx.cell? ⟨w.heap.size, 2, none⟩ = some (.int .u64 s) ∧ wx.cell? ⟨w.heap.size + 1, 0, none⟩ = some (.int .u16 v') ∧ wx.cell? ⟨w.heap.size + 1, 1, none⟩ = some (.int .u32 b') ∧ wx.cell? ⟨w.heap.size + 1, 2, none⟩ = some (.int .u64 s') ∧ Hid (KS w v b s v' b' s' wx))) (by kernel_rfl) (KS.all (KS.drew K0)) (fun hHeld => ?_)
  have hk := KS.drew K0
  refine takeH (i := 0) (d := 23) (v := .pointer (some ⟨w.heap.size, 0, none⟩)) rfl rfl (by kernel_rfl) (by kernel_rfl) (by kernel_rfl) (fun _ _ _ h => h) (by rfl) ?_ hHeld ?_
  · intro wz hSw
    (try dsimp only at hSw)
    go_simp
  simp only [List.setIfInBounds_toArray, List.set_cons_zero, List.set_cons_succ]
  refine takeH (i := 1) (d := 24) (v := .int .u16 v) rfl rfl (by kernel_rfl) (by kernel_rfl) (by kernel_rfl) (fun _ _ _ h => h) (by rfl) ?_ hHeld ?_
  · intro wz hSw
    (try dsimp only at hSw)
    go_simp
  simp only [List.setIfInBounds_toArray, List.set_cons_zero, List.set_cons_succ]
  refine takeH (i := 2) (d := 25) (v := .pointer (some ⟨w.heap.size, 1, none⟩)) rfl rfl (by kernel_rfl) (by kernel_rfl) (by kernel_rfl) (fun _ _ _ h => h) (by rfl) ?_ hHeld ?_
  · intro wz hSw
    (try dsimp only at hSw)
    go_simp
  simp only [List.setIfInBounds_toArray, List.set_cons_zero, List.set_cons_succ]
  refine takeH (i := 3) (d := 26) (v := .int .u32 b) rfl rfl (by kernel_rfl) (by kernel_rfl) (by kernel_rfl) (fun _ _ _ h => h) (by rfl) ?_ hHeld ?_
  · intro wz hSw
    (try dsimp only at hSw)
    go_simp
  simp only [List.setIfInBounds_toArray, List.set_cons_zero, List.set_cons_succ]
  refine takeH (i := 5) (d := 28) (v := .agg #[.int .u16 v', .int .u32 b', .int .u64 s']) rfl rfl (by kernel_rfl) (by kernel_rfl) (by kernel_rfl) (fun _ _ _ h => h) (by rfl) ?_ hHeld ?_
  · intro wz hSw
    (try dsimp only at hSw)
    go_simp
  simp only [List.setIfInBounds_toArray, List.set_cons_zero, List.set_cons_succ]
  refine callH (i := 4) (d := 27) (f := 28) (vals := #[.int .u16 v, .int .u32 b]) rfl rfl (by kernel_rfl) (by rfl) ?_ ?_
  · go_simp
  refine (first_any _ _ _).mono ?_
  rintro e wz ⟨rfl, hb⟩
  replace hk := KS.step hk hb
  clear hb
  clear hHeld
  refine ⟨_, rfl, KS.all hk, fun hHeld => ?_⟩
  simp only [List.setIfInBounds_toArray, List.set_cons_zero, List.set_cons_succ]
  refine callH (i := 6) (d := 29) (f := 25) (vals := #[.agg #[.int .u16 v, .int .u32 b, .int .u64 0], .agg #[.int .u16 v', .int .u32 b', .int .u64 s']]) rfl rfl (by kernel_rfl) (by rfl) ?_ ?_
  · go_simp
  refine (L1.out _).mono ?_
  rintro e wz ⟨rfl, hb⟩
  replace hk := KS.step hk hb
  clear hb
  clear hHeld
  refine ⟨_, rfl, KS.all hk, fun hHeld => ?_⟩
  simp only [List.setIfInBounds_toArray, List.set_cons_zero, List.set_cons_succ]
  refine takeH (i := 7) (d := 30) (v := .bool false) rfl rfl (by kernel_rfl) (by kernel_rfl) (by kernel_rfl) (fun _ _ _ h => h) (by rfl) ?_ hHeld ?_
  · intro wz hSw
    (try dsimp only at hSw)
    go_simp
  simp only [List.setIfInBounds_toArray, List.set_cons_zero, List.set_cons_succ]
  refine takeH (i := 8) (d := 31) (v := .bool false) rfl rfl (by kernel_rfl) (by kernel_rfl) (by kernel_rfl) (fun _ _ _ h => h) (by rfl) ?_ hHeld ?_
  · intro wz hSw
    (try dsimp only at hSw)
    go_simp
  simp only [List.setIfInBounds_toArray, List.set_cons_zero, List.set_cons_succ]
  refine skipH (i := 9) (d := 32) rfl rfl (by kernel_rfl) (by kernel_rfl) (by kernel_rfl) (fun _ _ _ h => h) (by rfl) hHeld ?_
  simp only [List.setIfInBounds_toArray, List.set_cons_zero, List.set_cons_succ]
  refine skipH (i := 10) (d := 33) rfl rfl (by kernel_rfl) (by kernel_rfl) (by kernel_rfl) (fun _ _ _ h => h) (by rfl) hHeld ?_
  simp only [List.setIfInBounds_toArray, List.set_cons_zero, List.set_cons_succ]
  refine skipH (i := 11) (d := 34) rfl rfl (by kernel_rfl) (by kernel_rfl) (by kernel_rfl) (fun _ _ _ h => h) (by rfl) hHeld ?_
  simp only [List.setIfInBounds_toArray, List.set_cons_zero, List.set_cons_succ]
  refine skipH (i := 12) (d := 35) rfl rfl (by kernel_rfl) (by kernel_rfl) (by kernel_rfl) (fun _ _ _ h => h) (by rfl) hHeld ?_
  simp only [List.setIfInBounds_toArray, List.set_cons_zero, List.set_cons_succ]
  refine skipH (i := 13) (d := 36) rfl rfl (by kernel_rfl) (by kernel_rfl) (by kernel_rfl) (fun _ _ _ h => h) (by rfl) hHeld ?_
  simp only [List.setIfInBounds_toArray, List.set_cons_zero, List.set_cons_succ]
  refine skipH (i := 14) (d := 37) rfl rfl (by kernel_rfl) (by kernel_rfl) (by kernel_rfl) (fun _ _ _ h => h) (by rfl) hHeld ?_
  simp only [List.setIfInBounds_toArray, List.set_cons_zero, List.set_cons_succ]
  refine skipH (i := 15) (d := 38) rfl rfl (by kernel_rfl) (by kernel_rfl) (by kernel_rfl) (fun _ _ _ h => h) (by rfl) hHeld ?_
  simp only [List.setIfInBounds_toArray, List.set_cons_zero, List.set_cons_succ]
  refine skipH (i := 16) (d := 39) rfl rfl (by kernel_rfl) (by kernel_rfl) (by kernel_rfl) (fun _ _ _ h => h) (by rfl) hHeld ?_
  simp only [List.setIfInBounds_toArray, List.set_cons_zero, List.set_cons_succ]
  refine takeH (i := 17) (d := 40) (v := .bool false) rfl rfl (by kernel_rfl) (by kernel_rfl) (by kernel_rfl) (fun _ _ _ h => h) (by rfl) ?_ hHeld ?_
  · intro wz hSw
    (try dsimp only at hSw)
    go_simp
  simp only [List.setIfInBounds_toArray, List.set_cons_zero, List.set_cons_succ]
  refine takeH (i := 18) (d := 7) (v := .bool false) rfl rfl (by kernel_rfl) (by kernel_rfl) (by kernel_rfl) (fun _ _ _ h => h) (by rfl) ?_ hHeld ?_
  · intro wz hSw
    (try dsimp only at hSw)
    go_simp
  simp only [List.setIfInBounds_toArray, List.set_cons_zero, List.set_cons_succ]
  refine wpAnyH_done (by kernel_rfl) ?_ _
  all_goals
    have hks := hk
    obtain ⟨f0, f1, f2, f3, f4, f5, hkz⟩ := KS.all hks
    go_wp2_with fail
    refine (L3.out _).mono ?_
    rintro e wa ⟨rfl, hb⟩
    have hka := KS.step hks hb
    clear hb
    obtain ⟨f0, f1, f2, f3, f4, f5, hkz⟩ := KS.all hka
    go_wp2_with fail
    refine (L4.out _).mono ?_
    rintro e wb ⟨rfl, hb⟩
    have hkb := KS.step hka hb
    clear hb
    obtain ⟨f0, f1, f2, f3, f4, f5, hkz⟩ := KS.all hkb
    go_wp2_with fail
    refine (L5.out _).mono ?_
    rintro e wc ⟨rfl, hb⟩
    have hkc := KS.step hkb hb
    clear hb
    obtain ⟨f0, f1, f2, f3, f4, f5, hkz⟩ := KS.all hkc
    go_wp2_with fail
    refine (alive_true _).mono ?_
    rintro e wd ⟨rfl, hb⟩
    have HC := Lib.hid (nextB hkc.out.2.2 (Nat.le_refl _) hb)
    clear hb
    go_wp2_with fail
    go_ret
    exact ⟨rfl, HC.out⟩

set_option maxRecDepth 100000 in
set_option maxHeartbeats 3200000 in
theorem order_tf_1 (v b s b' s' : Int) (a0 : 0 ≤ v) (a1 : v ≤ 65535) (b0 : 0 ≤ b) (b2 : b ≤ 4294967295) (z0 : 0 ≤ b') (z1 : b' ≤ 4294967295) (tb : (b == b') = false) (hsame : decide (v = v ∧ b = b') = false) (hr1 : cmpK v b 0 v b' s' = 1) (w : World) :
    Calls Try.prog 7 #[.agg #[.int .u16 v, .int .u32 b, .int .u64 s], .agg #[.int .u16 v, .int .u32 b', .int .u64 s']] w fun e w' => e = .returned (.bool true) ∧ Below w.heap.size w w' := by
  have l0 := law_any v b s v b' s' a0 a1 b0 b2 a0 a1 z0 z1
  have l1 := law_any v b 0 v b' s' a0 a1 b0 b2 a0 a1 z0 z1
  have l2 := law_any v b' s' v b 18446744073709551615 a0 a1 z0 z1 a0 a1 b0 b2
  have l3 := compare_any v b s v b' s'
  have l4 := less_any v b s v b' s'
  have l5 := same_any v b s v b' s'
  rw [hsame] at l5
  rw [hr1] at l1
  skip
  generalize cmpK v b s v b' s' = r at *
  have L0 := Lib.hid l0
  have L1 := Lib.hid l1
  have L2 := Lib.hid l2
  have L3 := Lib.hid l3
  have L4 := Lib.hid l4
  have L5 := Lib.hid l5
  clear l0 l1 l2 l3 l4 l5 hsame hr1  a0 a1 b0 b2 z0 z1
  have bx0 : Box ((w.alloc (Obj.cells #[Value.int IntKind.u16 v, Value.int IntKind.u32 b, Value.int IntKind.u64 s] 49)).alloc (Obj.cells #[Value.int IntKind.u16 v, Value.int IntKind.u32 b', Value.int IntKind.u64 s'] 49)) w.heap.size 49 #[Value.int IntKind.u16 v, Value.int IntKind.u32 b, Value.int IntKind.u64 s] := (Box.new w #[Value.int IntKind.u16 v, Value.int IntKind.u32 b, Value.int IntKind.u64 s] 49).alloc _
  have bx1 : Box ((w.alloc (Obj.cells #[Value.int IntKind.u16 v, Value.int IntKind.u32 b, Value.int IntKind.u64 s] 49)).alloc (Obj.cells #[Value.int IntKind.u16 v, Value.int IntKind.u32 b', Value.int IntKind.u64 s'] 49)) (w.heap.size + 1) 49 #[Value.int IntKind.u16 v, Value.int IntKind.u32 b', Value.int IntKind.u64 s'] := by
    have := Box.new (w.alloc (Obj.cells #[Value.int IntKind.u16 v, Value.int IntKind.u32 b, Value.int IntKind.u64 s] 49)) #[Value.int IntKind.u16 v, Value.int IntKind.u32 b', Value.int IntKind.u64 s'] 49
    rw [show (w.alloc (Obj.cells #[Value.int IntKind.u16 v, Value.int IntKind.u32 b, Value.int IntKind.u64 s] 49)).heap.size = w.heap.size + 1 by simp] at this
    exact this
  have BX0 := Lib.hid bx0
  have BX1 := Lib.hid bx1
  clear bx0 bx1
  go_enter Try.func7, Try.ntmps7
  go_wp2_with fail
  refine (L0.out _).mono ?_
  rintro e w1 ⟨rfl, hb1⟩
  have X0 := Lib.hid (BX0.out.below hb1 BX0.out.lt)
  have X1 := Lib.hid (BX1.out.below hb1 BX1.out.lt)
  have HB := Lib.hid (nextB (((Below.refl _ w).alloc (Nat.le_refl _) (Obj.cells #[Value.int IntKind.u16 v, Value.int IntKind.u32 b, Value.int IntKind.u64 s] 49)).alloc (by simp) (Obj.cells #[Value.int IntKind.u16 v, Value.int IntKind.u32 b', Value.int IntKind.u64 s'] 49)) (Nat.le_refl _) hb1)
  clear BX0 BX1 hb1
  have x00 : World.cell? w1 ⟨w.heap.size, 0, none⟩ = some (.int .u16 v) := (X0.out.cell 0).trans rfl
  have x01 : World.cell? w1 ⟨w.heap.size, 1, none⟩ = some (.int .u32 b) := (X0.out.cell 1).trans rfl
  have x02 : World.cell? w1 ⟨w.heap.size, 2, none⟩ = some (.int .u64 s) := (X0.out.cell 2).trans rfl
  have x10 : World.cell? w1 ⟨(w.heap.size + 1), 0, none⟩ = some (.int .u16 v) := (X1.out.cell 0).trans rfl
  have x11 : World.cell? w1 ⟨(w.heap.size + 1), 1, none⟩ = some (.int .u32 b') := (X1.out.cell 1).trans rfl
  have x12 : World.cell? w1 ⟨(w.heap.size + 1), 2, none⟩ = some (.int .u64 s') := (X1.out.cell 2).trans rfl
  go_wp2_with fail
  have K0 := Lib.hid (show KS w v b s v b' s' w1 from ⟨X0.out, X1.out, HB.out⟩)
  refine wp_region_held_drew (S := (fun wx => wx.cell? ⟨w.heap.size, 0, none⟩ = some (.int .u16 v) ∧ wx.cell? ⟨w.heap.size, 1, none⟩ = some (.int .u32 b) ∧ wx.cell? ⟨w.heap.size, 2, none⟩ = some (.int .u64 s) ∧ wx.cell? ⟨w.heap.size + 1, 0, none⟩ = some (.int .u16 v) ∧ wx.cell? ⟨w.heap.size + 1, 1, none⟩ = some (.int .u32 b') ∧ wx.cell? ⟨w.heap.size + 1, 2, none⟩ = some (.int .u64 s') ∧ Hid (KS w v b s v b' s' wx))) (by kernel_rfl) (KS.all (KS.drew K0)) (fun hHeld => ?_)
  have hk := KS.drew K0
  refine takeH (i := 0) (d := 23) (v := .pointer (some ⟨w.heap.size, 0, none⟩)) rfl rfl (by kernel_rfl) (by kernel_rfl) (by kernel_rfl) (fun _ _ _ h => h) (by rfl) ?_ hHeld ?_
  · intro wz hSw
    (try dsimp only at hSw)
    go_simp
  simp only [List.setIfInBounds_toArray, List.set_cons_zero, List.set_cons_succ]
  refine takeH (i := 1) (d := 24) (v := .int .u16 v) rfl rfl (by kernel_rfl) (by kernel_rfl) (by kernel_rfl) (fun _ _ _ h => h) (by rfl) ?_ hHeld ?_
  · intro wz hSw
    (try dsimp only at hSw)
    go_simp
  simp only [List.setIfInBounds_toArray, List.set_cons_zero, List.set_cons_succ]
  refine takeH (i := 2) (d := 25) (v := .pointer (some ⟨w.heap.size, 1, none⟩)) rfl rfl (by kernel_rfl) (by kernel_rfl) (by kernel_rfl) (fun _ _ _ h => h) (by rfl) ?_ hHeld ?_
  · intro wz hSw
    (try dsimp only at hSw)
    go_simp
  simp only [List.setIfInBounds_toArray, List.set_cons_zero, List.set_cons_succ]
  refine takeH (i := 3) (d := 26) (v := .int .u32 b) rfl rfl (by kernel_rfl) (by kernel_rfl) (by kernel_rfl) (fun _ _ _ h => h) (by rfl) ?_ hHeld ?_
  · intro wz hSw
    (try dsimp only at hSw)
    go_simp
  simp only [List.setIfInBounds_toArray, List.set_cons_zero, List.set_cons_succ]
  refine takeH (i := 5) (d := 28) (v := .agg #[.int .u16 v, .int .u32 b', .int .u64 s']) rfl rfl (by kernel_rfl) (by kernel_rfl) (by kernel_rfl) (fun _ _ _ h => h) (by rfl) ?_ hHeld ?_
  · intro wz hSw
    (try dsimp only at hSw)
    go_simp
  simp only [List.setIfInBounds_toArray, List.set_cons_zero, List.set_cons_succ]
  refine callH (i := 4) (d := 27) (f := 28) (vals := #[.int .u16 v, .int .u32 b]) rfl rfl (by kernel_rfl) (by rfl) ?_ ?_
  · go_simp
  refine (first_any _ _ _).mono ?_
  rintro e wz ⟨rfl, hb⟩
  replace hk := KS.step hk hb
  clear hb
  clear hHeld
  refine ⟨_, rfl, KS.all hk, fun hHeld => ?_⟩
  simp only [List.setIfInBounds_toArray, List.set_cons_zero, List.set_cons_succ]
  refine callH (i := 6) (d := 29) (f := 25) (vals := #[.agg #[.int .u16 v, .int .u32 b, .int .u64 0], .agg #[.int .u16 v, .int .u32 b', .int .u64 s']]) rfl rfl (by kernel_rfl) (by rfl) ?_ ?_
  · go_simp
  refine (L1.out _).mono ?_
  rintro e wz ⟨rfl, hb⟩
  replace hk := KS.step hk hb
  clear hb
  clear hHeld
  refine ⟨_, rfl, KS.all hk, fun hHeld => ?_⟩
  simp only [List.setIfInBounds_toArray, List.set_cons_zero, List.set_cons_succ]
  refine takeH (i := 7) (d := 30) (v := .bool false) rfl rfl (by kernel_rfl) (by kernel_rfl) (by kernel_rfl) (fun _ _ _ h => h) (by rfl) ?_ hHeld ?_
  · intro wz hSw
    (try dsimp only at hSw)
    go_simp
  simp only [List.setIfInBounds_toArray, List.set_cons_zero, List.set_cons_succ]
  refine takeH (i := 8) (d := 31) (v := .bool false) rfl rfl (by kernel_rfl) (by kernel_rfl) (by kernel_rfl) (fun _ _ _ h => h) (by rfl) ?_ hHeld ?_
  · intro wz hSw
    (try dsimp only at hSw)
    go_simp
  simp only [List.setIfInBounds_toArray, List.set_cons_zero, List.set_cons_succ]
  refine skipH (i := 9) (d := 32) rfl rfl (by kernel_rfl) (by kernel_rfl) (by kernel_rfl) (fun _ _ _ h => h) (by rfl) hHeld ?_
  simp only [List.setIfInBounds_toArray, List.set_cons_zero, List.set_cons_succ]
  refine skipH (i := 10) (d := 33) rfl rfl (by kernel_rfl) (by kernel_rfl) (by kernel_rfl) (fun _ _ _ h => h) (by rfl) hHeld ?_
  simp only [List.setIfInBounds_toArray, List.set_cons_zero, List.set_cons_succ]
  refine skipH (i := 11) (d := 34) rfl rfl (by kernel_rfl) (by kernel_rfl) (by kernel_rfl) (fun _ _ _ h => h) (by rfl) hHeld ?_
  simp only [List.setIfInBounds_toArray, List.set_cons_zero, List.set_cons_succ]
  refine skipH (i := 12) (d := 35) rfl rfl (by kernel_rfl) (by kernel_rfl) (by kernel_rfl) (fun _ _ _ h => h) (by rfl) hHeld ?_
  simp only [List.setIfInBounds_toArray, List.set_cons_zero, List.set_cons_succ]
  refine skipH (i := 13) (d := 36) rfl rfl (by kernel_rfl) (by kernel_rfl) (by kernel_rfl) (fun _ _ _ h => h) (by rfl) hHeld ?_
  simp only [List.setIfInBounds_toArray, List.set_cons_zero, List.set_cons_succ]
  refine skipH (i := 14) (d := 37) rfl rfl (by kernel_rfl) (by kernel_rfl) (by kernel_rfl) (fun _ _ _ h => h) (by rfl) hHeld ?_
  simp only [List.setIfInBounds_toArray, List.set_cons_zero, List.set_cons_succ]
  refine skipH (i := 15) (d := 38) rfl rfl (by kernel_rfl) (by kernel_rfl) (by kernel_rfl) (fun _ _ _ h => h) (by rfl) hHeld ?_
  simp only [List.setIfInBounds_toArray, List.set_cons_zero, List.set_cons_succ]
  refine skipH (i := 16) (d := 39) rfl rfl (by kernel_rfl) (by kernel_rfl) (by kernel_rfl) (fun _ _ _ h => h) (by rfl) hHeld ?_
  simp only [List.setIfInBounds_toArray, List.set_cons_zero, List.set_cons_succ]
  refine takeH (i := 17) (d := 40) (v := .bool false) rfl rfl (by kernel_rfl) (by kernel_rfl) (by kernel_rfl) (fun _ _ _ h => h) (by rfl) ?_ hHeld ?_
  · intro wz hSw
    (try dsimp only at hSw)
    go_simp
  simp only [List.setIfInBounds_toArray, List.set_cons_zero, List.set_cons_succ]
  refine takeH (i := 18) (d := 7) (v := .bool false) rfl rfl (by kernel_rfl) (by kernel_rfl) (by kernel_rfl) (fun _ _ _ h => h) (by rfl) ?_ hHeld ?_
  · intro wz hSw
    (try dsimp only at hSw)
    go_simp
  simp only [List.setIfInBounds_toArray, List.set_cons_zero, List.set_cons_succ]
  refine wpAnyH_done (by kernel_rfl) ?_ _
  all_goals
    have hks := hk
    obtain ⟨f0, f1, f2, f3, f4, f5, hkz⟩ := KS.all hks
    go_wp2_with fail
    refine (L3.out _).mono ?_
    rintro e wa ⟨rfl, hb⟩
    have hka := KS.step hks hb
    clear hb
    obtain ⟨f0, f1, f2, f3, f4, f5, hkz⟩ := KS.all hka
    go_wp2_with fail
    refine (L4.out _).mono ?_
    rintro e wb ⟨rfl, hb⟩
    have hkb := KS.step hka hb
    clear hb
    obtain ⟨f0, f1, f2, f3, f4, f5, hkz⟩ := KS.all hkb
    go_wp2_with fail
    refine (L5.out _).mono ?_
    rintro e wc ⟨rfl, hb⟩
    have hkc := KS.step hkb hb
    clear hb
    obtain ⟨f0, f1, f2, f3, f4, f5, hkz⟩ := KS.all hkc
    go_wp2_with fail
    refine (alive_true _).mono ?_
    rintro e wd ⟨rfl, hb⟩
    have HC := Lib.hid (nextB hkc.out.2.2 (Nat.le_refl _) hb)
    clear hb
    go_wp2_with fail
    go_ret
    exact ⟨rfl, HC.out⟩

end Go.Proofs.Ytaagfmaboggbhaa.key
