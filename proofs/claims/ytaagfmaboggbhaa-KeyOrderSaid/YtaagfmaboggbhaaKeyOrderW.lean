/-
  The walk of the law KeyOrder.
-/
import Derived.Test.YtaagfmaboggbhaaKeySame
import Derived.Deep.RegionHeld3
namespace Go.Proofs.Ytaagfmaboggbhaa.key
open Go.RowKit Go.ChangeShapes Go.WideShapes Go.ChangeAt Go.Joins
set_option linter.unusedVariables false

/-- Two keys in two boxes, and all below as it was. -/
def KS (w : World) (v b s v1 b1 s1 : Int) (W : World) : Prop :=
  Box W w.heap.size 49 #[.int .u16 v, .int .u32 b, .int .u64 s] ∧ Box W (w.heap.size + 1) 49 #[.int .u16 v1, .int .u32 b1, .int .u64 s1] ∧ Below w.heap.size w W
section
variable {w W W' : World} {v b s v1 b1 s1 : Int}
theorem KS.drew (h : Hid (KS w v b s v1 b1 s1 W)) : Hid (KS w v b s v1 b1 s1 W.drew) := Lib.hid ⟨h.out.1.drewN 1, h.out.2.1.drewN 1, h.out.2.2.drew⟩
theorem KS.step (h : Hid (KS w v b s v1 b1 s1 W)) (hb : Below W.heap.size W W') : Hid (KS w v b s v1 b1 s1 W') := Lib.hid ⟨h.out.1.below hb h.out.1.lt, h.out.2.1.below hb h.out.2.1.lt, nextB h.out.2.2 (Nat.le_refl _) hb⟩
theorem KS.all (h : Hid (KS w v b s v1 b1 s1 W)) : W.cell? ⟨w.heap.size, 0, none⟩ = some (.int .u16 v) ∧ W.cell? ⟨w.heap.size, 1, none⟩ = some (.int .u32 b) ∧ W.cell? ⟨w.heap.size, 2, none⟩ = some (.int .u64 s) ∧ W.cell? ⟨w.heap.size + 1, 0, none⟩ = some (.int .u16 v1) ∧ W.cell? ⟨w.heap.size + 1, 1, none⟩ = some (.int .u32 b1) ∧ W.cell? ⟨w.heap.size + 1, 2, none⟩ = some (.int .u64 s1) ∧ Hid (KS w v b s v1 b1 s1 W) :=
  ⟨(h.out.1.cell 0).trans rfl, (h.out.1.cell 1).trans rfl, (h.out.1.cell 2).trans rfl, (h.out.2.1.cell 0).trans rfl, (h.out.2.1.cell 1).trans rfl, (h.out.2.1.cell 2).trans rfl, h⟩
end

set_option maxRecDepth 100000 in
set_option maxHeartbeats 3200000 in
theorem order_ff_m1_1 (v b s v' b' s' : Int) (a0 : 0 ≤ v) (a1 : v ≤ 65535) (b0 : 0 ≤ b) (b2 : b ≤ 4294967295) (y0 : 0 ≤ v') (y1 : v' ≤ 65535) (z0 : 0 ≤ b') (z1 : b' ≤ 4294967295) (tv : (v == v') = false) (hsame : decide (v = v' ∧ b = b') = false) (hr1 : cmpK v b 0 v' b' s' = -1) (hr2 : cmpK v' b' s' v b 18446744073709551615 = 1) (w : World) :
    Calls Try.prog 7 #[.agg #[.int .u16 v, .int .u32 b, .int .u64 s], .agg #[.int .u16 v', .int .u32 b', .int .u64 s']] w fun e w' => e = .returned (.bool true) ∧ Below w.heap.size w w' := by
  have l0 := law_any v b s v' b' s' a0 a1 b0 b2 y0 y1 z0 z1
  have l1 := law_any v b 0 v' b' s' a0 a1 b0 b2 y0 y1 z0 z1
  have l2 := law_any v' b' s' v b 18446744073709551615 y0 y1 z0 z1 a0 a1 b0 b2
  have l3 := compare_any v b s v' b' s'
  have l4 := less_any v b s v' b' s'
  have l5 := same_any v b s v' b' s'
  rw [hsame] at l5
  rw [hr1] at l1
  rw [hr2] at l2
  generalize cmpK v b s v' b' s' = r at *
  have L0 := Lib.hid l0
  have L1 := Lib.hid l1
  have L2 := Lib.hid l2
  have L3 := Lib.hid l3
  have L4 := Lib.hid l4
  have L5 := Lib.hid l5
  clear l0 l1 l2 l3 l4 l5 hsame hr1 hr2 a0 a1 b0 b2 y0 y1 z0 z1
  have bx0 : Box ((w.alloc (Obj.cells #[Value.int IntKind.u16 v, Value.int IntKind.u32 b, Value.int IntKind.u64 s] 49)).alloc (Obj.cells #[Value.int IntKind.u16 v', Value.int IntKind.u32 b', Value.int IntKind.u64 s'] 49)) w.heap.size 49 #[Value.int IntKind.u16 v, Value.int IntKind.u32 b, Value.int IntKind.u64 s] := (Box.new w #[Value.int IntKind.u16 v, Value.int IntKind.u32 b, Value.int IntKind.u64 s] 49).alloc _
  have bx1 : Box ((w.alloc (Obj.cells #[Value.int IntKind.u16 v, Value.int IntKind.u32 b, Value.int IntKind.u64 s] 49)).alloc (Obj.cells #[Value.int IntKind.u16 v', Value.int IntKind.u32 b', Value.int IntKind.u64 s'] 49)) (w.heap.size + 1) 49 #[Value.int IntKind.u16 v', Value.int IntKind.u32 b', Value.int IntKind.u64 s'] := by
    have := Box.new (w.alloc (Obj.cells #[Value.int IntKind.u16 v, Value.int IntKind.u32 b, Value.int IntKind.u64 s] 49)) #[Value.int IntKind.u16 v', Value.int IntKind.u32 b', Value.int IntKind.u64 s'] 49
    rw [show (w.alloc (Obj.cells #[Value.int IntKind.u16 v, Value.int IntKind.u32 b, Value.int IntKind.u64 s] 49)).heap.size = w.heap.size + 1 by simp] at this
    exact this
  have BX0 := Lib.hid bx0
  have BX1 := Lib.hid bx1
  clear bx0 bx1
  go_enter Try.func7, Try.ntmps7
  go_wp2_with fail
  refine (L0.out _).mono ?_
  rintro e w1 ⟨rfl, hb1⟩
  have X0 := Lib.hid (BX0.out.below hb1 BX0.out.lt)
  have X1 := Lib.hid (BX1.out.below hb1 BX1.out.lt)
  have HB := Lib.hid (nextB (((Below.refl _ w).alloc (Nat.le_refl _) (Obj.cells #[Value.int IntKind.u16 v, Value.int IntKind.u32 b, Value.int IntKind.u64 s] 49)).alloc (by simp) (Obj.cells #[Value.int IntKind.u16 v', Value.int IntKind.u32 b', Value.int IntKind.u64 s'] 49)) (Nat.le_refl _) hb1)
  clear BX0 BX1 hb1
  have x00 : World.cell? w1 ⟨w.heap.size, 0, none⟩ = some (.int .u16 v) := (X0.out.cell 0).trans rfl
  have x01 : World.cell? w1 ⟨w.heap.size, 1, none⟩ = some (.int .u32 b) := (X0.out.cell 1).trans rfl
  have x02 : World.cell? w1 ⟨w.heap.size, 2, none⟩ = some (.int .u64 s) := (X0.out.cell 2).trans rfl
  have x10 : World.cell? w1 ⟨(w.heap.size + 1), 0, none⟩ = some (.int .u16 v') := (X1.out.cell 0).trans rfl
  have x11 : World.cell? w1 ⟨(w.heap.size + 1), 1, none⟩ = some (.int .u32 b') := (X1.out.cell 1).trans rfl
  have x12 : World.cell? w1 ⟨(w.heap.size + 1), 2, none⟩ = some (.int .u64 s') := (X1.out.cell 2).trans rfl
  go_wp2_with fail
  have K0 := Lib.hid (show KS w v b s v' b' s' w1 from ⟨X0.out, X1.out, HB.out⟩)
  go_region_held3 (fun wx => wx.cell? ⟨w.heap.size, 0, none⟩ = some (.int .u16 v) ∧ wx.cell? ⟨w.heap.size, 1, none⟩ = some (.int .u32 b) ∧ wx.cell? ⟨w.heap.size, 2, none⟩ = some (.int .u64 s) ∧ wx.cell? ⟨w.heap.size + 1, 0, none⟩ = some (.int .u16 v') ∧ wx.cell? ⟨w.heap.size + 1, 1, none⟩ = some (.int .u32 b') ∧ wx.cell? ⟨w.heap.size + 1, 2, none⟩ = some (.int .u64 s') ∧ Hid (KS w v b s v' b' s' wx)) (first | exact KS.all (by assumption) | exact KS.all (KS.drew (by assumption)))
    (first
      | (go_at_call 28; refine (first_any _ _ _).mono ?_; rintro e wz ⟨rfl, hb⟩; (first | have hk := KS.step (by assumption) hb | have hk := KS.step (KS.drew (by assumption)) hb); clear hb)
      | (go_at_call 29; refine (last_any _ _ _).mono ?_; rintro e wz ⟨rfl, hb⟩; (first | have hk := KS.step (by assumption) hb | have hk := KS.step (KS.drew (by assumption)) hb); clear hb)
      | (go_at_call_of 25 (Value.int IntKind.u64 0); refine (L1.out _).mono ?_; rintro e wz ⟨rfl, hb⟩; (first | have hk := KS.step (by assumption) hb | have hk := KS.step (KS.drew (by assumption)) hb); clear hb)
      | (go_at_call_of 25 (Value.int IntKind.u64 18446744073709551615); refine (L2.out _).mono ?_; rintro e wz ⟨rfl, hb⟩; (first | have hk := KS.step (by assumption) hb | have hk := KS.step (KS.drew (by assumption)) hb); clear hb))
  all_goals
    rename_i hkk
    have hks := hkk.2.2.2.2.2.2
    obtain ⟨f0, f1, f2, f3, f4, f5, hkz⟩ := KS.all hks
    go_wp2_with fail
    refine (L3.out _).mono ?_
    rintro e wa ⟨rfl, hb⟩
    have hka := KS.step hks hb
    clear hb
    obtain ⟨f0, f1, f2, f3, f4, f5, hkz⟩ := KS.all hka
    go_wp2_with fail
    refine (L4.out _).mono ?_
    rintro e wb ⟨rfl, hb⟩
    have hkb := KS.step hka hb
    clear hb
    obtain ⟨f0, f1, f2, f3, f4, f5, hkz⟩ := KS.all hkb
    go_wp2_with fail
    refine (L5.out _).mono ?_
    rintro e wc ⟨rfl, hb⟩
    have hkc := KS.step hkb hb
    clear hb
    obtain ⟨f0, f1, f2, f3, f4, f5, hkz⟩ := KS.all hkc
    go_wp2_with fail
    refine (alive_true _).mono ?_
    rintro e wd ⟨rfl, hb⟩
    have HC := Lib.hid (nextB hkc.out.2.2 (Nat.le_refl _) hb)
    clear hb
    go_wp2_with fail
    go_ret
    exact ⟨rfl, HC.out⟩

set_option maxRecDepth 100000 in
set_option maxHeartbeats 3200000 in
theorem order_tf_m1_1 (v b s b' s' : Int) (a0 : 0 ≤ v) (a1 : v ≤ 65535) (b0 : 0 ≤ b) (b2 : b ≤ 4294967295) (z0 : 0 ≤ b') (z1 : b' ≤ 4294967295) (tb : (b == b') = false) (hsame : decide (v = v ∧ b = b') = false) (hr1 : cmpK v b 0 v b' s' = -1) (hr2 : cmpK v b' s' v b 18446744073709551615 = 1) (w : World) :
    Calls Try.prog 7 #[.agg #[.int .u16 v, .int .u32 b, .int .u64 s], .agg #[.int .u16 v, .int .u32 b', .int .u64 s']] w fun e w' => e = .returned (.bool true) ∧ Below w.heap.size w w' := by
  have l0 := law_any v b s v b' s' a0 a1 b0 b2 a0 a1 z0 z1
  have l1 := law_any v b 0 v b' s' a0 a1 b0 b2 a0 a1 z0 z1
  have l2 := law_any v b' s' v b 18446744073709551615 a0 a1 z0 z1 a0 a1 b0 b2
  have l3 := compare_any v b s v b' s'
  have l4 := less_any v b s v b' s'
  have l5 := same_any v b s v b' s'
  rw [hsame] at l5
  rw [hr1] at l1
  rw [hr2] at l2
  generalize cmpK v b s v b' s' = r at *
  have L0 := Lib.hid l0
  have L1 := Lib.hid l1
  have L2 := Lib.hid l2
  have L3 := Lib.hid l3
  have L4 := Lib.hid l4
  have L5 := Lib.hid l5
  clear l0 l1 l2 l3 l4 l5 hsame hr1 hr2 a0 a1 b0 b2 z0 z1
  have bx0 : Box ((w.alloc (Obj.cells #[Value.int IntKind.u16 v, Value.int IntKind.u32 b, Value.int IntKind.u64 s] 49)).alloc (Obj.cells #[Value.int IntKind.u16 v, Value.int IntKind.u32 b', Value.int IntKind.u64 s'] 49)) w.heap.size 49 #[Value.int IntKind.u16 v, Value.int IntKind.u32 b, Value.int IntKind.u64 s] := (Box.new w #[Value.int IntKind.u16 v, Value.int IntKind.u32 b, Value.int IntKind.u64 s] 49).alloc _
  have bx1 : Box ((w.alloc (Obj.cells #[Value.int IntKind.u16 v, Value.int IntKind.u32 b, Value.int IntKind.u64 s] 49)).alloc (Obj.cells #[Value.int IntKind.u16 v, Value.int IntKind.u32 b', Value.int IntKind.u64 s'] 49)) (w.heap.size + 1) 49 #[Value.int IntKind.u16 v, Value.int IntKind.u32 b', Value.int IntKind.u64 s'] := by
    have := Box.new (w.alloc (Obj.cells #[Value.int IntKind.u16 v, Value.int IntKind.u32 b, Value.int IntKind.u64 s] 49)) #[Value.int IntKind.u16 v, Value.int IntKind.u32 b', Value.int IntKind.u64 s'] 49
    rw [show (w.alloc (Obj.cells #[Value.int IntKind.u16 v, Value.int IntKind.u32 b, Value.int IntKind.u64 s] 49)).heap.size = w.heap.size + 1 by simp] at this
    exact this
  have BX0 := Lib.hid bx0
  have BX1 := Lib.hid bx1
  clear bx0 bx1
  go_enter Try.func7, Try.ntmps7
  go_wp2_with fail
  refine (L0.out _).mono ?_
  rintro e w1 ⟨rfl, hb1⟩
  have X0 := Lib.hid (BX0.out.below hb1 BX0.out.lt)
  have X1 := Lib.hid (BX1.out.below hb1 BX1.out.lt)
  have HB := Lib.hid (nextB (((Below.refl _ w).alloc (Nat.le_refl _) (Obj.cells #[Value.int IntKind.u16 v, Value.int IntKind.u32 b, Value.int IntKind.u64 s] 49)).alloc (by simp) (Obj.cells #[Value.int IntKind.u16 v, Value.int IntKind.u32 b', Value.int IntKind.u64 s'] 49)) (Nat.le_refl _) hb1)
  clear BX0 BX1 hb1
  have x00 : World.cell? w1 ⟨w.heap.size, 0, none⟩ = some (.int .u16 v) := (X0.out.cell 0).trans rfl
  have x01 : World.cell? w1 ⟨w.heap.size, 1, none⟩ = some (.int .u32 b) := (X0.out.cell 1).trans rfl
  have x02 : World.cell? w1 ⟨w.heap.size, 2, none⟩ = some (.int .u64 s) := (X0.out.cell 2).trans rfl
  have x10 : World.cell? w1 ⟨(w.heap.size + 1), 0, none⟩ = some (.int .u16 v) := (X1.out.cell 0).trans rfl
  have x11 : World.cell? w1 ⟨(w.heap.size + 1), 1, none⟩ = some (.int .u32 b') := (X1.out.cell 1).trans rfl
  have x12 : World.cell? w1 ⟨(w.heap.size + 1), 2, none⟩ = some (.int .u64 s') := (X1.out.cell 2).trans rfl
  go_wp2_with fail
  have K0 := Lib.hid (show KS w v b s v b' s' w1 from ⟨X0.out, X1.out, HB.out⟩)
  go_region_held3 (fun wx => wx.cell? ⟨w.heap.size, 0, none⟩ = some (.int .u16 v) ∧ wx.cell? ⟨w.heap.size, 1, none⟩ = some (.int .u32 b) ∧ wx.cell? ⟨w.heap.size, 2, none⟩ = some (.int .u64 s) ∧ wx.cell? ⟨w.heap.size + 1, 0, none⟩ = some (.int .u16 v) ∧ wx.cell? ⟨w.heap.size + 1, 1, none⟩ = some (.int .u32 b') ∧ wx.cell? ⟨w.heap.size + 1, 2, none⟩ = some (.int .u64 s') ∧ Hid (KS w v b s v b' s' wx)) (first | exact KS.all (by assumption) | exact KS.all (KS.drew (by assumption)))
    (first
      | (go_at_call 28; refine (first_any _ _ _).mono ?_; rintro e wz ⟨rfl, hb⟩; (first | have hk := KS.step (by assumption) hb | have hk := KS.step (KS.drew (by assumption)) hb); clear hb)
      | (go_at_call 29; refine (last_any _ _ _).mono ?_; rintro e wz ⟨rfl, hb⟩; (first | have hk := KS.step (by assumption) hb | have hk := KS.step (KS.drew (by assumption)) hb); clear hb)
      | (go_at_call_of 25 (Value.int IntKind.u64 0); refine (L1.out _).mono ?_; rintro e wz ⟨rfl, hb⟩; (first | have hk := KS.step (by assumption) hb | have hk := KS.step (KS.drew (by assumption)) hb); clear hb)
      | (go_at_call_of 25 (Value.int IntKind.u64 18446744073709551615); refine (L2.out _).mono ?_; rintro e wz ⟨rfl, hb⟩; (first | have hk := KS.step (by assumption) hb | have hk := KS.step (KS.drew (by assumption)) hb); clear hb))
  all_goals
    rename_i hkk
    have hks := hkk.2.2.2.2.2.2
    obtain ⟨f0, f1, f2, f3, f4, f5, hkz⟩ := KS.all hks
    go_wp2_with fail
    refine (L3.out _).mono ?_
    rintro e wa ⟨rfl, hb⟩
    have hka := KS.step hks hb
    clear hb
    obtain ⟨f0, f1, f2, f3, f4, f5, hkz⟩ := KS.all hka
    go_wp2_with fail
    refine (L4.out _).mono ?_
    rintro e wb ⟨rfl, hb⟩
    have hkb := KS.step hka hb
    clear hb
    obtain ⟨f0, f1, f2, f3, f4, f5, hkz⟩ := KS.all hkb
    go_wp2_with fail
    refine (L5.out _).mono ?_
    rintro e wc ⟨rfl, hb⟩
    have hkc := KS.step hkb hb
    clear hb
    obtain ⟨f0, f1, f2, f3, f4, f5, hkz⟩ := KS.all hkc
    go_wp2_with fail
    refine (alive_true _).mono ?_
    rintro e wd ⟨rfl, hb⟩
    have HC := Lib.hid (nextB hkc.out.2.2 (Nat.le_refl _) hb)
    clear hb
    go_wp2_with fail
    go_ret
    exact ⟨rfl, HC.out⟩

set_option maxRecDepth 100000 in
set_option maxHeartbeats 3200000 in
theorem order_tt_m1_m1 (v b s s' : Int) (a0 : 0 ≤ v) (a1 : v ≤ 65535) (b0 : 0 ≤ b) (b2 : b ≤ 4294967295) (hsame : decide (v = v ∧ b = b) = true) (hr1 : cmpK v b 0 v b s' = -1) (hr2 : cmpK v b s' v b 18446744073709551615 = -1) (w : World) :
    Calls Try.prog 7 #[.agg #[.int .u16 v, .int .u32 b, .int .u64 s], .agg #[.int .u16 v, .int .u32 b, .int .u64 s']] w fun e w' => e = .returned (.bool true) ∧ Below w.heap.size w w' := by
  have l0 := law_any v b s v b s' a0 a1 b0 b2 a0 a1 b0 b2
  have l1 := law_any v b 0 v b s' a0 a1 b0 b2 a0 a1 b0 b2
  have l2 := law_any v b s' v b 18446744073709551615 a0 a1 b0 b2 a0 a1 b0 b2
  have l3 := compare_any v b s v b s'
  have l4 := less_any v b s v b s'
  have l5 := same_any v b s v b s'
  rw [hsame] at l5
  rw [hr1] at l1
  rw [hr2] at l2
  generalize cmpK v b s v b s' = r at *
  have L0 := Lib.hid l0
  have L1 := Lib.hid l1
  have L2 := Lib.hid l2
  have L3 := Lib.hid l3
  have L4 := Lib.hid l4
  have L5 := Lib.hid l5
  clear l0 l1 l2 l3 l4 l5 hsame hr1 hr2 a0 a1 b0 b2
  have bx0 : Box ((w.alloc (Obj.cells #[Value.int IntKind.u16 v, Value.int IntKind.u32 b, Value.int IntKind.u64 s] 49)).alloc (Obj.cells #[Value.int IntKind.u16 v, Value.int IntKind.u32 b, Value.int IntKind.u64 s'] 49)) w.heap.size 49 #[Value.int IntKind.u16 v, Value.int IntKind.u32 b, Value.int IntKind.u64 s] := (Box.new w #[Value.int IntKind.u16 v, Value.int IntKind.u32 b, Value.int IntKind.u64 s] 49).alloc _
  have bx1 : Box ((w.alloc (Obj.cells #[Value.int IntKind.u16 v, Value.int IntKind.u32 b, Value.int IntKind.u64 s] 49)).alloc (Obj.cells #[Value.int IntKind.u16 v, Value.int IntKind.u32 b, Value.int IntKind.u64 s'] 49)) (w.heap.size + 1) 49 #[Value.int IntKind.u16 v, Value.int IntKind.u32 b, Value.int IntKind.u64 s'] := by
    have := Box.new (w.alloc (Obj.cells #[Value.int IntKind.u16 v, Value.int IntKind.u32 b, Value.int IntKind.u64 s] 49)) #[Value.int IntKind.u16 v, Value.int IntKind.u32 b, Value.int IntKind.u64 s'] 49
    rw [show (w.alloc (Obj.cells #[Value.int IntKind.u16 v, Value.int IntKind.u32 b, Value.int IntKind.u64 s] 49)).heap.size = w.heap.size + 1 by simp] at this
    exact this
  have BX0 := Lib.hid bx0
  have BX1 := Lib.hid bx1
  clear bx0 bx1
  go_enter Try.func7, Try.ntmps7
  go_wp2_with fail
  refine (L0.out _).mono ?_
  rintro e w1 ⟨rfl, hb1⟩
  have X0 := Lib.hid (BX0.out.below hb1 BX0.out.lt)
  have X1 := Lib.hid (BX1.out.below hb1 BX1.out.lt)
  have HB := Lib.hid (nextB (((Below.refl _ w).alloc (Nat.le_refl _) (Obj.cells #[Value.int IntKind.u16 v, Value.int IntKind.u32 b, Value.int IntKind.u64 s] 49)).alloc (by simp) (Obj.cells #[Value.int IntKind.u16 v, Value.int IntKind.u32 b, Value.int IntKind.u64 s'] 49)) (Nat.le_refl _) hb1)
  clear BX0 BX1 hb1
  have x00 : World.cell? w1 ⟨w.heap.size, 0, none⟩ = some (.int .u16 v) := (X0.out.cell 0).trans rfl
  have x01 : World.cell? w1 ⟨w.heap.size, 1, none⟩ = some (.int .u32 b) := (X0.out.cell 1).trans rfl
  have x02 : World.cell? w1 ⟨w.heap.size, 2, none⟩ = some (.int .u64 s) := (X0.out.cell 2).trans rfl
  have x10 : World.cell? w1 ⟨(w.heap.size + 1), 0, none⟩ = some (.int .u16 v) := (X1.out.cell 0).trans rfl
  have x11 : World.cell? w1 ⟨(w.heap.size + 1), 1, none⟩ = some (.int .u32 b) := (X1.out.cell 1).trans rfl
  have x12 : World.cell? w1 ⟨(w.heap.size + 1), 2, none⟩ = some (.int .u64 s') := (X1.out.cell 2).trans rfl
  go_wp2_with fail
  have K0 := Lib.hid (show KS w v b s v b s' w1 from ⟨X0.out, X1.out, HB.out⟩)
  go_region_held3 (fun wx => wx.cell? ⟨w.heap.size, 0, none⟩ = some (.int .u16 v) ∧ wx.cell? ⟨w.heap.size, 1, none⟩ = some (.int .u32 b) ∧ wx.cell? ⟨w.heap.size, 2, none⟩ = some (.int .u64 s) ∧ wx.cell? ⟨w.heap.size + 1, 0, none⟩ = some (.int .u16 v) ∧ wx.cell? ⟨w.heap.size + 1, 1, none⟩ = some (.int .u32 b) ∧ wx.cell? ⟨w.heap.size + 1, 2, none⟩ = some (.int .u64 s') ∧ Hid (KS w v b s v b s' wx)) (first | exact KS.all (by assumption) | exact KS.all (KS.drew (by assumption)))
    (first
      | (go_at_call 28; refine (first_any _ _ _).mono ?_; rintro e wz ⟨rfl, hb⟩; (first | have hk := KS.step (by assumption) hb | have hk := KS.step (KS.drew (by assumption)) hb); clear hb)
      | (go_at_call 29; refine (last_any _ _ _).mono ?_; rintro e wz ⟨rfl, hb⟩; (first | have hk := KS.step (by assumption) hb | have hk := KS.step (KS.drew (by assumption)) hb); clear hb)
      | (go_at_call_of 25 (Value.int IntKind.u64 0); refine (L1.out _).mono ?_; rintro e wz ⟨rfl, hb⟩; (first | have hk := KS.step (by assumption) hb | have hk := KS.step (KS.drew (by assumption)) hb); clear hb)
      | (go_at_call_of 25 (Value.int IntKind.u64 18446744073709551615); refine (L2.out _).mono ?_; rintro e wz ⟨rfl, hb⟩; (first | have hk := KS.step (by assumption) hb | have hk := KS.step (KS.drew (by assumption)) hb); clear hb))
  all_goals
    rename_i hkk
    have hks := hkk.2.2.2.2.2.2
    obtain ⟨f0, f1, f2, f3, f4, f5, hkz⟩ := KS.all hks
    go_wp2_with fail
    refine (L3.out _).mono ?_
    rintro e wa ⟨rfl, hb⟩
    have hka := KS.step hks hb
    clear hb
    obtain ⟨f0, f1, f2, f3, f4, f5, hkz⟩ := KS.all hka
    go_wp2_with fail
    refine (L4.out _).mono ?_
    rintro e wb ⟨rfl, hb⟩
    have hkb := KS.step hka hb
    clear hb
    obtain ⟨f0, f1, f2, f3, f4, f5, hkz⟩ := KS.all hkb
    go_wp2_with fail
    refine (L5.out _).mono ?_
    rintro e wc ⟨rfl, hb⟩
    have hkc := KS.step hkb hb
    clear hb
    obtain ⟨f0, f1, f2, f3, f4, f5, hkz⟩ := KS.all hkc
    go_wp2_with fail
    refine (alive_true _).mono ?_
    rintro e wd ⟨rfl, hb⟩
    have HC := Lib.hid (nextB hkc.out.2.2 (Nat.le_refl _) hb)
    clear hb
    go_wp2_with fail
    go_ret
    exact ⟨rfl, HC.out⟩

set_option maxRecDepth 100000 in
set_option maxHeartbeats 3200000 in
theorem order_tt_m1_0 (v b s s' : Int) (a0 : 0 ≤ v) (a1 : v ≤ 65535) (b0 : 0 ≤ b) (b2 : b ≤ 4294967295) (hsame : decide (v = v ∧ b = b) = true) (hr1 : cmpK v b 0 v b s' = -1) (hr2 : cmpK v b s' v b 18446744073709551615 = 0) (w : World) :
    Calls Try.prog 7 #[.agg #[.int .u16 v, .int .u32 b, .int .u64 s], .agg #[.int .u16 v, .int .u32 b, .int .u64 s']] w fun e w' => e = .returned (.bool true) ∧ Below w.heap.size w w' := by
  have l0 := law_any v b s v b s' a0 a1 b0 b2 a0 a1 b0 b2
  have l1 := law_any v b 0 v b s' a0 a1 b0 b2 a0 a1 b0 b2
  have l2 := law_any v b s' v b 18446744073709551615 a0 a1 b0 b2 a0 a1 b0 b2
  have l3 := compare_any v b s v b s'
  have l4 := less_any v b s v b s'
  have l5 := same_any v b s v b s'
  rw [hsame] at l5
  rw [hr1] at l1
  rw [hr2] at l2
  generalize cmpK v b s v b s' = r at *
  have L0 := Lib.hid l0
  have L1 := Lib.hid l1
  have L2 := Lib.hid l2
  have L3 := Lib.hid l3
  have L4 := Lib.hid l4
  have L5 := Lib.hid l5
  clear l0 l1 l2 l3 l4 l5 hsame hr1 hr2 a0 a1 b0 b2
  have bx0 : Box ((w.alloc (Obj.cells #[Value.int IntKind.u16 v, Value.int IntKind.u32 b, Value.int IntKind.u64 s] 49)).alloc (Obj.cells #[Value.int IntKind.u16 v, Value.int IntKind.u32 b, Value.int IntKind.u64 s'] 49)) w.heap.size 49 #[Value.int IntKind.u16 v, Value.int IntKind.u32 b, Value.int IntKind.u64 s] := (Box.new w #[Value.int IntKind.u16 v, Value.int IntKind.u32 b, Value.int IntKind.u64 s] 49).alloc _
  have bx1 : Box ((w.alloc (Obj.cells #[Value.int IntKind.u16 v, Value.int IntKind.u32 b, Value.int IntKind.u64 s] 49)).alloc (Obj.cells #[Value.int IntKind.u16 v, Value.int IntKind.u32 b, Value.int IntKind.u64 s'] 49)) (w.heap.size + 1) 49 #[Value.int IntKind.u16 v, Value.int IntKind.u32 b, Value.int IntKind.u64 s'] := by
    have := Box.new (w.alloc (Obj.cells #[Value.int IntKind.u16 v, Value.int IntKind.u32 b, Value.int IntKind.u64 s] 49)) #[Value.int IntKind.u16 v, Value.int IntKind.u32 b, Value.int IntKind.u64 s'] 49
    rw [show (w.alloc (Obj.cells #[Value.int IntKind.u16 v, Value.int IntKind.u32 b, Value.int IntKind.u64 s] 49)).heap.size = w.heap.size + 1 by simp] at this
    exact this
  have BX0 := Lib.hid bx0
  have BX1 := Lib.hid bx1
  clear bx0 bx1
  go_enter Try.func7, Try.ntmps7
  go_wp2_with fail
  refine (L0.out _).mono ?_
  rintro e w1 ⟨rfl, hb1⟩
  have X0 := Lib.hid (BX0.out.below hb1 BX0.out.lt)
  have X1 := Lib.hid (BX1.out.below hb1 BX1.out.lt)
  have HB := Lib.hid (nextB (((Below.refl _ w).alloc (Nat.le_refl _) (Obj.cells #[Value.int IntKind.u16 v, Value.int IntKind.u32 b, Value.int IntKind.u64 s] 49)).alloc (by simp) (Obj.cells #[Value.int IntKind.u16 v, Value.int IntKind.u32 b, Value.int IntKind.u64 s'] 49)) (Nat.le_refl _) hb1)
  clear BX0 BX1 hb1
  have x00 : World.cell? w1 ⟨w.heap.size, 0, none⟩ = some (.int .u16 v) := (X0.out.cell 0).trans rfl
  have x01 : World.cell? w1 ⟨w.heap.size, 1, none⟩ = some (.int .u32 b) := (X0.out.cell 1).trans rfl
  have x02 : World.cell? w1 ⟨w.heap.size, 2, none⟩ = some (.int .u64 s) := (X0.out.cell 2).trans rfl
  have x10 : World.cell? w1 ⟨(w.heap.size + 1), 0, none⟩ = some (.int .u16 v) := (X1.out.cell 0).trans rfl
  have x11 : World.cell? w1 ⟨(w.heap.size + 1), 1, none⟩ = some (.int .u32 b) := (X1.out.cell 1).trans rfl
  have x12 : World.cell? w1 ⟨(w.heap.size + 1), 2, none⟩ = some (.int .u64 s') := (X1.out.cell 2).trans rfl
  go_wp2_with fail
  have K0 := Lib.hid (show KS w v b s v b s' w1 from ⟨X0.out, X1.out, HB.out⟩)
  go_region_held3 (fun wx => wx.cell? ⟨w.heap.size, 0, none⟩ = some (.int .u16 v) ∧ wx.cell? ⟨w.heap.size, 1, none⟩ = some (.int .u32 b) ∧ wx.cell? ⟨w.heap.size, 2, none⟩ = some (.int .u64 s) ∧ wx.cell? ⟨w.heap.size + 1, 0, none⟩ = some (.int .u16 v) ∧ wx.cell? ⟨w.heap.size + 1, 1, none⟩ = some (.int .u32 b) ∧ wx.cell? ⟨w.heap.size + 1, 2, none⟩ = some (.int .u64 s') ∧ Hid (KS w v b s v b s' wx)) (first | exact KS.all (by assumption) | exact KS.all (KS.drew (by assumption)))
    (first
      | (go_at_call 28; refine (first_any _ _ _).mono ?_; rintro e wz ⟨rfl, hb⟩; (first | have hk := KS.step (by assumption) hb | have hk := KS.step (KS.drew (by assumption)) hb); clear hb)
      | (go_at_call 29; refine (last_any _ _ _).mono ?_; rintro e wz ⟨rfl, hb⟩; (first | have hk := KS.step (by assumption) hb | have hk := KS.step (KS.drew (by assumption)) hb); clear hb)
      | (go_at_call_of 25 (Value.int IntKind.u64 0); refine (L1.out _).mono ?_; rintro e wz ⟨rfl, hb⟩; (first | have hk := KS.step (by assumption) hb | have hk := KS.step (KS.drew (by assumption)) hb); clear hb)
      | (go_at_call_of 25 (Value.int IntKind.u64 18446744073709551615); refine (L2.out _).mono ?_; rintro e wz ⟨rfl, hb⟩; (first | have hk := KS.step (by assumption) hb | have hk := KS.step (KS.drew (by assumption)) hb); clear hb))
  all_goals
    rename_i hkk
    have hks := hkk.2.2.2.2.2.2
    obtain ⟨f0, f1, f2, f3, f4, f5, hkz⟩ := KS.all hks
    go_wp2_with fail
    refine (L3.out _).mono ?_
    rintro e wa ⟨rfl, hb⟩
    have hka := KS.step hks hb
    clear hb
    obtain ⟨f0, f1, f2, f3, f4, f5, hkz⟩ := KS.all hka
    go_wp2_with fail
    refine (L4.out _).mono ?_
    rintro e wb ⟨rfl, hb⟩
    have hkb := KS.step hka hb
    clear hb
    obtain ⟨f0, f1, f2, f3, f4, f5, hkz⟩ := KS.all hkb
    go_wp2_with fail
    refine (L5.out _).mono ?_
    rintro e wc ⟨rfl, hb⟩
    have hkc := KS.step hkb hb
    clear hb
    obtain ⟨f0, f1, f2, f3, f4, f5, hkz⟩ := KS.all hkc
    go_wp2_with fail
    refine (alive_true _).mono ?_
    rintro e wd ⟨rfl, hb⟩
    have HC := Lib.hid (nextB hkc.out.2.2 (Nat.le_refl _) hb)
    clear hb
    go_wp2_with fail
    go_ret
    exact ⟨rfl, HC.out⟩

set_option maxRecDepth 100000 in
set_option maxHeartbeats 3200000 in
theorem order_tt_0_m1 (v b s s' : Int) (a0 : 0 ≤ v) (a1 : v ≤ 65535) (b0 : 0 ≤ b) (b2 : b ≤ 4294967295) (hsame : decide (v = v ∧ b = b) = true) (hr1 : cmpK v b 0 v b s' = 0) (hr2 : cmpK v b s' v b 18446744073709551615 = -1) (w : World) :
    Calls Try.prog 7 #[.agg #[.int .u16 v, .int .u32 b, .int .u64 s], .agg #[.int .u16 v, .int .u32 b, .int .u64 s']] w fun e w' => e = .returned (.bool true) ∧ Below w.heap.size w w' := by
  have l0 := law_any v b s v b s' a0 a1 b0 b2 a0 a1 b0 b2
  have l1 := law_any v b 0 v b s' a0 a1 b0 b2 a0 a1 b0 b2
  have l2 := law_any v b s' v b 18446744073709551615 a0 a1 b0 b2 a0 a1 b0 b2
  have l3 := compare_any v b s v b s'
  have l4 := less_any v b s v b s'
  have l5 := same_any v b s v b s'
  rw [hsame] at l5
  rw [hr1] at l1
  rw [hr2] at l2
  generalize cmpK v b s v b s' = r at *
  have L0 := Lib.hid l0
  have L1 := Lib.hid l1
  have L2 := Lib.hid l2
  have L3 := Lib.hid l3
  have L4 := Lib.hid l4
  have L5 := Lib.hid l5
  clear l0 l1 l2 l3 l4 l5 hsame hr1 hr2 a0 a1 b0 b2
  have bx0 : Box ((w.alloc (Obj.cells #[Value.int IntKind.u16 v, Value.int IntKind.u32 b, Value.int IntKind.u64 s] 49)).alloc (Obj.cells #[Value.int IntKind.u16 v, Value.int IntKind.u32 b, Value.int IntKind.u64 s'] 49)) w.heap.size 49 #[Value.int IntKind.u16 v, Value.int IntKind.u32 b, Value.int IntKind.u64 s] := (Box.new w #[Value.int IntKind.u16 v, Value.int IntKind.u32 b, Value.int IntKind.u64 s] 49).alloc _
  have bx1 : Box ((w.alloc (Obj.cells #[Value.int IntKind.u16 v, Value.int IntKind.u32 b, Value.int IntKind.u64 s] 49)).alloc (Obj.cells #[Value.int IntKind.u16 v, Value.int IntKind.u32 b, Value.int IntKind.u64 s'] 49)) (w.heap.size + 1) 49 #[Value.int IntKind.u16 v, Value.int IntKind.u32 b, Value.int IntKind.u64 s'] := by
    have := Box.new (w.alloc (Obj.cells #[Value.int IntKind.u16 v, Value.int IntKind.u32 b, Value.int IntKind.u64 s] 49)) #[Value.int IntKind.u16 v, Value.int IntKind.u32 b, Value.int IntKind.u64 s'] 49
    rw [show (w.alloc (Obj.cells #[Value.int IntKind.u16 v, Value.int IntKind.u32 b, Value.int IntKind.u64 s] 49)).heap.size = w.heap.size + 1 by simp] at this
    exact this
  have BX0 := Lib.hid bx0
  have BX1 := Lib.hid bx1
  clear bx0 bx1
  go_enter Try.func7, Try.ntmps7
  go_wp2_with fail
  refine (L0.out _).mono ?_
  rintro e w1 ⟨rfl, hb1⟩
  have X0 := Lib.hid (BX0.out.below hb1 BX0.out.lt)
  have X1 := Lib.hid (BX1.out.below hb1 BX1.out.lt)
  have HB := Lib.hid (nextB (((Below.refl _ w).alloc (Nat.le_refl _) (Obj.cells #[Value.int IntKind.u16 v, Value.int IntKind.u32 b, Value.int IntKind.u64 s] 49)).alloc (by simp) (Obj.cells #[Value.int IntKind.u16 v, Value.int IntKind.u32 b, Value.int IntKind.u64 s'] 49)) (Nat.le_refl _) hb1)
  clear BX0 BX1 hb1
  have x00 : World.cell? w1 ⟨w.heap.size, 0, none⟩ = some (.int .u16 v) := (X0.out.cell 0).trans rfl
  have x01 : World.cell? w1 ⟨w.heap.size, 1, none⟩ = some (.int .u32 b) := (X0.out.cell 1).trans rfl
  have x02 : World.cell? w1 ⟨w.heap.size, 2, none⟩ = some (.int .u64 s) := (X0.out.cell 2).trans rfl
  have x10 : World.cell? w1 ⟨(w.heap.size + 1), 0, none⟩ = some (.int .u16 v) := (X1.out.cell 0).trans rfl
  have x11 : World.cell? w1 ⟨(w.heap.size + 1), 1, none⟩ = some (.int .u32 b) := (X1.out.cell 1).trans rfl
  have x12 : World.cell? w1 ⟨(w.heap.size + 1), 2, none⟩ = some (.int .u64 s') := (X1.out.cell 2).trans rfl
  go_wp2_with fail
  have K0 := Lib.hid (show KS w v b s v b s' w1 from ⟨X0.out, X1.out, HB.out⟩)
  go_region_held3 (fun wx => wx.cell? ⟨w.heap.size, 0, none⟩ = some (.int .u16 v) ∧ wx.cell? ⟨w.heap.size, 1, none⟩ = some (.int .u32 b) ∧ wx.cell? ⟨w.heap.size, 2, none⟩ = some (.int .u64 s) ∧ wx.cell? ⟨w.heap.size + 1, 0, none⟩ = some (.int .u16 v) ∧ wx.cell? ⟨w.heap.size + 1, 1, none⟩ = some (.int .u32 b) ∧ wx.cell? ⟨w.heap.size + 1, 2, none⟩ = some (.int .u64 s') ∧ Hid (KS w v b s v b s' wx)) (first | exact KS.all (by assumption) | exact KS.all (KS.drew (by assumption)))
    (first
      | (go_at_call 28; refine (first_any _ _ _).mono ?_; rintro e wz ⟨rfl, hb⟩; (first | have hk := KS.step (by assumption) hb | have hk := KS.step (KS.drew (by assumption)) hb); clear hb)
      | (go_at_call 29; refine (last_any _ _ _).mono ?_; rintro e wz ⟨rfl, hb⟩; (first | have hk := KS.step (by assumption) hb | have hk := KS.step (KS.drew (by assumption)) hb); clear hb)
      | (go_at_call_of 25 (Value.int IntKind.u64 0); refine (L1.out _).mono ?_; rintro e wz ⟨rfl, hb⟩; (first | have hk := KS.step (by assumption) hb | have hk := KS.step (KS.drew (by assumption)) hb); clear hb)
      | (go_at_call_of 25 (Value.int IntKind.u64 18446744073709551615); refine (L2.out _).mono ?_; rintro e wz ⟨rfl, hb⟩; (first | have hk := KS.step (by assumption) hb | have hk := KS.step (KS.drew (by assumption)) hb); clear hb))
  all_goals
    rename_i hkk
    have hks := hkk.2.2.2.2.2.2
    obtain ⟨f0, f1, f2, f3, f4, f5, hkz⟩ := KS.all hks
    go_wp2_with fail
    refine (L3.out _).mono ?_
    rintro e wa ⟨rfl, hb⟩
    have hka := KS.step hks hb
    clear hb
    obtain ⟨f0, f1, f2, f3, f4, f5, hkz⟩ := KS.all hka
    go_wp2_with fail
    refine (L4.out _).mono ?_
    rintro e wb ⟨rfl, hb⟩
    have hkb := KS.step hka hb
    clear hb
    obtain ⟨f0, f1, f2, f3, f4, f5, hkz⟩ := KS.all hkb
    go_wp2_with fail
    refine (L5.out _).mono ?_
    rintro e wc ⟨rfl, hb⟩
    have hkc := KS.step hkb hb
    clear hb
    obtain ⟨f0, f1, f2, f3, f4, f5, hkz⟩ := KS.all hkc
    go_wp2_with fail
    refine (alive_true _).mono ?_
    rintro e wd ⟨rfl, hb⟩
    have HC := Lib.hid (nextB hkc.out.2.2 (Nat.le_refl _) hb)
    clear hb
    go_wp2_with fail
    go_ret
    exact ⟨rfl, HC.out⟩

set_option maxRecDepth 100000 in
set_option maxHeartbeats 3200000 in
theorem order_tt_0_0 (v b s s' : Int) (a0 : 0 ≤ v) (a1 : v ≤ 65535) (b0 : 0 ≤ b) (b2 : b ≤ 4294967295) (hsame : decide (v = v ∧ b = b) = true) (hr1 : cmpK v b 0 v b s' = 0) (hr2 : cmpK v b s' v b 18446744073709551615 = 0) (w : World) :
    Calls Try.prog 7 #[.agg #[.int .u16 v, .int .u32 b, .int .u64 s], .agg #[.int .u16 v, .int .u32 b, .int .u64 s']] w fun e w' => e = .returned (.bool true) ∧ Below w.heap.size w w' := by
  have l0 := law_any v b s v b s' a0 a1 b0 b2 a0 a1 b0 b2
  have l1 := law_any v b 0 v b s' a0 a1 b0 b2 a0 a1 b0 b2
  have l2 := law_any v b s' v b 18446744073709551615 a0 a1 b0 b2 a0 a1 b0 b2
  have l3 := compare_any v b s v b s'
  have l4 := less_any v b s v b s'
  have l5 := same_any v b s v b s'
  rw [hsame] at l5
  rw [hr1] at l1
  rw [hr2] at l2
  generalize cmpK v b s v b s' = r at *
  have L0 := Lib.hid l0
  have L1 := Lib.hid l1
  have L2 := Lib.hid l2
  have L3 := Lib.hid l3
  have L4 := Lib.hid l4
  have L5 := Lib.hid l5
  clear l0 l1 l2 l3 l4 l5 hsame hr1 hr2 a0 a1 b0 b2
  have bx0 : Box ((w.alloc (Obj.cells #[Value.int IntKind.u16 v, Value.int IntKind.u32 b, Value.int IntKind.u64 s] 49)).alloc (Obj.cells #[Value.int IntKind.u16 v, Value.int IntKind.u32 b, Value.int IntKind.u64 s'] 49)) w.heap.size 49 #[Value.int IntKind.u16 v, Value.int IntKind.u32 b, Value.int IntKind.u64 s] := (Box.new w #[Value.int IntKind.u16 v, Value.int IntKind.u32 b, Value.int IntKind.u64 s] 49).alloc _
  have bx1 : Box ((w.alloc (Obj.cells #[Value.int IntKind.u16 v, Value.int IntKind.u32 b, Value.int IntKind.u64 s] 49)).alloc (Obj.cells #[Value.int IntKind.u16 v, Value.int IntKind.u32 b, Value.int IntKind.u64 s'] 49)) (w.heap.size + 1) 49 #[Value.int IntKind.u16 v, Value.int IntKind.u32 b, Value.int IntKind.u64 s'] := by
    have := Box.new (w.alloc (Obj.cells #[Value.int IntKind.u16 v, Value.int IntKind.u32 b, Value.int IntKind.u64 s] 49)) #[Value.int IntKind.u16 v, Value.int IntKind.u32 b, Value.int IntKind.u64 s'] 49
    rw [show (w.alloc (Obj.cells #[Value.int IntKind.u16 v, Value.int IntKind.u32 b, Value.int IntKind.u64 s] 49)).heap.size = w.heap.size + 1 by simp] at this
    exact this
  have BX0 := Lib.hid bx0
  have BX1 := Lib.hid bx1
  clear bx0 bx1
  go_enter Try.func7, Try.ntmps7
  go_wp2_with fail
  refine (L0.out _).mono ?_
  rintro e w1 ⟨rfl, hb1⟩
  have X0 := Lib.hid (BX0.out.below hb1 BX0.out.lt)
  have X1 := Lib.hid (BX1.out.below hb1 BX1.out.lt)
  have HB := Lib.hid (nextB (((Below.refl _ w).alloc (Nat.le_refl _) (Obj.cells #[Value.int IntKind.u16 v, Value.int IntKind.u32 b, Value.int IntKind.u64 s] 49)).alloc (by simp) (Obj.cells #[Value.int IntKind.u16 v, Value.int IntKind.u32 b, Value.int IntKind.u64 s'] 49)) (Nat.le_refl _) hb1)
  clear BX0 BX1 hb1
  have x00 : World.cell? w1 ⟨w.heap.size, 0, none⟩ = some (.int .u16 v) := (X0.out.cell 0).trans rfl
  have x01 : World.cell? w1 ⟨w.heap.size, 1, none⟩ = some (.int .u32 b) := (X0.out.cell 1).trans rfl
  have x02 : World.cell? w1 ⟨w.heap.size, 2, none⟩ = some (.int .u64 s) := (X0.out.cell 2).trans rfl
  have x10 : World.cell? w1 ⟨(w.heap.size + 1), 0, none⟩ = some (.int .u16 v) := (X1.out.cell 0).trans rfl
  have x11 : World.cell? w1 ⟨(w.heap.size + 1), 1, none⟩ = some (.int .u32 b) := (X1.out.cell 1).trans rfl
  have x12 : World.cell? w1 ⟨(w.heap.size + 1), 2, none⟩ = some (.int .u64 s') := (X1.out.cell 2).trans rfl
  go_wp2_with fail
  have K0 := Lib.hid (show KS w v b s v b s' w1 from ⟨X0.out, X1.out, HB.out⟩)
  go_region_held3 (fun wx => wx.cell? ⟨w.heap.size, 0, none⟩ = some (.int .u16 v) ∧ wx.cell? ⟨w.heap.size, 1, none⟩ = some (.int .u32 b) ∧ wx.cell? ⟨w.heap.size, 2, none⟩ = some (.int .u64 s) ∧ wx.cell? ⟨w.heap.size + 1, 0, none⟩ = some (.int .u16 v) ∧ wx.cell? ⟨w.heap.size + 1, 1, none⟩ = some (.int .u32 b) ∧ wx.cell? ⟨w.heap.size + 1, 2, none⟩ = some (.int .u64 s') ∧ Hid (KS w v b s v b s' wx)) (first | exact KS.all (by assumption) | exact KS.all (KS.drew (by assumption)))
    (first
      | (go_at_call 28; refine (first_any _ _ _).mono ?_; rintro e wz ⟨rfl, hb⟩; (first | have hk := KS.step (by assumption) hb | have hk := KS.step (KS.drew (by assumption)) hb); clear hb)
      | (go_at_call 29; refine (last_any _ _ _).mono ?_; rintro e wz ⟨rfl, hb⟩; (first | have hk := KS.step (by assumption) hb | have hk := KS.step (KS.drew (by assumption)) hb); clear hb)
      | (go_at_call_of 25 (Value.int IntKind.u64 0); refine (L1.out _).mono ?_; rintro e wz ⟨rfl, hb⟩; (first | have hk := KS.step (by assumption) hb | have hk := KS.step (KS.drew (by assumption)) hb); clear hb)
      | (go_at_call_of 25 (Value.int IntKind.u64 18446744073709551615); refine (L2.out _).mono ?_; rintro e wz ⟨rfl, hb⟩; (first | have hk := KS.step (by assumption) hb | have hk := KS.step (KS.drew (by assumption)) hb); clear hb))
  all_goals
    rename_i hkk
    have hks := hkk.2.2.2.2.2.2
    obtain ⟨f0, f1, f2, f3, f4, f5, hkz⟩ := KS.all hks
    go_wp2_with fail
    refine (L3.out _).mono ?_
    rintro e wa ⟨rfl, hb⟩
    have hka := KS.step hks hb
    clear hb
    obtain ⟨f0, f1, f2, f3, f4, f5, hkz⟩ := KS.all hka
    go_wp2_with fail
    refine (L4.out _).mono ?_
    rintro e wb ⟨rfl, hb⟩
    have hkb := KS.step hka hb
    clear hb
    obtain ⟨f0, f1, f2, f3, f4, f5, hkz⟩ := KS.all hkb
    go_wp2_with fail
    refine (L5.out _).mono ?_
    rintro e wc ⟨rfl, hb⟩
    have hkc := KS.step hkb hb
    clear hb
    obtain ⟨f0, f1, f2, f3, f4, f5, hkz⟩ := KS.all hkc
    go_wp2_with fail
    refine (alive_true _).mono ?_
    rintro e wd ⟨rfl, hb⟩
    have HC := Lib.hid (nextB hkc.out.2.2 (Nat.le_refl _) hb)
    clear hb
    go_wp2_with fail
    go_ret
    exact ⟨rfl, HC.out⟩

end Go.Proofs.Ytaagfmaboggbhaa.key
