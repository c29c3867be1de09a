/-
  The law KeyOrder, all cases joined.
-/
import Derived.Test.YtaagfmaboggbhaaKeyOrderX
namespace Go.Proofs.Ytaagfmaboggbhaa.key
open Go.RowKit Go.ChangeShapes Go.WideShapes Go.ChangeAt Go.Joins
set_option linter.unusedVariables false

theorem cmpK_cases (v b s v' b' s' : Int) : cmpK v b s v' b' s' = if v < v' then -1 else if v' < v then 1 else if b < b' then -1 else if b' < b then 1 else if s < s' then -1 else if s' < s then 1 else 0 := by
  unfold cmpK cmpI
  repeat' split
  all_goals first | omega | simp_all

theorem order_any (v b s v' b' s' : Int) (a0 : 0 ≤ v) (a1 : v ≤ 65535) (b0 : 0 ≤ b) (b1 : b ≤ 4294967295) (y0 : 0 ≤ v') (y1 : v' ≤ 65535) (z0 : 0 ≤ b') (z1 : b' ≤ 4294967295) (s0 : 0 ≤ s') (s1 : s' ≤ 18446744073709551615) (w : World) :
    Calls Try.prog 7 #[.agg #[.int .u16 v, .int .u32 b, .int .u64 s], .agg #[.int .u16 v', .int .u32 b', .int .u64 s']] w fun e w' => e = .returned (.bool true) ∧ Below w.heap.size w w' := by
  by_cases hv : v = v'
  · subst hv
    by_cases hb : b = b'
    · subst hb
      by_cases h1 : 0 < s'
      · by_cases h2 : s' < 18446744073709551615
        · exact order_tt_m1_m1 v b s s' a0 a1 b0 b1 (by simp) (by rw [cmpK_cases]; (repeat' split) <;> omega) (by rw [cmpK_cases]; (repeat' split) <;> omega) w
        · exact order_tt_m1_0 v b s s' a0 a1 b0 b1 (by simp) (by rw [cmpK_cases]; (repeat' split) <;> omega) (by rw [cmpK_cases]; (repeat' split) <;> omega) w
      · by_cases h2 : s' < 18446744073709551615
        · exact order_tt_0_m1 v b s s' a0 a1 b0 b1 (by simp) (by rw [cmpK_cases]; (repeat' split) <;> omega) (by rw [cmpK_cases]; (repeat' split) <;> omega) w
        · exact order_tt_0_0 v b s s' a0 a1 b0 b1 (by simp) (by rw [cmpK_cases]; (repeat' split) <;> omega) (by rw [cmpK_cases]; (repeat' split) <;> omega) w
    · have tb : (b == b') = false := by rw [beq_eq_false_iff_ne]; exact hb
      have hs : decide (v = v ∧ b = b') = false := by simp [hb]
      by_cases h1 : b < b'
      · exact order_tf_m1_1 v b s b' s' a0 a1 b0 b1 z0 z1 tb hs (by rw [cmpK_cases]; (repeat' split) <;> omega) (by rw [cmpK_cases]; (repeat' split) <;> omega) w
      · exact order_tf_1 v b s b' s' a0 a1 b0 b1 z0 z1 tb hs (by rw [cmpK_cases]; (repeat' split) <;> omega) w
  · have tv : (v == v') = false := by rw [beq_eq_false_iff_ne]; exact hv
    have hs : decide (v = v' ∧ b = b') = false := by simp [hv]
    by_cases h1 : v < v'
    · exact order_ff_m1_1 v b s v' b' s' a0 a1 b0 b1 y0 y1 z0 z1 tv hs (by rw [cmpK_cases]; (repeat' split) <;> omega) (by rw [cmpK_cases]; (repeat' split) <;> omega) w
    · exact order_ff_1 v b s v' b' s' a0 a1 b0 b1 y0 y1 z0 z1 tv hs (by rw [cmpK_cases]; (repeat' split) <;> omega) w

set_option maxRecDepth 100000 in
theorem order_main {H : Type} {enc : TypeId × Value → H} {base : Nat} (W : World) {v0 v1 : Value} {d0 d1 : DataW H} {p0 p1 : List MemPlace}
    (h0 : DataW.Trod enc Try.prog W 0 (fun _ => true) true 49 v0 d0 p0) (k0 : Value.okWide Try.prog W .any base 49 v0)
    (h1 : DataW.Trod enc Try.prog W 0 (fun _ => true) true 49 v1 d1 p1) (k1 : Value.okWide Try.prog W .any base 49 v1) :
    Calls Try.prog 7 #[v0, v1] W fun e W' => e = .returned (.bool true) ∧ Below W.heap.size W W' := by
  obtain ⟨v, b, s, rfl, a0, a1, a2⟩ := open_key h0 k0
  obtain ⟨v', b', s', rfl, b0, b1, b2⟩ := open_key h1 k1
  exact order_any v b s v' b' s' a0.1 a0.2 a1.1 a1.2 b0.1 b0.2 b1.1 b1.2 b2.1 b2.2 W
end Go.Proofs.Ytaagfmaboggbhaa.key
