/-
  The walks of the three laws of package ring.
-/
import Derived.Test.YtigebiknlodghaaRing
import Derived.ProofKit
import Derived.OpenShut
import Derived.Lib.SmallJoins
import Derived.Lib.Hide
namespace Go.Proofs.Ytigebiknlodghaa.ring
open Go.ChangeShapes Go.WideShapes Go.ChangeAt Go.RowKit Go.Joins
set_option linter.unusedVariables false

theorem i64_bounds {n : Int} (h : (Lit.int .i64 n).wf = true) : -9223372036854775808 ≤ n ∧ n ≤ 9223372036854775807 := by
  simp [Lit.wf, IntKind.min, IntKind.max, IntKind.signed, IntKind.bits] at h; omega
theorem u64_bounds {n : Int} (h : (Lit.int .u64 n).wf = true) : 0 ≤ n ∧ n ≤ 18446744073709551615 := by
  simp [Lit.wf, IntKind.min, IntKind.max, IntKind.signed, IntKind.bits] at h; omega

set_option maxHeartbeats 800000 in
theorem places_walk (s l x : Int) (s0 : -9223372036854775808 ≤ s) (s1 : s ≤ 9223372036854775807) (l0 : -9223372036854775808 ≤ l) (l1 : l ≤ 9223372036854775807) (x0 : 0 ≤ x) (x1 : x ≤ 18446744073709551615) (w : World) :
    Calls Try.prog 4 #[.int .i64 s, .int .i64 l, .int .u64 x] w fun e w' => e = .returned (.bool true) ∧ w = w' := by
  by_cases c1 : l < 1
  · go_enter Try.func4, Try.ntmps4
    go_wp2
    go_ret
    exact ⟨rfl, rfl⟩
  by_cases c2 : s ≤ 0
  · by_cases c3 : 4096 < l
    all_goals
      go_enter Try.func4, Try.ntmps4
      go_wp2
      go_ret
      exact ⟨rfl, rfl⟩
  by_cases c3 : s ≤ 2
  · by_cases c3 : 4096 < l
    all_goals
      have t1 : decide (l + 2 < s) = false := by simp; omega
      have t2 : decide (l < s - 2) = false := by simp; omega
      go_enter Try.func4, Try.ntmps4
      go_wp2
      go_ret
      exact ⟨rfl, rfl⟩
  by_cases c4 : 4096 < s
  · by_cases c3 : 4096 < l
    all_goals
      go_enter Try.func4, Try.ntmps4
      go_wp2
      go_ret
      exact ⟨rfl, rfl⟩
  by_cases c5 : 4096 < l
  · go_enter Try.func4, Try.ntmps4
    go_wp2
    go_ret
    exact ⟨rfl, rfl⟩
  by_cases c6 : s ≤ l + 2
  · have t1 : decide (l + 2 < s) = false := by simp; omega
    have t2 : decide (l < s - 2) = false := by simp; omega
    go_enter Try.func4, Try.ntmps4
    go_wp2
    go_ret
    exact ⟨rfl, rfl⟩
  · have b1 : 0 ≤ x % l := Int.emod_nonneg _ (by omega)
    have b2 : x % l < l := Int.emod_lt_of_pos _ (by omega)
    have t1 : decide (l + 2 < s) = true := by simp; omega
    have t2 : decide (l < s - 2) = true := by simp; omega
    go_enter Try.func4, Try.ntmps4
    go_wp2
    go_ret
    exact ⟨rfl, rfl⟩

theorem places_main {H : Type} {enc : TypeId × Value → H} {base : Nat} (W : World) {v0 v1 v2 : Value} {d0 d1 d2 : DataW H} {p0 p1 p2 : List MemPlace}
    (h0 : DataW.Trod enc Try.prog W 0 (fun _ => true) true 3 v0 d0 p0) (k0 : Value.okWide Try.prog W .any base 3 v0)
    (h1 : DataW.Trod enc Try.prog W 0 (fun _ => true) true 3 v1 d1 p1) (k1 : Value.okWide Try.prog W .any base 3 v1)
    (h2 : DataW.Trod enc Try.prog W 0 (fun _ => true) true 22 v2 d2 p2) (k2 : Value.okWide Try.prog W .any base 22 v2) :
    Calls Try.prog 4 #[v0, v1, v2] W fun e W' => e = .returned (.bool true) ∧ Below W.heap.size W W' := by
  obtain ⟨a0, rfl, rfl, rfl, w0⟩ := open_int Try.underlying3 k0 h0
  obtain ⟨a1, rfl, rfl, rfl, w1⟩ := open_int Try.underlying3 k1 h1
  obtain ⟨a2, rfl, rfl, rfl, w2⟩ := open_int Try.underlying22 k2 h2
  exact (places_walk a0 a1 a2 (i64_bounds w0).1 (i64_bounds w0).2 (i64_bounds w1).1 (i64_bounds w1).2 (u64_bounds w2).1 (u64_bounds w2).2 W).mono fun _ _ ⟨he, hw⟩ => ⟨he, hw ▸ Below.refl _ _⟩

theorem sub_zero_of_emod (k m l : Int) (h : m ≤ k) (h2 : 0 ≤ m) (h1 : k < l) (e : l ∣ k - m) : k = m := by
  have := Int.emod_eq_zero_of_dvd e
  rw [Int.emod_eq_of_lt (by omega) (by omega)] at this
  omega
/-- Two numbers that are not as far apart as the divisor is great have one remainder just if they are one. -/
theorem emod_same (f k m l : Int) (h0 : 0 ≤ k) (h1 : k < l) (h2 : 0 ≤ m) (h3 : m < l) : (2 + (f + k) % l == 2 + (f + m) % l) = (k == m) := by
  rw [Bool.eq_iff_iff]
  simp only [beq_iff_eq]
  constructor
  · intro h
    have e : (f + k) % l = (f + m) % l := by omega
    have e1 := Int.emod_eq_emod_iff_emod_sub_eq_zero.1 e
    have e2 := Int.emod_eq_emod_iff_emod_sub_eq_zero.1 e.symm
    have g1 : f + k - (f + m) = k - m := by omega
    have g2 : f + m - (f + k) = m - k := by omega
    rw [g1] at e1
    rw [g2] at e2
    rcases Int.le_total m k with h | h
    · exact sub_zero_of_emod k m l h h2 h1 (Int.dvd_of_emod_eq_zero e1)
    · exact (sub_zero_of_emod m k l h h0 h3 (Int.dvd_of_emod_eq_zero e2)).symm
  · rintro rfl; rfl

theorem field_u64 {H : Type} {enc : TypeId × Value → H} {W : World} {base n : Nat} {spare : Nat → Bool} {held : Bool} {v : Value} {y : DataW H × List MemPlace}
    (h : DataW.trod enc Try.prog W base spare held n 22 [v] = some y) : ∃ x, v = .int .u64 x ∧ 0 ≤ x ∧ x ≤ 18446744073709551615 := by
  obtain ⟨x, e, _, wx⟩ := DataW.trod_int Try.underlying22 h
  simp at e
  exact ⟨x, e, u64_bounds wx⟩

theorem below_drewN {B : Nat} {a w : World} (h : Below B a w) (n : Nat) : Below B a (w.drewN n) := ⟨h.os, h.tape, h.output, h.size, h.block⟩

set_option maxHeartbeats 1600000 in
theorem apart_walk (f k m l : Int) (f0 : 0 ≤ f) (f1 : f ≤ 18446744073709551615) (k0 : 0 ≤ k) (k1 : k ≤ 18446744073709551615) (m0 : 0 ≤ m) (m1 : m ≤ 18446744073709551615)
    (l0 : -9223372036854775808 ≤ l) (l1 : l ≤ 9223372036854775807) (w : World) :
    Calls Try.prog 3 #[.agg #[.int .u64 f, .int .u64 k, .int .u64 m], .int .i64 l] w fun e w' => e = .returned (.bool true) ∧ Below w.heap.size w w' := by
  by_cases c1 : l < 1
  · go_enter Try.func3, Try.ntmps3
    go_wp2
    go_ret
    exact ⟨rfl, (Below.refl _ _).alloc (Nat.le_refl _) _⟩
  by_cases c2 : 4096 < l
  · go_enter Try.func3, Try.ntmps3
    go_wp2
    go_ret
    exact ⟨rfl, (Below.refl _ _).alloc (Nat.le_refl _) _⟩
  by_cases c3 : 4611686018427387904 ≤ f
  · go_enter Try.func3, Try.ntmps3
    go_wp2
    go_ret
    exact ⟨rfl, (Below.refl _ _).alloc (Nat.le_refl _) _⟩
  by_cases c4 : l ≤ k
  · go_enter Try.func3, Try.ntmps3
    go_wp2
    go_ret
    exact ⟨rfl, (Below.refl _ _).alloc (Nat.le_refl _) _⟩
  by_cases c5 : l ≤ m
  · go_enter Try.func3, Try.ntmps3
    go_wp2
    go_ret
    exact ⟨rfl, (Below.refl _ _).alloc (Nat.le_refl _) _⟩
  · have hs := emod_same f k m l k0 (by omega) m0 (by omega)
    go_enter Try.func3, Try.ntmps3
    go_wp2
    go_quiet ((first | (go_at_call 13; exact Calls.quiet_of_same ((at_any _ _ (by omega) (by omega) (by omega) _).mono fun _ _ h => ⟨h.1, h.2.symm⟩)) | (go_at_call 14; exact Calls.quiet_of_same ((alive_true _).mono fun _ _ h => ⟨h.1, h.2.symm⟩))))
    go_wp2
    go_ret
    exact ⟨rfl, below_drewN ((Below.refl _ _).alloc (Nat.le_refl _) _) _⟩

theorem apart_main {H : Type} {enc : TypeId × Value → H} {base : Nat} (W : World) {v0 v1 : Value} {d0 d1 : DataW H} {p0 p1 : List MemPlace}
    (h0 : DataW.Trod enc Try.prog W 0 (fun _ => true) true 24 v0 d0 p0) (k0 : Value.okWide Try.prog W .any base 24 v0)
    (h1 : DataW.Trod enc Try.prog W 0 (fun _ => true) true 3 v1 d1 p1) (k1 : Value.okWide Try.prog W .any base 3 v1) :
    Calls Try.prog 3 #[v0, v1] W fun e W' => e = .returned (.bool true) ∧ Below W.heap.size W W' := by
  obtain ⟨c0, c1, c2, y0, y1, y2, n, rfl, _, _, g0, g1, g2⟩ := open_agg3 Try.underlying24 (by kernel_rfl) (by kernel_rfl) k0 h0
  obtain ⟨f, rfl, e0, e1⟩ := field_u64 g0
  obtain ⟨k, rfl, e2, e3⟩ := field_u64 g1
  obtain ⟨m, rfl, e4, e5⟩ := field_u64 g2
  obtain ⟨l, rfl, rfl, rfl, w1⟩ := open_int Try.underlying3 k1 h1
  exact apart_walk f k m l e0 e1 e2 e3 e4 e5 (i64_bounds w1).1 (i64_bounds w1).2 W

/-- What the loop has counted behind k rounds. -/
def cnt (a b l : Int) (k : Nat) : Int := if a ≤ b then (if b - a < l then min (k : Int) (l - (b - a)) else 0) else 0
theorem cnt_zero (a b l : Int) (h : 1 ≤ l) : cnt a b l 0 = 0 := by unfold cnt; split <;> (try split) <;> omega
theorem cnt_hit (a b l : Int) (k : Nat) (h : a ≤ b) (h1 : b - a < l - k) : cnt a b l (k + 1) = cnt a b l k + 1 := by unfold cnt; split <;> (try split) <;> omega
theorem cnt_miss (a b l : Int) (k : Nat) (h : ¬ a ≤ b ∨ l - k ≤ b - a) : cnt a b l (k + 1) = cnt a b l k := by unfold cnt; split <;> (try split) <;> omega
theorem cnt_bd (a b l : Int) (k : Nat) : 0 ≤ cnt a b l k ∧ cnt a b l k ≤ k := by unfold cnt; split <;> (try split) <;> omega

/-- ring.Room. -/
theorem room_any (a b l : Int) (a0 : 0 ≤ a) (a1 : a ≤ 18446744073709551615) (b0 : 0 ≤ b) (b1 : b ≤ 18446744073709551615) (l0 : 1 ≤ l) (l1 : l ≤ 4096) (w : World) :
    Calls Try.prog 18 #[.int .u64 a, .int .u64 b, .int .i64 l] w fun e w' => e = .returned (.int .i64 (cnt a b l l.toNat)) ∧ w = w' := by
  by_cases c1 : b < a
  · have e : cnt a b l l.toNat = 0 := by unfold cnt; split <;> (try split) <;> omega
    rw [e]
    go_enter Try.func18, Try.ntmps18
    go_wp2
    go_ret
    exact ⟨rfl, rfl⟩
  by_cases c2 : l ≤ b - a
  · have e : cnt a b l l.toNat = 0 := by unfold cnt; split <;> (try split) <;> omega
    rw [e]
    go_enter Try.func18, Try.ntmps18
    go_wp2
    go_ret
    exact ⟨rfl, rfl⟩
  · have e : cnt a b l l.toNat = l - (b - a) := by unfold cnt; split <;> (try split) <;> omega
    rw [e]
    go_enter Try.func18, Try.ntmps18
    go_wp2
    go_ret
    exact ⟨rfl, rfl⟩

/-- ring.Slot. -/
theorem slot_any (b : Int) (b0 : 0 ≤ b) (b1 : b ≤ 18446744073709551615) (w : World) :
    Calls Try.prog 19 #[.int .u64 b] w fun e w' => e = .returned (.int .i64 (b % 2)) ∧ w = w' := by
  go_enter Try.func19, Try.ntmps19
  go_wp2
  go_ret
  exact ⟨rfl, rfl⟩

set_option maxHeartbeats 1600000 in
theorem room_walk (a b l : Int) (a0 : 0 ≤ a) (a1 : a ≤ 18446744073709551615) (b0 : 0 ≤ b) (b1 : b ≤ 18446744073709551615) (l0 : -9223372036854775808 ≤ l) (l1 : l ≤ 9223372036854775807) (w : World) :
    Calls Try.prog 5 #[.int .u64 a, .int .u64 b, .int .i64 l] w fun e w' => e = .returned (.bool true) ∧ w = w' := by
  by_cases c1 : l < 1
  · go_enter Try.func5, Try.ntmps5
    go_wp2
    go_ret
    exact ⟨rfl, rfl⟩
  by_cases c2 : 4096 < l
  · go_enter Try.func5, Try.ntmps5
    go_wp2
    go_ret
    exact ⟨rfl, rfl⟩
  · go_enter Try.func5, Try.ntmps5
    go_wp2
    go_loop [7, 8] (fun t i => ∃ k : Nat, (k : Int) ≤ l ∧ i = .int .i64 k ∧ t = .int .i64 (cnt a b l k)) (fun _ i => (l - intOf i).toNat)
    case atStart => exact ⟨0, by omega, rfl, by rw [cnt_zero a b l (by omega)]⟩
    case round =>
      obtain ⟨k, hk, rfl, rfl⟩ := hrel
      have hb := cnt_bd a b l k
      by_cases hlt : (k : Int) < l
      · by_cases c3 : a ≤ b
        · by_cases c4 : b - a < l - k
          · have hh := cnt_hit a b l k c3 c4
            have HH := Lib.hid hh
            clear hh
            go_wp2
            go_round
            case rel => exact ⟨k + 1, by omega, by go_num, by rw [HH.out]⟩
            case measure => simp [intOf]; omega
          · have hh := cnt_miss a b l k (.inr (by omega))
            have HH := Lib.hid hh
            clear hh
            go_wp2
            go_round
            case rel => exact ⟨k + 1, by omega, by go_num, by rw [HH.out]⟩
            case measure => simp [intOf]; omega
        · have hh := cnt_miss a b l k (.inl c3)
          have HH := Lib.hid hh
          clear hh
          go_wp2
          go_round
          case rel => exact ⟨k + 1, by omega, by go_num, by rw [HH.out]⟩
          case measure => simp [intOf]; omega
      · obtain rfl : l = k := by omega
        go_wp2_with (first | (go_at_call 18; refine (room_any _ _ _ a0 a1 b0 b1 (by omega) (by omega) _).mono ?_; rintro e w' ⟨rfl, rfl⟩) | (go_at_call 19; refine (slot_any _ b0 b1 _).mono ?_; rintro e w' ⟨rfl, rfl⟩) | (go_at_call 14; refine (alive_true _).mono ?_; rintro e w' ⟨rfl, rfl⟩))
        go_ret
        exact ⟨rfl, rfl⟩

theorem room_main {H : Type} {enc : TypeId × Value → H} {base : Nat} (W : World) {v0 v1 v2 : Value} {d0 d1 d2 : DataW H} {p0 p1 p2 : List MemPlace}
    (h0 : DataW.Trod enc Try.prog W 0 (fun _ => true) true 22 v0 d0 p0) (k0 : Value.okWide Try.prog W .any base 22 v0)
    (h1 : DataW.Trod enc Try.prog W 0 (fun _ => true) true 22 v1 d1 p1) (k1 : Value.okWide Try.prog W .any base 22 v1)
    (h2 : DataW.Trod enc Try.prog W 0 (fun _ => true) true 3 v2 d2 p2) (k2 : Value.okWide Try.prog W .any base 3 v2) :
    Calls Try.prog 5 #[v0, v1, v2] W fun e W' => e = .returned (.bool true) ∧ Below W.heap.size W W' := by
  obtain ⟨a0, rfl, rfl, rfl, w0⟩ := open_int Try.underlying22 k0 h0
  obtain ⟨a1, rfl, rfl, rfl, w1⟩ := open_int Try.underlying22 k1 h1
  obtain ⟨a2, rfl, rfl, rfl, w2⟩ := open_int Try.underlying3 k2 h2
  exact (room_walk a0 a1 a2 (u64_bounds w0).1 (u64_bounds w0).2 (u64_bounds w1).1 (u64_bounds w1).2 (i64_bounds w2).1 (i64_bounds w2).2 W).mono fun _ _ ⟨he, hw⟩ => ⟨he, hw ▸ Below.refl _ _⟩
end Go.Proofs.Ytigebiknlodghaa.ring
