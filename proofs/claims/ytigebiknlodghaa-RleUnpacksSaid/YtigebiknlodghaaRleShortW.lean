/-
  The walk of the law RleShort.
-/
import Derived.Test.YtigebiknlodghaaRlePack
namespace Go.Proofs.Ytigebiknlodghaa.rle
open Go.RowKit Go.ChangeShapes Go.WideShapes
set_option linter.unusedVariables false

theorem pk_example : pk [1, 0, 0, 0] = [0, 1, 130] := by decide +kernel

set_option maxHeartbeats 400000 in
/-- The chapter's example. -/
theorem alive_true (w : World) : Calls Try.prog 27 #[] w fun e w' => e = .returned (.bool true) ∧ Below w.heap.size w w' := by
  have q1 := Seg.lit (w := w) [1, 0, 0, 0] (cs := #[.int .u8 1, .int .u8 0, .int .u8 0, .int .u8 0]) rfl 5
  have HC := Lib.hid (pack_any 4 q1 (by simp) (Nat.le_refl 4) (by simp))
  have HE := Lib.hid pk_example
  clear q1
  go_enter Try.func27, Try.ntmps27
  go_wp2_with fail
  refine (HC.out).mono ?_
  rintro e w1 ⟨A, c, rfl, hown, hb⟩
  rw [HE.out] at hown ⊢
  have HO := Lib.hid hown
  have HB := Lib.hid (nextB ((Below.refl w.heap.size w).alloc (Nat.le_refl _) _) (Nat.le_refl _) hb)
  clear hown hb
  go_wp2_with fail
  refine (equal_any c 3 ((HO.out.alloc _).seg) (Seg.lit [0, 1, 130] rfl 5) (by unfold IsB; decide) (by unfold IsB; decide)).mono ?_
  rintro e w2 ⟨rfl, rfl⟩
  go_wp2_with fail
  go_ret
  exact ⟨rfl, HB.out.alloc HB.out.size _⟩

set_option maxHeartbeats 1600000 in
theorem short_walk (A : Option Addr) (n c : Nat) (l : List Nat) (q : Int) (w : World) (h : Seg w w.heap.size A n (bts l)) (hl : IsB l) (hnc : n ≤ c) (hc : c ≤ maxLen)
    (a0 : -9223372036854775808 ≤ q) (a1 : q ≤ 9223372036854775807) :
    Calls Try.prog 8 #[.slice A n c, .int .i64 q] w fun e w' => e = .returned (.bool true) ∧ Below w.heap.size w w' := by
  have hc' := hc
  unfold maxLen at hc'
  by_cases c1 : 600 < n
  · go_enter Try.func8, Try.ntmps8
    go_wp2
    go_ret
    exact ⟨rfl, Below.refl _ _⟩
  by_cases c2 : q < 2
  · go_enter Try.func8, Try.ntmps8
    go_wp2
    go_ret
    exact ⟨rfl, Below.refl _ _⟩
  by_cases c3 : 128 < q
  · go_enter Try.func8, Try.ntmps8
    go_wp2
    go_ret
    exact ⟨rfl, Below.refl _ _⟩
  obtain ⟨z, rfl⟩ := Int.eq_ofNat_of_zero_le (by omega : 0 ≤ q)
  have hlen : l.length = n := by rw [← bts_len]; exact h.1
  have hs := (pk_short l).1
  rw [hlen] at hs
  have HC := Lib.hid (pack_any c h (Nat.le_refl _) hnc (by omega))
  have hmk := fun W => run_mk elemB rfl z (by omega) (by omega) W
  have hrep := pk_rep z (by omega) (by omega)
  have HR := Lib.hid hrep
  clear hrep hlen
  generalize hpl : (pk l).length = pl at *
  have HPL := Lib.hid hpl
  clear hpl h
  have t1 : decide (600 < (n : Int)) = false := by simp; omega
  have t4 : decide ((pl : Int) ≤ (n : Int) + (n : Int) / 128 + 1) = true := by simp; omega
  go_enter Try.func8, Try.ntmps8
  go_wp2_with fail
  refine (HC.out).mono ?_
  rintro e w1 ⟨A1, c1, rfl, hown, hb⟩
  rw [HPL.out] at hown ⊢
  have HB := Lib.hid hb
  clear hown hb
  go_wp2_with fail
  have hmade := Seg.made w1 (.int .u8 0) z 5
  rw [← bts_rep] at hmade
  refine (pack_any z hmade (by simp) (Nat.le_refl z) (by omega)).mono ?_
  rintro e w2 ⟨A2, c2, rfl, hown, hb⟩
  rw [HR.out] at hown ⊢
  have HO := Lib.hid hown
  have HB2 := Lib.hid (nextB (HB.out.alloc HB.out.size _) (Nat.le_refl _) hb)
  clear hown hb hmade
  go_wp2_with fail
  refine (equal_any (m := 1) c2 1 ((HO.out.alloc _).seg) (k := [127 + z]) (by rw [show bts [127 + z] = [Value.int .u8 (127 + (z : Int))] from by simp [bts]]; exact Seg.one _ _ _) (by intro x hx; simp at hx; omega) (by intro x hx; simp at hx; omega)).mono ?_
  rintro e w3 ⟨rfl, rfl⟩
  go_wp2_with fail
  refine (alive_true _).mono ?_
  rintro e w4 ⟨rfl, hb4⟩
  go_wp2_with fail
  go_ret
  exact ⟨rfl, nextB (HB2.out.alloc HB2.out.size _) (Nat.le_refl _) hb4⟩

theorem short_main {H : Type} {enc : TypeId × Value → H} {base : Nat} (W : World) {v0 v1 : Value} {d0 d1 : DataW H} {p0 p1 : List MemPlace}
    (h0 : DataW.Trod enc Try.prog W 0 (fun _ => true) true 37 v0 d0 p0) (k0 : Value.okWide Try.prog W .any base 37 v0)
    (h1 : DataW.Trod enc Try.prog W 0 (fun _ => true) true 3 v1 d1 p1) (k1 : Value.okWide Try.prog W .any base 3 v1) :
    Calls Try.prog 8 #[v0, v1] W fun e W' => e = .returned (.bool true) ∧ Below W.heap.size W W' := by
  obtain ⟨A, n, c, l, rfl, hnc, hc, hl, hs⟩ := open_bytes h0 k0
  obtain ⟨a1, rfl, rfl, rfl, w1⟩ := open_int Try.underlying3 k1 h1
  exact short_walk A n c l a1 W hs hl hnc hc (i64_bd w1).1 (i64_bd w1).2
end Go.Proofs.Ytigebiknlodghaa.rle
