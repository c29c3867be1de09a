/-
  slices.Equal of what is the same: numbers, numbers without a sign, marks.
-/
import Derived.Test.YtaagfmaboggbhaaCatRef
namespace Go.Proofs.Ytaagfmaboggbhaa.cat
open Go.RowKit
set_option linter.unusedVariables false

/-- Only draws lie between. -/
def Dr (a b : World) : Prop := ∃ q, b = a.drewN q
theorem Dr.refl (a : World) : Dr a a := ⟨0, rfl⟩
theorem Dr.drewN {a b : World} (h : Dr a b) (n : Nat) : Dr a (b.drewN n) := by
  obtain ⟨q, rfl⟩ := h
  exact ⟨q + n, by simp⟩
theorem Dr.below {a b : World} (h : Dr a b) (B : Nat) : Below B a b := by
  obtain ⟨q, rfl⟩ := h
  exact Bdrew (Below.refl _ _) _
theorem Dr.cell {a b : World} (h : Dr a b) (p : Addr) : b.cell? p = a.cell? p := by
  obtain ⟨q, rfl⟩ := h
  rfl
theorem Dr.trans {a b c : World} (h : Dr a b) (k : Dr b c) : Dr a c := by
  obtain ⟨q, rfl⟩ := k
  exact h.drewN q

set_option maxHeartbeats 1600000 in
theorem eqi_true {w : World} {A A2 : Option Addr} {B B2 n c c2 : Nat} {l : List Int} (h : Seg w B A n (nums l)) (h2 : Seg w B2 A2 n (nums l)) (hn : n ≤ 100000) :
    Calls Try.prog 54 #[.slice A n c, .slice A2 n c2] w fun e w' => e = .returned (.bool true) ∧ ∃ m, w' = w.drewN m := by
  have HS := Lib.hid h
  have HM := Lib.hid h2
  clear h h2
  go_enter Try.func54, Try.ntmps54
  go_wp2_with fail
  go_loopw [13] (fun i wr => ∃ k : Nat, k ≤ n ∧ i = .int .i64 (k : Int) ∧ Dr w wr) (fun i _ => n - (intOf i).toNat)
  case atStart => exact ⟨0, by omega, rfl, Dr.refl _⟩
  case round =>
    obtain ⟨k, hk, rfl, hd⟩ := hrel
    have HD := Lib.hid hd
    clear hd
    by_cases hlt : k < n
    · obtain ⟨b, off, hkl, rfl, _, hc, _⟩ := Seg.num (HS.out.below (HD.out.below _)) hlt
      obtain ⟨b', off', _, rfl, _, hc', _⟩ := Seg.num (HM.out.below (HD.out.below _)) hlt
      generalize l[k] = x at *
      have s1 : ((x : Int) == (x : Int)) = true := by simp
      have s2 : ((x : Int) != (x : Int)) = false := by simp
      have b0 : (0 : Int) ≤ (k : Int) := by omega
      have b1 : (k : Int) < (n : Int) := by omega
      have b2 : ((k : Int)).toNat = k := by omega
      go_wp2_with fail
      go_quiet (fail)
      go_wp2_with fail
      go_roundw
      case rel => exact ⟨k + 1, by omega, by go_num, HD.out.drewN _⟩
      case measure => simp [intOf]; omega
    · obtain ⟨q, rfl⟩ := HD.out
      go_wp2_with fail
      go_ret
      exact ⟨rfl, q, rfl⟩

set_option maxHeartbeats 1600000 in
theorem equ_true {w : World} {A A2 : Option Addr} {B B2 n c c2 : Nat} {l : List Nat} (h : Seg w B A n (us l)) (h2 : Seg w B2 A2 n (us l)) (hn : n ≤ 100000) :
    Calls Try.prog 81 #[.slice A n c, .slice A2 n c2] w fun e w' => e = .returned (.bool true) ∧ ∃ m, w' = w.drewN m := by
  have HS := Lib.hid h
  have HM := Lib.hid h2
  clear h h2
  go_enter Try.func81, Try.ntmps81
  go_wp2_with fail
  go_loopw [13] (fun i wr => ∃ k : Nat, k ≤ n ∧ i = .int .i64 (k : Int) ∧ Dr w wr) (fun i _ => n - (intOf i).toNat)
  case atStart => exact ⟨0, by omega, rfl, Dr.refl _⟩
  case round =>
    obtain ⟨k, hk, rfl, hd⟩ := hrel
    have HD := Lib.hid hd
    clear hd
    by_cases hlt : k < n
    · obtain ⟨b, off, hkl, rfl, _, hc, _⟩ := Seg.us (HS.out.below (HD.out.below _)) hlt
      obtain ⟨b', off', _, rfl, _, hc', _⟩ := Seg.us (HM.out.below (HD.out.below _)) hlt
      generalize l[k] = x at *
      have s1 : ((x : Int) == (x : Int)) = true := by simp
      have s2 : ((x : Int) != (x : Int)) = false := by simp
      have b0 : (0 : Int) ≤ (k : Int) := by omega
      have b1 : (k : Int) < (n : Int) := by omega
      have b2 : ((k : Int)).toNat = k := by omega
      go_wp2_with fail
      go_quiet (fail)
      go_wp2_with fail
      go_roundw
      case rel => exact ⟨k + 1, by omega, by go_num, HD.out.drewN _⟩
      case measure => simp [intOf]; omega
    · obtain ⟨q, rfl⟩ := HD.out
      go_wp2_with fail
      go_ret
      exact ⟨rfl, q, rfl⟩

set_option maxRecDepth 100000 in
set_option maxHeartbeats 3200000 in
theorem eqm_true {w : World} {A A2 : Option Addr} {B B2 n c c2 : Nat} {M : List (Nat × Nat)} (h : MkSeg w B A n M) (h2 : MkSeg w B2 A2 n M) (hn : n ≤ 100000) :
    Calls Try.prog 82 #[.slice A n c, .slice A2 n c2] w fun e w' => e = .returned (.bool true) ∧ ∃ m, w' = w.drewN m := by
  have HS := Lib.hid h
  have HM := Lib.hid h2
  clear h h2
  go_enter Try.func82, Try.ntmps82
  go_wp2_with fail
  go_loopw [13] (fun i wr => ∃ k : Nat, k ≤ n ∧ i = .int .i64 (k : Int) ∧ Dr w wr) (fun i _ => n - (intOf i).toNat)
  case atStart => exact ⟨0, by omega, rfl, Dr.refl _⟩
  case round =>
    obtain ⟨k, hk, rfl, hd⟩ := hrel
    have HD := Lib.hid hd
    clear hd
    by_cases hlt : k < n
    · obtain ⟨b, off, hkl, rfl, _, hc, hd, _⟩ := (HS.out.below (HD.out.below _)).at_ hlt
      obtain ⟨b', off', _, rfl, _, hc', hd', _⟩ := (HM.out.below (HD.out.below _)).at_ hlt
      generalize M[k].1 = x at *
      generalize M[k].2 = y at *
      have s1 : ((x : Int) == (x : Int)) = true := by simp
      have s2 : ((x : Int) != (x : Int)) = false := by simp
      have s3 : ((y : Int) == (y : Int)) = true := by simp
      have s4 : ((y : Int) != (y : Int)) = false := by simp
      have b0 : (0 : Int) ≤ (k : Int) := by omega
      have b1 : (k : Int) < (n : Int) := by omega
      have b2 : ((k : Int)).toNat = k := by omega
      go_wp2_with fail
      go_quiet (fail)
      go_wp2_with fail
      go_roundw
      case rel => exact ⟨k + 1, by omega, by go_num, HD.out.drewN _⟩
      case measure => simp [intOf]; omega
    · obtain ⟨q, rfl⟩ := HD.out
      go_wp2_with fail
      go_ret
      exact ⟨rfl, q, rfl⟩
end Go.Proofs.Ytaagfmaboggbhaa.cat
