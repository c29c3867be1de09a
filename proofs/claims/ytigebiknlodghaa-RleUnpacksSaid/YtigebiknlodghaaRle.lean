/-
  The walks of package rle's functions, each by the plain words of the text RlePlain.
-/
import Derived.Test.YtigebiknlodghaaRlePlain
import Derived.Test.YtigebiknlodghaaBytes
import Derived.Test.YtigebiknlodghaaMake
import Derived.WalkLawsBesides
import Derived.Deep.QuietTactic
import Derived.BigQuiet
namespace Go.Proofs.Ytigebiknlodghaa.rle
open Go.RowKit
set_option linter.unusedVariables false

/-- A slice of the call's own, below which all is as it was. -/
def OwnRes (w : World) (l : List Nat) (e : Ending) (w' : World) : Prop :=
  ∃ A c, e = .returned (.slice A l.length c) ∧ Own w' w.heap.size 5 A l.length c (bts l) ∧ Below w.heap.size w w'

theorem drop_at {l : List Nat} {k : Nat} (h : k < l.length) : l.drop k = l[k] :: l.drop (k + 1) := List.drop_eq_getElem_cons h

set_option maxRecDepth 100000 in
set_option maxHeartbeats 400000 in
/-- zeros. -/
theorem zeros_any {B n : Nat} {A : Option Addr} (c : Nat) {l : List Nat} {w : World} (h : Seg w B A n (bts l)) (k : Nat) (hk : k ≤ n) (hn : n ≤ 1000000) :
    Calls Try.prog 50 #[.slice A n c, .int .i64 (k : Int)] w fun e w' => e = .returned (.int .i64 ((zc 128 (l.drop k) : Nat) : Int)) ∧ w = w' := by
  have hlen : l.length = n := by rw [← bts_len]; exact h.1
  have HL := Lib.hid hlen
  clear hlen
  go_enter Try.func50, Try.ntmps50
  go_wp2
  go_loop [5] (fun t => ∃ j : Nat, j ≤ 128 ∧ k + j ≤ n ∧ t = .int .i64 j ∧ zc 128 (l.drop k) = j + zc (128 - j) (l.drop (k + j))) (fun t => 128 - (intOf t).toNat)
  case atStart => exact ⟨0, by omega, by omega, rfl, by simp⟩
  case round =>
    obtain ⟨j, hj, hkj, rfl, hz⟩ := hrel
    have HZ := Lib.hid hz
    clear hz
    by_cases c1 : k + j < n
    · obtain ⟨b, off, hlk, rfl, hbB, hcell⟩ := h.byte c1
      have hd := drop_at hlk
      have HD := Lib.hid hd
      clear hd
      generalize l[k + j] = x at *
      by_cases c2 : x = 0
      · subst c2
        by_cases c3 : j < 128
        · have hz' : zc 128 (l.drop k) = (j + 1) + zc (128 - (j + 1)) (l.drop (k + (j + 1))) := by
            rw [HZ.out, HD.out, show 128 - j = (128 - (j + 1)) + 1 from by omega, zc_hit, show k + (j + 1) = k + j + 1 from by omega]; omega
          have HZ' := Lib.hid hz'
          clear hz'
          go_wp2
          go_round
          case rel => exact ⟨j + 1, by omega, by omega, by go_num, HZ'.out⟩
          case measure => simp [intOf]; omega
        · have hz' : zc 128 (l.drop k) = j := by rw [HZ.out, show 128 - j = 0 from by omega, zc_zero]; omega
          have HZ' := Lib.hid hz'
          clear hz'
          go_wp2
          go_ret
          exact ⟨by rw [HZ'.out]; rfl, rfl⟩
      · have t1 : ((x : Int) == 0) = false := by rw [beq_eq_false_iff_ne]; omega
        have hz' : zc 128 (l.drop k) = j := by rw [HZ.out, HD.out, zc_miss _ _ _ c2]; omega
        have HZ' := Lib.hid hz'
        clear hz'
        go_wp2
        go_ret
        exact ⟨by rw [HZ'.out]; rfl, rfl⟩
    · have hz' : zc 128 (l.drop k) = j := by rw [HZ.out, List.drop_of_length_le (by rw [HL.out]; omega), zc_nil]; omega
      have HZ' := Lib.hid hz'
      clear hz'
      go_wp2
      go_ret
      exact ⟨by rw [HZ'.out]; rfl, rfl⟩

theorem zeros_sum {B n : Nat} {A : Option Addr} (c : Nat) {l : List Nat} {w : World} (h : Seg w B A n (bts l)) (k j : Nat) (hk : k + j ≤ n) (hn : n ≤ 1000000) :
    Calls Try.prog 50 #[.slice A n c, .int .i64 ((k : Int) + (j : Int))] w fun e w' => e = .returned (.int .i64 ((zc 128 (l.drop (k + j)) : Nat) : Int)) ∧ w = w' := by
  have := zeros_any c h (k + j) hk hn
  rw [Int.natCast_add] at this
  exact this

theorem pc_hit (f : Nat) (l : List Nat) (k : Nat) (hk : k < l.length) (h : two (l.drop k) = false) : pc (f + 1) (l.drop k) = pc f (l.drop (k + 1)) + 1 := by
  rw [drop_at hk] at h ⊢
  rw [pc_cons, h]; rfl
theorem pc_two (f : Nat) (l : List Nat) (h : two l = true) : pc f l = 0 := by
  cases f with
  | zero => rfl
  | succ f => cases l with
    | nil => rfl
    | cons c r => rw [pc_cons, if_pos h]
theorem pc_nil (f : Nat) : pc f [] = 0 := by cases f <;> rfl
theorem two_at (l : List Nat) (k : Nat) (hk : k < l.length) (h : l[k] ≠ 0) : two (l.drop k) = false := by
  rw [drop_at hk]
  generalize l[k] = x at *
  cases x with
  | zero => exact absurd rfl h
  | succ x => rfl

set_option maxRecDepth 100000 in
set_option maxHeartbeats 400000 in
/-- plain. -/
theorem plain_any {B n : Nat} {A : Option Addr} (c : Nat) {l : List Nat} {w : World} (h : Seg w B A n (bts l)) (k : Nat) (hk : k ≤ n) (hn : n ≤ 1000000) :
    Calls Try.prog 51 #[.slice A n c, .int .i64 (k : Int)] w fun e w' => e = .returned (.int .i64 ((pc 128 (l.drop k) : Nat) : Int)) ∧ w = w' := by
  have hlen : l.length = n := by rw [← bts_len]; exact h.1
  have HL := Lib.hid hlen
  clear hlen
  have HH := Lib.hid h
  go_enter Try.func51, Try.ntmps51
  go_wp2
  go_loop [5] (fun t => ∃ j : Nat, j ≤ 128 ∧ k + j ≤ n ∧ t = .int .i64 j ∧ pc 128 (l.drop k) = j + pc (128 - j) (l.drop (k + j))) (fun t => 128 - (intOf t).toNat)
  case atStart => exact ⟨0, by omega, by omega, rfl, by simp⟩
  case round =>
    obtain ⟨j, hj, hkj, rfl, hz⟩ := hrel
    have HZ := Lib.hid hz
    clear hz
    by_cases c1 : k + j < n
    · obtain ⟨b, off, hlk, rfl, hbB, hcell⟩ := h.byte c1
      by_cases c3 : j < 128
      · by_cases ct : two (l.drop (k + j)) = true
        · have hx : l[k + j] = 0 := by
            by_cases hx : l[k + j] = 0
            · exact hx
            · rw [two_at l (k + j) hlk hx] at ct; cases ct
          rw [hx] at hcell
          have hz' : pc 128 (l.drop k) = j := by rw [HZ.out, pc_two _ _ ct]; omega
          have hzz : 2 ≤ zc 128 (l.drop (k + j)) := (zc_two 128 _ (by omega)).2 ct
          have HZ' := Lib.hid hz'
          have HC := Lib.hid (zeros_sum (w := w) c HH.out k j (by omega) hn)
          clear hz' hx ct
          generalize zc 128 (l.drop (k + j)) = q at *
          have t2 : decide ((2 : Int) ≤ (q : Int)) = true := by simp; omega
          go_wp2_with (go_at_call 50; refine (HC.out).mono ?_; rintro e w' ⟨rfl, rfl⟩)
          go_ret
          exact ⟨by rw [HZ'.out]; rfl, rfl⟩
        · have ct : two (l.drop (k + j)) = false := by simpa using ct
          have hz' : pc 128 (l.drop k) = (j + 1) + pc (128 - (j + 1)) (l.drop (k + (j + 1))) := by
            rw [HZ.out, show 128 - j = (128 - (j + 1)) + 1 from by omega, pc_hit _ _ _ hlk ct, show k + (j + 1) = k + j + 1 from by omega]; omega
          have HZ' := Lib.hid hz'
          clear hz'
          by_cases hx : l[k + j] = 0
          · rw [hx] at hcell
            have hzz : ¬ 2 ≤ zc 128 (l.drop (k + j)) := fun hh => by rw [(zc_two 128 _ (by omega)).1 hh] at ct; cases ct
            have HC := Lib.hid (zeros_sum (w := w) c HH.out k j (by omega) hn)
            clear hx ct
            generalize zc 128 (l.drop (k + j)) = q at *
            have t2 : decide ((2 : Int) ≤ (q : Int)) = false := by simp; omega
            go_wp2_with (go_at_call 50; refine (HC.out).mono ?_; rintro e w' ⟨rfl, rfl⟩)
            go_round
            case rel => exact ⟨j + 1, by omega, by omega, by go_num, HZ'.out⟩
            case measure => simp [intOf]; omega
          · have t1 : (((l[k + j] : Nat) : Int) == 0) = false := by rw [beq_eq_false_iff_ne]; omega
            clear ct
            generalize l[k + j] = x at *
            go_wp2
            go_round
            case rel => exact ⟨j + 1, by omega, by omega, by go_num, HZ'.out⟩
            case measure => simp [intOf]; omega
      · have hz' : pc 128 (l.drop k) = j := by rw [HZ.out, show 128 - j = 0 from by omega]; unfold pc; omega
        have HZ' := Lib.hid hz'
        clear hz'
        go_wp2
        go_ret
        exact ⟨by rw [HZ'.out]; rfl, rfl⟩
    · have hz' : pc 128 (l.drop k) = j := by rw [HZ.out, List.drop_of_length_le (by rw [HL.out]; omega), pc_nil]; omega
      have HZ' := Lib.hid hz'
      clear hz'
      go_wp2
      go_ret
      exact ⟨by rw [HZ'.out]; rfl, rfl⟩
end Go.Proofs.Ytigebiknlodghaa.rle
