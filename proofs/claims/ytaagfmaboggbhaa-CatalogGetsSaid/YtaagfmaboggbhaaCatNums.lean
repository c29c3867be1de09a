/-
  Numbers that rise, in plain Lean and in the code: catalog.rising, catalog.members, the document's rises, small.
-/
import Derived.Test.YtaagfmaboggbhaaMake
import Derived.Test.YtaagfmaboggbhaaBytes
import Derived.Deep.QuietTactic
import Derived.BigQuiet
import Derived.WalkLawsBesides
import Derived.Outline
namespace Go.Proofs.Ytaagfmaboggbhaa.cat
open Go.RowKit
set_option linter.unusedVariables false

/-- Numbers as cells. -/
def nums (l : List Int) : List Value := l.map (Value.int .i64)
theorem nums_len (l : List Int) : (nums l).length = l.length := by simp [nums]
theorem Seg.num {w : World} {B n : Nat} {A : Option Addr} {l : List Int} (h : Seg w B A n (nums l)) {k : Nat} (hk : k < n) :
    ∃ b off, ∃ hl : k < l.length, A = some ⟨b, off, none⟩ ∧ b < B ∧ w.cell? ⟨b, off + k, none⟩ = some (.int .i64 (l[k]'hl)) ∧ (0 < k → w.cell? ⟨b, off + (k - 1), none⟩ = some (.int .i64 (l[k - 1]'(by omega)))) := by
  obtain ⟨b, off, e, hb, hc⟩ := h.2 (by omega)
  have hl : k < l.length := by have := h.1; rw [nums_len] at this; omega
  refine ⟨b, off, hl, e, hb, hc k _ ?_, fun h0 => hc (k - 1) _ ?_⟩
  · rw [nums, List.getElem?_map, List.getElem?_eq_getElem hl]; rfl
  · rw [nums, List.getElem?_map, List.getElem?_eq_getElem (by omega)]; rfl
/-- A truth is told. -/
def Says (e : Ending) (p : Prop) : Prop := ∃ b, e = .returned (.bool b) ∧ (b = true ↔ p)
theorem says_yes {p : Prop} (h : p) : Says (.returned (.bool true)) p := ⟨true, rfl, fun _ => h, fun _ => rfl⟩
theorem says_no {p : Prop} (h : ¬ p) : Says (.returned (.bool false)) p := ⟨false, rfl, fun e => (by cases e), fun e => absurd e h⟩
theorem says_iff {p : Prop} {b : Bool} (h : b = true ↔ p) : Says (.returned (.bool b)) p := ⟨b, rfl, h⟩
/-- One of the numbers is right beside the one ahead of it. -/
def RiseAt (l : List Int) (most : Int) (k : Nat) : Prop := ∀ h : k < l.length, 1 ≤ l[k] ∧ l[k] ≤ most ∧ (0 < k → l[k - 1] < l[k])
/-- Numbers rise, from 1 on, up to one at most. -/
def Rise (l : List Int) (most : Int) : Prop := ∀ k, RiseAt l most k

set_option maxHeartbeats 1600000 in
theorem rising_any {w : World} {A : Option Addr} {B n c : Nat} {l : List Int} (h : Seg w B A n (nums l)) (most : Int) (hn : n ≤ 100000) :
    Calls Try.prog 89 #[.slice A n c, .int .i64 most] w fun e w' => Says e (Rise l most) ∧ w = w' := by
  have HS := Lib.hid h
  have hlen : l.length = n := by have := h.1; rwa [nums_len] at this
  have HL := Lib.hid hlen
  clear h hlen
  go_enter Try.func89, Try.ntmps89
  go_wp2_with fail
  go_loop [9] (fun i => ∃ k : Nat, k ≤ n ∧ i = .int .i64 (k : Int) ∧ ∀ j, j < k → RiseAt l most j) (fun i => n - (intOf i).toNat)
  case atStart => exact ⟨0, by omega, rfl, fun j h => absurd h (Nat.not_lt_zero _)⟩
  case round =>
    obtain ⟨k, hk, rfl, hr⟩ := hrel
    have HR := Lib.hid hr
    clear hr
    by_cases hlt : k < n
    · obtain ⟨b, off, hkl, rfl, hb, hc, hp⟩ := Seg.num HS.out hlt
      have HA := Lib.hid (show RiseAt l most k ↔ (1 ≤ l[k] ∧ l[k] ≤ most ∧ (0 < k → l[k - 1] < l[k])) from ⟨fun h => h hkl, fun h _ => h⟩)
      have HNO := Lib.hid (show ¬ RiseAt l most k → Says (.returned (.bool false)) (Rise l most) from fun h => says_no (fun e => h (e k)))
      have HYES := Lib.hid (show RiseAt l most k → ∀ j, j < k + 1 → RiseAt l most j from fun h j hj => by
        by_cases e : j = k
        · subst e; exact h
        · exact HR.out j (by omega))
      by_cases k0 : k = 0
      · clear hp
        have t0 : decide ((0 : Int) < (k : Int)) = false := decide_eq_false (by omega)
        have t00 : decide (0 < k) = false := decide_eq_false (by omega)
        have HK0 := Lib.hid k0
        clear k0
        generalize l[k] = x at *
        by_cases c1 : x < 1
        · go_wp2_with fail
          go_ret
          exact ⟨HNO.out (fun h => by have := (HA.out.1 h).1; omega), rfl⟩
        · by_cases c2 : most < x
          · go_wp2_with fail
            go_ret
            exact ⟨HNO.out (fun h => by have := (HA.out.1 h).2.1; omega), rfl⟩
          · go_wp2_with fail
            go_round
            case rel => exact ⟨k + 1, by omega, by go_num, HYES.out (HA.out.2 ⟨by omega, by omega, fun h => by have := HK0.out; omega⟩)⟩
            case measure => simp [intOf]; omega
      · have hp := hp (by omega)
        have i0 : (0 : Int) ≤ (k : Int) - 1 := by omega
        have i1 : (k : Int) - 1 < (n : Int) := by omega
        have i2 : ((k : Int) - 1).toNat = k - 1 := by omega
        have i3 : IntKind.i64.wrap ((k : Int) - 1) = (k : Int) - 1 := IntWalk.i64_in _ (by omega)
        generalize l[k] = x at *
        generalize l[k - 1] = y at *
        by_cases c1 : x < 1
        · go_wp2_with fail
          go_ret
          exact ⟨HNO.out (fun h => by have := (HA.out.1 h).1; omega), rfl⟩
        · by_cases c2 : most < x
          · go_wp2_with fail
            go_ret
            exact ⟨HNO.out (fun h => by have := (HA.out.1 h).2.1; omega), rfl⟩
          · by_cases c3 : x ≤ y
            · go_wp2_with fail
              go_ret
              exact ⟨HNO.out (fun h => by have := (HA.out.1 h).2.2 (by omega); omega), rfl⟩
            · go_wp2_with fail
              go_round
              case rel => exact ⟨k + 1, by omega, by go_num, HYES.out (HA.out.2 ⟨by omega, by omega, fun h => by omega⟩)⟩
              case measure => simp [intOf]; omega
    · obtain rfl : k = n := by omega
      go_wp2_with fail
      go_ret
      exact ⟨says_yes (fun j hj => HR.out j (by rw [HL.out] at hj; exact hj) hj), rfl⟩

set_option maxHeartbeats 800000 in
theorem members_any {w : World} {A : Option Addr} {B n c : Nat} {l : List Int} (h : Seg w B A n (nums l)) (hn : n ≤ 100000) :
    Calls Try.prog 90 #[.slice A n c] w fun e w' => Says e (1 ≤ l.length ∧ l.length ≤ 8 ∧ Rise l 65535) ∧ w = w' := by
  have hlen : l.length = n := by have := h.1; rwa [nums_len] at this
  have HC := Lib.hid (rising_any (c := c) h 65535 hn)
  rw [hlen]
  clear h hlen
  by_cases c1 : 1 ≤ n
  · by_cases c2 : n ≤ 8
    · have t1 : decide ((1 : Int) ≤ (n : Int)) = true := decide_eq_true (by omega)
      have t2 : decide ((n : Int) ≤ 8) = true := decide_eq_true (by omega)
      go_enter Try.func90, Try.ntmps90
      go_wp2_with fail
      refine (HC.out).mono ?_
      rintro e w1 ⟨hs, rfl⟩
      obtain ⟨b, rfl, hb⟩ := hs
      have HB := Lib.hid hb
      clear hb
      go_wp2_with fail
      go_ret
      exact ⟨says_iff (by rw [HB.out]; exact ⟨fun h => ⟨c1, c2, h⟩, fun h => h.2.2⟩), rfl⟩
    · have t1 : decide ((1 : Int) ≤ (n : Int)) = true := decide_eq_true (by omega)
      have t2 : decide ((n : Int) ≤ 8) = false := decide_eq_false (by omega)
      go_enter Try.func90, Try.ntmps90
      go_wp2_with fail
      go_ret
      exact ⟨says_no (fun e => c2 e.2.1), rfl⟩
  · obtain rfl : n = 0 := by omega
    go_enter Try.func90, Try.ntmps90
    go_wp2_with fail
    go_ret
    exact ⟨says_no (fun e => c1 e.1), rfl⟩

set_option maxHeartbeats 1600000 in
/-- The document's rises. -/
theorem rises_any {w : World} {A : Option Addr} {B n c : Nat} {l : List Int} (h : Seg w B A n (nums l)) (most : Int) (many : Int) (hn : n ≤ 100000) :
    Calls Try.prog 62 #[.slice A n c, .int .i64 most, .int .i64 many] w fun e w' => Says e (Rise l most ∧ (l.length : Int) ≤ many) ∧ w = w' := by
  have HS := Lib.hid h
  have hlen : l.length = n := by have := h.1; rwa [nums_len] at this
  have HL := Lib.hid hlen
  clear h hlen
  go_enter Try.func62, Try.ntmps62
  go_wp2_with fail
  go_loop [7, 8] (fun lv i => ∃ k : Nat, ∃ y : Int, k ≤ n ∧ i = .int .i64 (k : Int) ∧ lv = .int .i64 y ∧ (k = 0 → y = 0) ∧ (∀ h : 0 < k ∧ k ≤ l.length, y = l[k - 1]) ∧ (0 < k → 1 ≤ y) ∧ ∀ j, j < k → RiseAt l most j) (fun _ i => n - (intOf i).toNat)
  case atStart => exact ⟨0, 0, by omega, rfl, rfl, fun _ => rfl, fun h => absurd h.1 (Nat.lt_irrefl 0), fun h => absurd h (Nat.lt_irrefl 0), fun j h => absurd h (Nat.not_lt_zero _)⟩
  case round =>
    obtain ⟨k, y, hk, rfl, rfl, hy0, hy, hy1, hr⟩ := hrel
    have HR := Lib.hid hr
    have HY0 := Lib.hid hy0
    have HY := Lib.hid hy
    have HY1 := Lib.hid hy1
    clear hr hy0 hy hy1
    by_cases hlt : k < n
    · obtain ⟨b, off, hkl, rfl, hb, hc, _⟩ := Seg.num HS.out hlt
      have HA := Lib.hid (show RiseAt l most k ↔ (y < l[k] ∧ l[k] ≤ most) from ⟨fun h => by
        have h1 := h hkl
        refine ⟨?_, h1.2.1⟩
        by_cases k0 : k = 0
        · rw [HY0.out k0]; omega
        · rw [HY.out ⟨by omega, by omega⟩]; exact h1.2.2 (by omega), fun h _ => by
        by_cases k0 : k = 0
        · have := HY0.out k0
          exact ⟨by omega, h.2, fun h0 => absurd h0 (by omega)⟩
        · have := HY1.out (by omega)
          exact ⟨by omega, h.2, fun h0 => by rw [← HY.out ⟨h0, by omega⟩]; exact h.1⟩⟩)
      have HNO := Lib.hid (show ¬ RiseAt l most k → Says (.returned (.bool false)) (Rise l most ∧ (l.length : Int) ≤ many) from fun h => says_no (fun e => h (e.1 k)))
      have HYES := Lib.hid (show RiseAt l most k → ∀ j, j < k + 1 → RiseAt l most j from fun h j hj => by
        by_cases e : j = k
        · subst e; exact h
        · exact HR.out j (by omega))
      have HZ := Lib.hid (show y < l[k] → 1 ≤ l[k] from fun h => by
        by_cases k0 : k = 0
        · have := HY0.out k0; omega
        · have := HY1.out (by omega); omega)
      have HX := Lib.hid (rfl : l[k] = l[k])
      have HNEXT := Lib.hid (show ∀ h : 0 < k + 1 ∧ k + 1 ≤ l.length, l[k] = l[k + 1 - 1] from fun _ => rfl)
      generalize hx : l[k] = x at *
      clear hx HX
      by_cases c1 : x ≤ y
      · go_wp2_with fail
        go_ret
        exact ⟨HNO.out (fun h => by have := (HA.out.1 h).1; omega), rfl⟩
      · by_cases c2 : most < x
        · go_wp2_with fail
          go_ret
          exact ⟨HNO.out (fun h => by have := (HA.out.1 h).2; omega), rfl⟩
        · go_wp2_with fail
          go_round
          case rel => exact ⟨k + 1, x, by omega, by go_num, rfl, fun h => by omega, HNEXT.out, fun _ => HZ.out (by omega), HYES.out (HA.out.2 ⟨by omega, by omega⟩)⟩
          case measure => simp [intOf]; omega
    · obtain rfl : k = n := by omega
      have HALL := Lib.hid (show Rise l most from fun j hj => HR.out j (by rw [HL.out] at hj; exact hj) hj)
      by_cases c1 : (k : Int) ≤ many
      · go_wp2_with fail
        go_ret
        exact ⟨says_iff (by rw [HL.out]; simp [HALL.out, c1]), rfl⟩
      · go_wp2_with fail
        go_ret
        exact ⟨says_iff (by rw [HL.out]; simp [HALL.out, c1]), rfl⟩

theorem small_any (q : Int) (w : World) :
    Calls Try.prog 59 #[.int .i64 q] w fun e w' => Says e (0 ≤ q ∧ q ≤ 65535) ∧ w = w' := by
  by_cases c1 : 0 ≤ q
  · go_enter Try.func59, Try.ntmps59
    go_wp2
    go_ret
    exact ⟨says_iff (by simp; omega), rfl⟩
  · have t1 : decide (0 ≤ q) = false := decide_eq_false c1
    go_enter Try.func59, Try.ntmps59
    go_wp2
    go_ret
    exact ⟨says_iff (by simp; omega), rfl⟩
end Go.Proofs.Ytaagfmaboggbhaa.cat
