/-
  The walks of the bitmap's Free and Run and of the law's free.
-/
import Derived.Test.YtaagfmaboggbhaaBitFind
namespace Go.Proofs.Ytaagfmaboggbhaa.bit
open Go.RowKit
set_option linter.unusedVariables false

set_option maxHeartbeats 1600000 in
theorem free_any {w : World} {g r n : Nat} {l : List Nat} (h : IsMap w g r n l) (q : Int) (a1 : q ≤ 9223372036854775807) :
    Calls Try.prog 51 #[.pointer (some ⟨g, 0, none⟩), .int .i64 q] w fun e w' => (∃ r, IsFree (bitAt l) n q.toNat 1 r ∧ e = .returned (encF r)) ∧ w = w' := by
  have hmax := h.max
  have h1 : w.cell? ⟨g, 1, none⟩ = some (.int .i64 (n : Int)) := (h.box.cell 1).trans rfl
  have HM := Lib.hid h
  clear h
  rcases Int.lt_trichotomy q 0 with hq | hq | hq
  · rw [show q.toNat = 0 by omega]
    go_enter Try.func51, Try.ntmps51
    go_wp2_with fail
    go_loop [6] (fun iv => ∃ k : Nat, iv = .int .i64 (k : Int) ∧ 0 ≤ k ∧ ∀ s, 0 ≤ s → s < k → s < n → bitAt l s = true) (fun iv => n - (intOf iv).toNat)
    case atStart => exact ⟨0, rfl, Nat.le_refl _, fun s h1 h2 => absurd h2 (by omega)⟩
    case round =>
      obtain ⟨k, rfl, hlk, hk⟩ := hrel
      have HK := Lib.hid hk
      clear hk
      by_cases hlt : k < n
      · cases hb : bitAt l k with
        | true =>
          have HH := Lib.hid (has_in HM.out k hlt)
          rw [hb] at HH
          have HB := Lib.hid hb
          clear hb
          go_wp2_with (go_at_call 13; refine (HH.out).mono ?_; rintro e w' ⟨rfl, rfl⟩)
          go_round
          case rel => exact ⟨k + 1, by go_num, by omega, fun s h1 h2 h3 => by
            by_cases e : s = k
            · subst e; exact HB.out
            · exact HK.out s h1 (by omega) h3⟩
          case measure => simp [intOf]; omega
        | false =>
          have HH := Lib.hid (has_in HM.out k hlt)
          rw [hb] at HH
          have HB := Lib.hid hb
          clear hb
          go_wp2_with (go_at_call 13; refine (HH.out).mono ?_; rintro e w' ⟨rfl, rfl⟩)
          go_ret2
          exact ⟨⟨some k, ⟨hlk, by omega, clr_one.2 HB.out, fun s h1 h2 hc => by have h3 := clr_one.1 hc; rw [HK.out s h1 h2 (by omega)] at h3; cases h3⟩, rfl⟩, rfl⟩
      · go_wp2_with fail
        go_ret2
        exact ⟨⟨none, (fun s h1 h2 hc => by have h3 := clr_one.1 hc; rw [HK.out s h1 (by omega) (by omega)] at h3; cases h3), rfl⟩, rfl⟩
  · subst hq
    rw [show (0 : Int).toNat = 0 from rfl]
    go_enter Try.func51, Try.ntmps51
    go_wp2_with fail
    go_loop [6] (fun iv => ∃ k : Nat, iv = .int .i64 (k : Int) ∧ 0 ≤ k ∧ ∀ s, 0 ≤ s → s < k → s < n → bitAt l s = true) (fun iv => n - (intOf iv).toNat)
    case atStart => exact ⟨0, rfl, Nat.le_refl _, fun s h1 h2 => absurd h2 (by omega)⟩
    case round =>
      obtain ⟨k, rfl, hlk, hk⟩ := hrel
      have HK := Lib.hid hk
      clear hk
      by_cases hlt : k < n
      · cases hb : bitAt l k with
        | true =>
          have HH := Lib.hid (has_in HM.out k hlt)
          rw [hb] at HH
          have HB := Lib.hid hb
          clear hb
          go_wp2_with (go_at_call 13; refine (HH.out).mono ?_; rintro e w' ⟨rfl, rfl⟩)
          go_round
          case rel => exact ⟨k + 1, by go_num, by omega, fun s h1 h2 h3 => by
            by_cases e : s = k
            · subst e; exact HB.out
            · exact HK.out s h1 (by omega) h3⟩
          case measure => simp [intOf]; omega
        | false =>
          have HH := Lib.hid (has_in HM.out k hlt)
          rw [hb] at HH
          have HB := Lib.hid hb
          clear hb
          go_wp2_with (go_at_call 13; refine (HH.out).mono ?_; rintro e w' ⟨rfl, rfl⟩)
          go_ret2
          exact ⟨⟨some k, ⟨hlk, by omega, clr_one.2 HB.out, fun s h1 h2 hc => by have h3 := clr_one.1 hc; rw [HK.out s h1 h2 (by omega)] at h3; cases h3⟩, rfl⟩, rfl⟩
      · go_wp2_with fail
        go_ret2
        exact ⟨⟨none, (fun s h1 h2 hc => by have h3 := clr_one.1 hc; rw [HK.out s h1 (by omega) (by omega)] at h3; cases h3), rfl⟩, rfl⟩
  · obtain ⟨lo, rfl⟩ := Int.eq_ofNat_of_zero_le (by omega : 0 ≤ q)
    rw [Int.toNat_natCast]
    go_enter Try.func51, Try.ntmps51
    go_wp2_with fail
    go_loop [6] (fun iv => ∃ k : Nat, iv = .int .i64 (k : Int) ∧ lo ≤ k ∧ ∀ s, lo ≤ s → s < k → s < n → bitAt l s = true) (fun iv => n - (intOf iv).toNat)
    case atStart => exact ⟨lo, rfl, Nat.le_refl _, fun s h1 h2 => absurd h2 (by omega)⟩
    case round =>
      obtain ⟨k, rfl, hlk, hk⟩ := hrel
      have HK := Lib.hid hk
      clear hk
      by_cases hlt : k < n
      · cases hb : bitAt l k with
        | true =>
          have HH := Lib.hid (has_in HM.out k hlt)
          rw [hb] at HH
          have HB := Lib.hid hb
          clear hb
          go_wp2_with (go_at_call 13; refine (HH.out).mono ?_; rintro e w' ⟨rfl, rfl⟩)
          go_round
          case rel => exact ⟨k + 1, by go_num, by omega, fun s h1 h2 h3 => by
            by_cases e : s = k
            · subst e; exact HB.out
            · exact HK.out s h1 (by omega) h3⟩
          case measure => simp [intOf]; omega
        | false =>
          have HH := Lib.hid (has_in HM.out k hlt)
          rw [hb] at HH
          have HB := Lib.hid hb
          clear hb
          go_wp2_with (go_at_call 13; refine (HH.out).mono ?_; rintro e w' ⟨rfl, rfl⟩)
          go_ret2
          exact ⟨⟨some k, ⟨hlk, by omega, clr_one.2 HB.out, fun s h1 h2 hc => by have h3 := clr_one.1 hc; rw [HK.out s h1 h2 (by omega)] at h3; cases h3⟩, rfl⟩, rfl⟩
      · go_wp2_with fail
        go_ret2
        exact ⟨⟨none, (fun s h1 h2 hc => by have h3 := clr_one.1 hc; rw [HK.out s h1 (by omega) (by omega)] at h3; cases h3), rfl⟩, rfl⟩

set_option maxHeartbeats 1600000 in
theorem run_none {w : World} {g r n : Nat} {l : List Nat} (h : IsMap w g r n l) (q : Int) (hq : q < 1) :
    Calls Try.prog 53 #[.pointer (some ⟨g, 0, none⟩), .int .i64 q] w fun e w' => e = .returned (encF none) ∧ w = w' := by
  have hmax := h.max
  have h1 : w.cell? ⟨g, 1, none⟩ = some (.int .i64 (n : Int)) := (h.box.cell 1).trans rfl
  have HM := Lib.hid h
  clear h
  have t1 : decide ((1 : Int) ≤ q) = false := decide_eq_false (by omega)
  go_enter Try.func53, Try.ntmps53
  go_wp2_with fail
  go_loop [6, 12] (fun lv iv => ∃ k lg : Nat, k ≤ n ∧ lg ≤ k ∧ iv = .int .i64 (k : Int) ∧ lv = .int .i64 (lg : Int)) (fun _ iv => n - (intOf iv).toNat)
  case atStart => exact ⟨0, 0, by omega, by omega, rfl, rfl⟩
  case round =>
    obtain ⟨k, lg, hkn, hlg, rfl, rfl⟩ := hrel
    by_cases hlt : k < n
    · cases hb : bitAt l k with
      | true =>
        have HH := Lib.hid (has_in HM.out k hlt)
        rw [hb] at HH
        clear hb
        go_wp2_with (go_at_call 13; refine (HH.out).mono ?_; rintro e w' ⟨rfl, rfl⟩)
        go_round
        case rel => exact ⟨k + 1, 0, by omega, by omega, by go_num, rfl⟩
        case measure => simp [intOf]; omega
      | false =>
        have HH := Lib.hid (has_in HM.out k hlt)
        rw [hb] at HH
        clear hb
        go_wp2_with (go_at_call 13; refine (HH.out).mono ?_; rintro e w' ⟨rfl, rfl⟩)
        go_round
        case rel => exact ⟨k + 1, lg + 1, by omega, by omega, by go_num, by go_num⟩
        case measure => simp [intOf]; omega
    · go_wp2_with fail
      go_ret2
      exact ⟨rfl, rfl⟩

set_option maxHeartbeats 1600000 in
theorem run_some {w : World} {g r n : Nat} {l : List Nat} (h : IsMap w g r n l) (many : Nat) (hm : 0 < many) (hm2 : (many : Int) ≤ 9223372036854775807) :
    Calls Try.prog 53 #[.pointer (some ⟨g, 0, none⟩), .int .i64 (many : Int)] w fun e w' => (∃ r, IsFree (bitAt l) n 0 many r ∧ e = .returned (encF r)) ∧ w = w' := by
  have hmax := h.max
  have h1 : w.cell? ⟨g, 1, none⟩ = some (.int .i64 (n : Int)) := (h.box.cell 1).trans rfl
  have HM := Lib.hid h
  clear h
  have t1 : decide ((1 : Int) ≤ (many : Int)) = true := decide_eq_true (by omega)
  go_enter Try.func53, Try.ntmps53
  go_wp2_with fail
  go_loop [6, 12] (fun lv iv => ∃ k lg : Nat, k ≤ n ∧ iv = .int .i64 (k : Int) ∧ lv = .int .i64 (lg : Int) ∧ RunI (bitAt l) many k lg) (fun _ iv => n - (intOf iv).toNat)
  case atStart => exact ⟨0, 0, by omega, rfl, rfl, RunI.start _ hm⟩
  case round =>
    obtain ⟨k, lg, hkn, rfl, rfl, hI⟩ := hrel
    have HI := Lib.hid hI
    have hlg := hI.le
    have hlm := hI.lt hm
    clear hI
    by_cases hlt : k < n
    · cases hb : bitAt l k with
      | true =>
        have HH := Lib.hid (has_in HM.out k hlt)
        rw [hb] at HH
        have HB := Lib.hid hb
        clear hb
        go_wp2_with (go_at_call 13; refine (HH.out).mono ?_; rintro e w' ⟨rfl, rfl⟩)
        go_round
        case rel => exact ⟨k + 1, 0, by omega, by go_num, rfl, HI.out.taken hm HB.out⟩
        case measure => simp [intOf]; omega
      | false =>
        have HH := Lib.hid (has_in HM.out k hlt)
        rw [hb] at HH
        have HB := Lib.hid hb
        clear hb
        by_cases he : lg + 1 = many
        · have s1 : ((lg : Int) + 1 == (many : Int)) = true := by rw [beq_iff_eq]; omega
          have HF := Lib.hid (HI.out.found HB.out he hlt)
          obtain ⟨z, hz⟩ : ∃ z : Nat, z = k + 1 - many := ⟨_, rfl⟩
          have e1 : (k : Int) - (many : Int) + 1 = (z : Int) := by omega
          have HZ := Lib.hid hz
          clear he hz
          go_wp2_with (go_at_call 13; refine (HH.out).mono ?_; rintro e w' ⟨rfl, rfl⟩)
          go_ret2
          exact ⟨⟨some z, by rw [HZ.out]; exact HF.out, rfl⟩, rfl⟩
        · have s1 : ((lg : Int) + 1 == (many : Int)) = false := by rw [beq_eq_false_iff_ne]; omega
          have HF := Lib.hid (HI.out.more HB.out (by omega))
          go_wp2_with (go_at_call 13; refine (HH.out).mono ?_; rintro e w' ⟨rfl, rfl⟩)
          go_round
          case rel => exact ⟨k + 1, lg + 1, by omega, by go_num, by go_num, HF.out⟩
          case measure => simp [intOf]; omega
    · obtain rfl : k = n := by omega
      go_wp2_with fail
      go_ret2
      exact ⟨⟨none, HI.out.over, rfl⟩, rfl⟩
end Go.Proofs.Ytaagfmaboggbhaa.bit
