/-
  The walk of the law's free.
-/
import Derived.Test.YtaagfmaboggbhaaBitFindW
namespace Go.Proofs.Ytaagfmaboggbhaa.bit
open Go.RowKit
set_option linter.unusedVariables false

/-- Bools as cells. -/
def bls (L : List Bool) : List Value := L.map fun b => Value.bool b
theorem bls_len (L : List Bool) : (bls L).length = L.length := by simp [bls]
theorem Seg.bool {w : World} {B b off n : Nat} {L : List Bool} (h : Seg w B (some ⟨b, off, none⟩) n (bls L)) {k : Nat} (hk : k < n) : ∃ hl : k < L.length, w.cell? ⟨b, off + k, none⟩ = some (.bool (L[k]'hl)) := by
  obtain ⟨b', off', u, e, _, hx, hc⟩ := h.at_ hk
  injection e with e
  injection e with e1 e2
  subst e1 e2
  have hl : k < L.length := by have := h.1; rw [bls_len] at this; omega
  refine ⟨hl, ?_⟩
  rw [bls, List.getElem?_map, List.getElem?_eq_getElem hl] at hx
  simp only [Option.map_some, Option.some.injEq] at hx
  rw [hc, ← hx]
/-- A row of bools as a function. -/
def fL (L : List Bool) (i : Nat) : Bool := L.getD i false
theorem fL_at {L : List Bool} {i : Nat} (h : i < L.length) : fL L i = L[i] := by
  unfold fL; rw [List.getD_eq_getElem?_getD, List.getElem?_eq_getElem h]; rfl

set_option maxHeartbeats 1600000 in
/-- None of so many, or more than there are. -/
theorem lfree_out {w : World} {A : Option Addr} {n c : Nat} (from_ many : Int) (h : many < 1 ∨ (n : Int) < many) (hf : from_ ≤ 9223372036854775807) (hn : n ≤ 100000) :
    Calls Try.prog 52 #[.slice A n c, .int .i64 from_, .int .i64 many] w fun e w' => e = .returned (encF none) ∧ w = w' := by
  rcases h with h | h
  · have t1 : decide ((1 : Int) ≤ many) = false := decide_eq_false (by omega)
    have hmx : ∃ lo : Nat, max from_ 0 = (lo : Int) := ⟨from_.toNat, by omega⟩
    rcases Int.lt_trichotomy from_ 0 with hq | hq | hq
    · go_enter Try.func52, Try.ntmps52
      go_wp2_with fail
      go_loop [8] (fun iv => iv = .int .i64 0) (fun _ => 0)
      case atStart => exact rfl
      case round =>
        obtain rfl := hrel
        go_wp2_with fail
        all_goals
          go_ret2
          exact ⟨rfl, rfl⟩
    · subst hq
      go_enter Try.func52, Try.ntmps52
      go_wp2_with fail
      go_loop [8] (fun iv => iv = .int .i64 0) (fun _ => 0)
      case atStart => exact rfl
      case round =>
        obtain rfl := hrel
        go_wp2_with fail
        all_goals
          go_ret2
          exact ⟨rfl, rfl⟩
    · go_enter Try.func52, Try.ntmps52
      go_wp2_with fail
      go_loop [8] (fun iv => iv = .int .i64 from_) (fun _ => 0)
      case atStart => exact rfl
      case round =>
        obtain rfl := hrel
        go_wp2_with fail
        all_goals
          go_ret2
          exact ⟨rfl, rfl⟩
  · have t1 : decide (many ≤ (n : Int)) = false := decide_eq_false (by omega)
    have t2 : decide ((1 : Int) ≤ many) = true := decide_eq_true (by omega)
    rcases Int.lt_trichotomy from_ 0 with hq | hq | hq
    · go_enter Try.func52, Try.ntmps52
      go_wp2_with fail
      go_loop [8] (fun iv => iv = .int .i64 0) (fun _ => 0)
      case atStart => exact rfl
      case round =>
        obtain rfl := hrel
        go_wp2_with fail
        all_goals
          go_ret2
          exact ⟨rfl, rfl⟩
    · subst hq
      go_enter Try.func52, Try.ntmps52
      go_wp2_with fail
      go_loop [8] (fun iv => iv = .int .i64 0) (fun _ => 0)
      case atStart => exact rfl
      case round =>
        obtain rfl := hrel
        go_wp2_with fail
        all_goals
          go_ret2
          exact ⟨rfl, rfl⟩
    · go_enter Try.func52, Try.ntmps52
      go_wp2_with fail
      go_loop [8] (fun iv => iv = .int .i64 from_) (fun _ => 0)
      case atStart => exact rfl
      case round =>
        obtain rfl := hrel
        go_wp2_with fail
        all_goals
          go_ret2
          exact ⟨rfl, rfl⟩

set_option maxRecDepth 100000 in
set_option maxHeartbeats 3200000 in
/-- The first of so many. -/
theorem lfree_some {w : World} {b off n c : Nat} {L : List Bool} {B : Nat} (h : Seg w B (some ⟨b, off, none⟩) n (bls L)) (from_ : Int) (many : Nat) (hm : 0 < many) (hmn : many ≤ n) (hf : from_ ≤ 9223372036854775807) (hn : n ≤ 100000) :
    Calls Try.prog 52 #[.slice (some ⟨b, off, none⟩) n c, .int .i64 from_, .int .i64 (many : Int)] w fun e w' => (∃ r, IsFree (fL L) n from_.toNat many r ∧ e = .returned (encF r)) ∧ w = w' := by
  have HS := Lib.hid h
  have t1 : decide ((1 : Int) ≤ (many : Int)) = true := decide_eq_true (by omega)
  have t2 : decide ((many : Int) ≤ (n : Int)) = true := decide_eq_true (by omega)
  clear h
  rcases Int.lt_trichotomy from_ 0 with hq | hq | hq
  · rw [show from_.toNat = 0 by omega]
    go_enter Try.func52, Try.ntmps52
    go_wp2_with fail
    go_loop [8] (fun iv => ∃ i : Nat, iv = .int .i64 (i : Int) ∧ 0 ≤ i ∧ ∀ s, 0 ≤ s → s < i → s + many ≤ n → ¬ Clr (fL L) s many) (fun iv => n - (intOf iv).toNat)
    case atStart => exact ⟨0, rfl, Nat.le_refl _, fun s h1 h2 => absurd h2 (by omega)⟩
    case round =>
      obtain ⟨i, rfl, hli, hk⟩ := hrel
      have HK := Lib.hid hk
      clear hk
      by_cases hlt : i < n
      · go_wp2_with fail
        go_loop [9] (fun kv => ∃ k : Nat, kv = .int .i64 (k : Int) ∧ k ≤ many ∧ i + k ≤ n ∧ Clr (fL L) i k) (fun kv => many - (intOf kv).toNat)
        case atStart => exact ⟨0, rfl, by omega, by omega, fun j h1 h2 => by omega⟩
        case round =>
          obtain ⟨k, rfl, hkm, hkn, hcl⟩ := hrel
          have HC := Lib.hid hcl
          clear hcl
          by_cases h1 : k < many
          · by_cases h2 : i + k < n
            · obtain ⟨hl, hc⟩ := Seg.bool HS.out h2
              have HV := Lib.hid (fL_at hl)
              cases hb : L[i + k] with
              | true =>
                rw [hb] at hc HV
                have s1 : ((k : Int) == (many : Int)) = false := by rw [beq_eq_false_iff_ne]; omega
                clear hb
                go_wp2_with fail
                go_round
                case rel => exact ⟨i + 1, by go_num, by omega, fun s h1 h2 h3 => by
                  by_cases e : s = i
                  · subst e; exact fun hc2 => by have h9 := hc2 (s + k) (by omega) (by omega); rw [HV.out] at h9; cases h9
                  · exact HK.out s h1 (by omega) h3⟩
                case measure => simp [intOf]; omega
              | false =>
                rw [hb] at hc HV
                clear hb
                go_wp2_with fail
                go_round
                case rel => exact ⟨k + 1, by go_num, by omega, by omega, fun j h3 h4 => by
                  by_cases e : j = i + k
                  · subst e; exact HV.out
                  · exact HC.out j h3 (by omega)⟩
                case measure => simp [intOf]; omega
            · have s1 : ((k : Int) == (many : Int)) = false := by rw [beq_eq_false_iff_ne]; omega
              have s2 : decide ((i : Int) + (k : Int) < (n : Int)) = false := decide_eq_false (by omega)
              go_wp2_with fail
              go_round
              case rel => exact ⟨i + 1, by go_num, by omega, fun s h1 h2 h3 => by
                by_cases e : s = i
                · subst e; omega
                · exact HK.out s h1 (by omega) h3⟩
              case measure => simp [intOf]; omega
          · obtain rfl : k = many := by omega
            have s1 : ((k : Int) == (k : Int)) = true := by simp
            have s2 : decide ((k : Int) < (k : Int)) = false := decide_eq_false (by omega)
            go_wp2_with fail
            go_ret2
            exact ⟨⟨some i, ⟨hli, hkn, HC.out, fun s h3 h4 => HK.out s h3 h4 (by omega)⟩, rfl⟩, rfl⟩
      · go_wp2_with fail
        go_ret2
        exact ⟨⟨none, (fun s h3 h4 => HK.out s h3 (by omega) h4), rfl⟩, rfl⟩
  · subst hq
    rw [show (0 : Int).toNat = 0 from rfl]
    go_enter Try.func52, Try.ntmps52
    go_wp2_with fail
    go_loop [8] (fun iv => ∃ i : Nat, iv = .int .i64 (i : Int) ∧ 0 ≤ i ∧ ∀ s, 0 ≤ s → s < i → s + many ≤ n → ¬ Clr (fL L) s many) (fun iv => n - (intOf iv).toNat)
    case atStart => exact ⟨0, rfl, Nat.le_refl _, fun s h1 h2 => absurd h2 (by omega)⟩
    case round =>
      obtain ⟨i, rfl, hli, hk⟩ := hrel
      have HK := Lib.hid hk
      clear hk
      by_cases hlt : i < n
      · go_wp2_with fail
        go_loop [9] (fun kv => ∃ k : Nat, kv = .int .i64 (k : Int) ∧ k ≤ many ∧ i + k ≤ n ∧ Clr (fL L) i k) (fun kv => many - (intOf kv).toNat)
        case atStart => exact ⟨0, rfl, by omega, by omega, fun j h1 h2 => by omega⟩
        case round =>
          obtain ⟨k, rfl, hkm, hkn, hcl⟩ := hrel
          have HC := Lib.hid hcl
          clear hcl
          by_cases h1 : k < many
          · by_cases h2 : i + k < n
            · obtain ⟨hl, hc⟩ := Seg.bool HS.out h2
              have HV := Lib.hid (fL_at hl)
              cases hb : L[i + k] with
              | true =>
                rw [hb] at hc HV
                have s1 : ((k : Int) == (many : Int)) = false := by rw [beq_eq_false_iff_ne]; omega
                clear hb
                go_wp2_with fail
                go_round
                case rel => exact ⟨i + 1, by go_num, by omega, fun s h1 h2 h3 => by
                  by_cases e : s = i
                  · subst e; exact fun hc2 => by have h9 := hc2 (s + k) (by omega) (by omega); rw [HV.out] at h9; cases h9
                  · exact HK.out s h1 (by omega) h3⟩
                case measure => simp [intOf]; omega
              | false =>
                rw [hb] at hc HV
                clear hb
                go_wp2_with fail
                go_round
                case rel => exact ⟨k + 1, by go_num, by omega, by omega, fun j h3 h4 => by
                  by_cases e : j = i + k
                  · subst e; exact HV.out
                  · exact HC.out j h3 (by omega)⟩
                case measure => simp [intOf]; omega
            · have s1 : ((k : Int) == (many : Int)) = false := by rw [beq_eq_false_iff_ne]; omega
              have s2 : decide ((i : Int) + (k : Int) < (n : Int)) = false := decide_eq_false (by omega)
              go_wp2_with fail
              go_round
              case rel => exact ⟨i + 1, by go_num, by omega, fun s h1 h2 h3 => by
                by_cases e : s = i
                · subst e; omega
                · exact HK.out s h1 (by omega) h3⟩
              case measure => simp [intOf]; omega
          · obtain rfl : k = many := by omega
            have s1 : ((k : Int) == (k : Int)) = true := by simp
            have s2 : decide ((k : Int) < (k : Int)) = false := decide_eq_false (by omega)
            go_wp2_with fail
            go_ret2
            exact ⟨⟨some i, ⟨hli, hkn, HC.out, fun s h3 h4 => HK.out s h3 h4 (by omega)⟩, rfl⟩, rfl⟩
      · go_wp2_with fail
        go_ret2
        exact ⟨⟨none, (fun s h3 h4 => HK.out s h3 (by omega) h4), rfl⟩, rfl⟩
  · obtain ⟨lo, rfl⟩ := Int.eq_ofNat_of_zero_le (by omega : 0 ≤ from_)
    rw [Int.toNat_natCast]
    go_enter Try.func52, Try.ntmps52
    go_wp2_with fail
    go_loop [8] (fun iv => ∃ i : Nat, iv = .int .i64 (i : Int) ∧ lo ≤ i ∧ ∀ s, lo ≤ s → s < i → s + many ≤ n → ¬ Clr (fL L) s many) (fun iv => n - (intOf iv).toNat)
    case atStart => exact ⟨lo, rfl, Nat.le_refl _, fun s h1 h2 => absurd h2 (by omega)⟩
    case round =>
      obtain ⟨i, rfl, hli, hk⟩ := hrel
      have HK := Lib.hid hk
      clear hk
      by_cases hlt : i < n
      · go_wp2_with fail
        go_loop [9] (fun kv => ∃ k : Nat, kv = .int .i64 (k : Int) ∧ k ≤ many ∧ i + k ≤ n ∧ Clr (fL L) i k) (fun kv => many - (intOf kv).toNat)
        case atStart => exact ⟨0, rfl, by omega, by omega, fun j h1 h2 => by omega⟩
        case round =>
          obtain ⟨k, rfl, hkm, hkn, hcl⟩ := hrel
          have HC := Lib.hid hcl
          clear hcl
          by_cases h1 : k < many
          · by_cases h2 : i + k < n
            · obtain ⟨hl, hc⟩ := Seg.bool HS.out h2
              have HV := Lib.hid (fL_at hl)
              cases hb : L[i + k] with
              | true =>
                rw [hb] at hc HV
                have s1 : ((k : Int) == (many : Int)) = false := by rw [beq_eq_false_iff_ne]; omega
                clear hb
                go_wp2_with fail
                go_round
                case rel => exact ⟨i + 1, by go_num, by omega, fun s h1 h2 h3 => by
                  by_cases e : s = i
                  · subst e; exact fun hc2 => by have h9 := hc2 (s + k) (by omega) (by omega); rw [HV.out] at h9; cases h9
                  · exact HK.out s h1 (by omega) h3⟩
                case measure => simp [intOf]; omega
              | false =>
                rw [hb] at hc HV
                clear hb
                go_wp2_with fail
                go_round
                case rel => exact ⟨k + 1, by go_num, by omega, by omega, fun j h3 h4 => by
                  by_cases e : j = i + k
                  · subst e; exact HV.out
                  · exact HC.out j h3 (by omega)⟩
                case measure => simp [intOf]; omega
            · have s1 : ((k : Int) == (many : Int)) = false := by rw [beq_eq_false_iff_ne]; omega
              have s2 : decide ((i : Int) + (k : Int) < (n : Int)) = false := decide_eq_false (by omega)
              go_wp2_with fail
              go_round
              case rel => exact ⟨i + 1, by go_num, by omega, fun s h1 h2 h3 => by
                by_cases e : s = i
                · subst e; omega
                · exact HK.out s h1 (by omega) h3⟩
              case measure => simp [intOf]; omega
          · obtain rfl : k = many := by omega
            have s1 : ((k : Int) == (k : Int)) = true := by simp
            have s2 : decide ((k : Int) < (k : Int)) = false := decide_eq_false (by omega)
            go_wp2_with fail
            go_ret2
            exact ⟨⟨some i, ⟨hli, hkn, HC.out, fun s h3 h4 => HK.out s h3 h4 (by omega)⟩, rfl⟩, rfl⟩
      · go_wp2_with fail
        go_ret2
        exact ⟨⟨none, (fun s h3 h4 => HK.out s h3 (by omega) h4), rfl⟩, rfl⟩
end Go.Proofs.Ytaagfmaboggbhaa.bit
