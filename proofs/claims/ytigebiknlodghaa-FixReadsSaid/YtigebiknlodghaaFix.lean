/-
  The walks of fix.Get, fix.Put, fix.Fits and of the document's Get.
-/
import Derived.Test.YtigebiknlodghaaFixPlain
import Derived.Test.YtigebiknlodghaaMake
import Derived.Test.YtigebiknlodghaaBytes
import Derived.WalkLawsBesides
import Derived.Laws.BitsAllLaws
import Derived.Laws.BitsLemmas
import Derived.Outline
namespace Go.Proofs.Ytigebiknlodghaa.fix
open Go.RowKit
set_option linter.unusedVariables false

theorem shl_u64 (c k : Nat) (hc : c < 256) (hk : k < 8) : IntKind.u64.wrap ((c : Int) * 2 ^ (8 * k)) = ((c * 2 ^ (8 * k) : Nat) : Int) := by
  have h1 : 2 ^ (8 * k) ≤ 2 ^ 56 := Nat.pow_le_pow_right (by decide) (by omega)
  have h2 : c * 2 ^ (8 * k) ≤ 255 * 2 ^ 56 := Nat.mul_le_mul (by omega) h1
  rw [show (c : Int) * 2 ^ (8 * k) = ((c * 2 ^ (8 * k) : Nat) : Int) by simp]
  generalize c * 2 ^ (8 * k) = p at *
  exact IntWalk.u64_in _ (by omega)
theorem or_u64 (n c k : Nat) (hc : c < 256) (hk : k < 8) (hn : n < 2 ^ (8 * k)) : bits .or .u64 (n : Int) ((c * 2 ^ (8 * k) : Nat) : Int) = ((n + c * 2 ^ (8 * k) : Nat) : Int) := by
  have h1 : 2 ^ (8 * k) ≤ 2 ^ 56 := Nat.pow_le_pow_right (by decide) (by omega)
  have h2 : c * 2 ^ (8 * k) ≤ 255 * 2 ^ 56 := Nat.mul_le_mul (by omega) h1
  have h3 := u64_or_nat n (c * 2 ^ (8 * k)) (by omega) (by omega)
  rw [or_step n c k hn] at h3
  exact h3

set_option maxHeartbeats 800000 in
/-- fix.Get. -/
theorem get_any {B n : Nat} {A : Option Addr} (c : Nat) {l : List Nat} {w : World} (h : Seg w B A n (bts l)) (hl : IsB l) (hnc : n ≤ c) (hn : n ≤ 1000000) :
    Calls Try.prog 53 #[.slice A n c] w fun e w' => e = .returned (.int .u64 (leN (l.take 8) : Nat)) ∧ w = w' := by
  have hlen : l.length = n := by rw [← bts_len]; exact h.1
  have HL := Lib.hid hlen
  have HB := Lib.hid hl
  have HS := Lib.hid h
  clear hlen h hl
  by_cases h8 : n ≤ 8
  · have h8i : (n : Int) ≤ 8 := by omega
    go_enter Try.func53, Try.ntmps53
    go_wp2
    go_loop [3, 12] (fun v i => ∃ k : Nat, k ≤ n ∧ i = .int .i64 (k : Int) ∧ v = .int .u64 ((leN (l.take k) : Nat) : Int)) (fun _ i => n - (intOf i).toNat)
    case atStart => exact ⟨0, by omega, rfl, rfl⟩
    case round =>
      obtain ⟨k, hk, rfl, rfl⟩ := hrel
      by_cases hlt : k < n
      · obtain ⟨b, off, hkl, rfl, hb, hcell⟩ := HS.out.byte (k := k) (by omega)
        have hx := HB.out.at_ hkl
        have hst := Lib.hid (leN_step hkl)
        have hnk : leN (l.take k) < 2 ^ (8 * k) := by
          have := leN_lt (HB.out.take k)
          rw [List.length_take, Nat.min_eq_left (Nat.le_of_lt hkl)] at this
          exact this
        have e1 := shl_u64 l[k] k hx (by omega)
        have e2 := or_u64 (leN (l.take k)) l[k] k hx (by omega) hnk
        have hk8 : k < 8 := by omega
        generalize l[k] = x at *
        generalize leN (l.take k) = v at *
        have HE1 := Lib.hid e1
        have HE2 := Lib.hid e2
        clear e1 e2 hnk
        go_wp2
        go_round
        case rel => exact ⟨k + 1, by omega, by go_num, by rw [HE1.out, HE2.out, hst.out]⟩
        case measure => simp [intOf]; omega
      · have hkm : leN (l.take k) = leN (l.take 8) := by
          obtain rfl : k = n := by omega
          rw [List.take_of_length_le (by rw [HL.out]; omega), List.take_of_length_le (by rw [HL.out]; omega)]
        go_wp2
        go_ret
        exact ⟨by rw [← hkm]; rfl, rfl⟩
  · have h8i : ¬ (n : Int) ≤ 8 := by omega
    have hmx : max (8 : Int) 0 = 8 := by decide
    go_enter Try.func53, Try.ntmps53
    go_wp2
    go_loop [3, 12] (fun v i => ∃ k : Nat, k ≤ 8 ∧ i = .int .i64 (k : Int) ∧ v = .int .u64 ((leN (l.take k) : Nat) : Int)) (fun _ i => 8 - (intOf i).toNat)
    case atStart => exact ⟨0, by omega, rfl, rfl⟩
    case round =>
      obtain ⟨k, hk, rfl, rfl⟩ := hrel
      by_cases hlt : k < 8
      · obtain ⟨b, off, hkl, rfl, hb, hcell⟩ := HS.out.byte (k := k) (by omega)
        have hx := HB.out.at_ hkl
        have hst := Lib.hid (leN_step hkl)
        have hnk : leN (l.take k) < 2 ^ (8 * k) := by
          have := leN_lt (HB.out.take k)
          rw [List.length_take, Nat.min_eq_left (Nat.le_of_lt hkl)] at this
          exact this
        have e1 := shl_u64 l[k] k hx (by omega)
        have e2 := or_u64 (leN (l.take k)) l[k] k hx (by omega) hnk
        have hk8 : k < 8 := by omega
        generalize l[k] = x at *
        generalize leN (l.take k) = v at *
        have HE1 := Lib.hid e1
        have HE2 := Lib.hid e2
        clear e1 e2 hnk
        go_wp2
        go_round
        case rel => exact ⟨k + 1, by omega, by go_num, by rw [HE1.out, HE2.out, hst.out]⟩
        case measure => simp [intOf]; omega
      · have hkm : leN (l.take k) = leN (l.take 8) := by
          obtain rfl : k = 8 := by omega
          rfl
        go_wp2
        go_ret
        exact ⟨by rw [← hkm]; rfl, rfl⟩

set_option maxHeartbeats 800000 in
/-- The document's Get, of at most eight bytes. -/
theorem refget_any {B n : Nat} {A : Option Addr} (c : Nat) {l : List Nat} {w : World} (h : Seg w B A n (bts l)) (hl : IsB l) (hn : n ≤ 8) :
    Calls Try.prog 52 #[.slice A n c] w fun e w' => e = .returned (.int .u64 (leN l : Nat)) ∧ w = w' := by
  have hlen : l.length = n := by rw [← bts_len]; exact h.1
  have HL := Lib.hid hlen
  have HB := Lib.hid hl
  have HS := Lib.hid h
  have t1 : decide ((8 : Int) < (n : Int)) = false := by simp; omega
  have h8 := leN_lt8 hl (by omega)
  have H8 := Lib.hid (fun k => leN_lt8 (HB.out.drop k) (by rw [List.length_drop]; omega))
  clear hlen h hl
  go_enter Try.func52, Try.ntmps52
  go_wp2
  go_loop [3, 4] (fun v i => ∃ k : Nat, k ≤ n ∧ i = .int .i64 ((k : Int) - 1) ∧ v = .int .u64 ((leN (l.drop k) : Nat) : Int)) (fun _ i => (intOf i + 1).toNat)
  case atStart => exact ⟨n, by omega, rfl, by rw [List.drop_of_length_le (by rw [HL.out]; omega)]; rfl⟩
  case round =>
    obtain ⟨k, hk, rfl, rfl⟩ := hrel
    by_cases hlt : 0 < k
    · obtain ⟨j, rfl⟩ : ∃ j, k = j + 1 := ⟨k - 1, by omega⟩
      obtain ⟨b, off, hkl, rfl, hb, hcell⟩ := HS.out.byte (k := j) (by omega)
      have hx := HB.out.at_ hkl
      have hst := leN_drop hkl
      have hb1 := H8.out j
      rw [hst] at hb1
      have HST := Lib.hid hst
      clear hst
      generalize l[j] = x at *
      generalize leN (l.drop (j + 1)) = v at *
      have e1 : ((j + 1 : Nat) : Int) - 1 = (j : Int) := by omega
      rw [e1]
      clear e1
      go_wp2
      go_round
      case rel => exact ⟨j, by omega, by go_num, by rw [HST.out]; go_num⟩
      case measure => simp [intOf]
    · obtain rfl : k = 0 := by omega
      rw [List.drop_zero]
      go_wp2
      go_ret
      exact ⟨rfl, rfl⟩

theorem bts_snoc (o : List Nat) (c : Nat) (x : Int) (h : x = (c : Int)) : bts (o ++ [c]) = bts o ++ [Value.int .u8 x] := by subst h; simp [bts]
theorem one_u8 (x : Int) : ∀ u ∈ [Value.int .u8 x], u.oneCell' = true := by
  intro u hu
  obtain rfl : u = .int .u8 x := by simpa using hu
  rfl
/-- A row that came of another one by appends: the old one is there no more, or it is the same block. -/
def Came (w : World) (A A' : Option Addr) : Prop := blk A' = blk A ∨ ∃ g, blk A' = some g ∧ w.heap.size ≤ g
theorem Came.refl (w : World) (A : Option Addr) : Came w A A := .inl rfl
theorem Came.step {w w1 w2 : World} {A A1 A2 : Option Addr} (h : Came w A A1) (hg : w.grownBy w1 (blk A)) (hg2 : w1.grownBy w2 (blk A1)) (h2 : blk A2 = blk A1 ∨ blk A2 = some w1.heap.size) : w.grownBy w2 (blk A) ∧ Came w A A2 := by
  refine ⟨⟨hg2.os.trans hg.os, hg2.tape.trans hg.tape, hg2.output.trans hg.output, Nat.le_trans hg.size hg2.size, fun i hi hne => (hg2.block i (Nat.lt_of_lt_of_le hi hg.size) (fun e => ?_)).trans (hg.block i hi hne)⟩, ?_⟩
  · rcases h with h | ⟨g, h, hl⟩
    · rw [h] at e; exact hne e
    · rw [h] at e; injection e with e; omega
  · rcases h2 with h2 | h2
    · unfold Came; rw [h2]; exact h
    · exact .inr ⟨_, h2, hg.size⟩
theorem grown_alloc {w w1 : World} {row : Option Nat} (h : w.grownBy w1 row) (o : Obj) : w.grownBy (w1.alloc o) row :=
  ⟨h.os, h.tape, h.output, Nat.le_trans h.size (by simp), fun i hi hne => (Below.heap_alloc w1 o i (Nat.lt_of_lt_of_le hi h.size)).trans (h.block i hi hne)⟩
theorem grown_refl (w : World) (row : Option Nat) : w.grownBy w row := ⟨rfl, rfl, rfl, Nat.le_refl _, fun _ _ _ => rfl⟩
theorem byte_of (v j : Nat) : IntKind.u8.wrap ((v : Int) / 2 ^ (8 * j)) = ((v / 2 ^ (8 * j) % 256 : Nat) : Int) := by
  rw [show (v : Int) / 2 ^ (8 * j) = ((v / 2 ^ (8 * j) : Nat) : Int) by simp, IntKind.wrap_u8]; omega

set_option maxHeartbeats 800000 in
/-- fix.Put behind a row of the call's own. -/
theorem put_own {base n c : Nat} {A : Option Addr} {l : List Nat} (v k : Nat) {w : World} (h : Own w base 5 A n c (bts l)) (hk : k ≤ 8) (hbase : base ≤ w.heap.size) (hn : n ≤ 1000000) :
    Calls Try.prog 54 #[.slice A n c, .int .u64 (v : Int), .int .i64 (k : Int)] w fun e w' => ∃ A' c', e = .returned (.slice A' (n + k) c') ∧ Own w' base 5 A' (n + k) c' (bts (l ++ leB v k)) ∧ w.grownBy w' (blk A) ∧ Came w A A' := by
  have HO := Lib.hid h
  have h8i : (k : Int) ≤ 8 := by omega
  clear h
  go_enter Try.func54, Try.ntmps54
  go_wp2
  go_loopw [0, 10] (fun b i wr => ∃ j : Nat, ∃ A1 c1, j ≤ k ∧ i = .int .i64 (j : Int) ∧ b = .slice A1 (n + j) c1 ∧ Own wr base 5 A1 (n + j) c1 (bts (l ++ leB v j)) ∧ w.grownBy wr (blk A) ∧ Came w A A1) (fun _ i _ => k - (intOf i).toNat)
  case atStart => exact ⟨0, A, c, by omega, rfl, rfl, by simpa [leB] using HO.out, grown_refl _ _, Came.refl _ _⟩
  case round =>
    obtain ⟨j, A1, c1, hj, rfl, rfl, hown, hgr, hcm⟩ := hrel
    have HO1 := Lib.hid hown
    have HG1 := Lib.hid hgr
    have HC1 := Lib.hid hcm
    have sz := Nat.le_trans hbase hgr.size
    clear hown hgr hcm
    by_cases hlt : j < k
    · have e1 := byte_of v j
      have HE := Lib.hid (leB_snoc v j)
      go_wp2_with (first
        | (at_builtin; refine wpList_app _ rfl (.tmp 13) (.tmp 19) elemB rfl base rfl (HO1.out.alloc _) _ rfl (Seg.one wr _ _) (one_u8 _) (by unfold maxLen; omega) (by omega) (by simp; omega) ?_; intro A2 c2 w1 hown1 hg1 hat1; have HO2 := Lib.hid hown1; have HG2 := Lib.hid hg1; have HA2 := Lib.hid hat1; clear hown1 hg1 hat1))
      go_roundw
      case rel =>
        have hs := HC1.out.step (grown_alloc HG1.out _) HG2.out (A2 := A2) HA2.out
        refine ⟨j + 1, A2, c2, by omega, by go_num, rfl, ?_, hs.1, ?_⟩
        · rw [HE.out, ← List.append_assoc, bts_snoc _ _ _ rfl]
          exact HO2.out
        · rcases HA2.out with h2 | h2
          · unfold Came; rw [h2]; exact HC1.out
          · exact .inr ⟨_, h2, by have := HG1.out.size; simp; omega⟩
      case measure => simp [intOf]; omega
    · obtain rfl : j = k := by omega
      go_wp2
      go_ret
      exact ⟨A1, c1, rfl, HO1.out, HG1.out, HC1.out⟩
end Go.Proofs.Ytigebiknlodghaa.fix
