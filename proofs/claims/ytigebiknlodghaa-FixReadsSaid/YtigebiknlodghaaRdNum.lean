/-
  Readers: the walks of Num, U8 to U64, Left, Bad, End and of the document's Num, End.
-/
import Derived.Test.YtigebiknlodghaaRd
namespace Go.Proofs.Ytigebiknlodghaa.fix
open Go.RowKit
set_option linter.unusedVariables false

theorem take8 (l : List Nat) (k : Nat) (hk : k ≤ 8) : (l.take k).take 8 = l.take k := by rw [List.take_take, Nat.min_eq_right hk]

set_option maxHeartbeats 800000 in
theorem rnum_any {w : World} {g B : Nat} {l : List Nat} {bad : Bool} (h : Rd w 76 g B l bad) (k : Nat) (hk1 : 1 ≤ k) (hk8 : k ≤ 8) (hlm : l.length ≤ 1000000) :
    Calls Try.prog 35 #[.pointer (some ⟨g, 0, none⟩), .int .i64 (k : Int)] w fun e w' => e = .returned (.int .u64 (rdVal k l : Nat)) ∧ Rd w' 76 g B (rdRest k l) (bad || rdBad k l) ∧ w.grownBy w' (some g) := by
  have hB := h.isB
  have i1 : (1 : Int) ≤ (k : Int) := by omega
  have i8 : (k : Int) ≤ 8 := by omega
  have hvt := take8 l k hk8
  have HV := Lib.hid hvt
  clear hvt
  by_cases hk : k ≤ l.length
  · have hS := Lib.hid (rbytes_some h k hk hlm)
    have e1 : rdVal k l = leN (l.take k) := by unfold rdVal; rw [if_pos hk]
    have e2 : rdRest k l = l.drop k := by unfold rdRest; rw [if_pos hk]
    have e3 : rdBad k l = false := by unfold rdBad; simpa using hk
    rw [e1, e2, e3, Bool.or_false]
    clear e1 e2 e3
    go_enter Try.func35, Try.ntmps35
    go_wp2_with fail
    refine (hS.out).mono ?_
    rintro e w1 ⟨A', c', rfl, hown, hrd, hg⟩
    have HO := Lib.hid hown
    have HR := Lib.hid hrd
    have HG := Lib.hid hg
    clear hown hrd hg
    go_wp2_with fail
    refine (get_any c' HO.out.seg (hB.take k) HO.out.cap (by omega)).mono ?_
    rintro e w2 ⟨rfl, rfl⟩
    rw [HV.out]
    go_wp2_with fail
    go_ret
    exact ⟨rfl, HR.out, HG.out⟩
  · have hS := Lib.hid (rbytes_none h (k : Int) (.inr (by omega)))
    have e1 : rdVal k l = 0 := by unfold rdVal; rw [if_neg hk]
    have e2 : rdRest k l = [] := by unfold rdRest; rw [if_neg hk]
    have e3 : rdBad k l = true := by unfold rdBad; simp; omega
    rw [e1, e2, e3, Bool.or_true]
    clear e1 e2 e3
    go_enter Try.func35, Try.ntmps35
    go_wp2_with fail
    refine (hS.out).mono ?_
    rintro e w1 ⟨rfl, hrd, hg⟩
    have HR := Lib.hid hrd
    have HG := Lib.hid hg
    clear hrd hg
    go_wp2_with fail
    refine (get_any (n := 0) (B := 0) (A := none) (l := []) 0 (Seg.empty _) IsB.nil (Nat.le_refl _) (by omega)).mono ?_
    rintro e w2 ⟨rfl, rfl⟩
    go_wp2_with fail
    go_ret
    exact ⟨rfl, HR.out, HG.out⟩

set_option maxHeartbeats 800000 in
theorem qnum_any {w : World} {g B : Nat} {l : List Nat} {bad : Bool} (h : Rd w 57 g B l bad) (k : Nat) (hk1 : 1 ≤ k) (hk8 : k ≤ 8) (hlm : l.length ≤ 1000000) :
    Calls Try.prog 31 #[.pointer (some ⟨g, 0, none⟩), .int .i64 (k : Int)] w fun e w' => e = .returned (.int .u64 (rdVal k l : Nat)) ∧ Rd w' 57 g B (rdRest k l) (bad || rdBad k l) ∧ w.grownBy w' (some g) := by
  have hB := h.isB
  have i1 : (1 : Int) ≤ (k : Int) := by omega
  have i8 : (k : Int) ≤ 8 := by omega
  have hvt := take8 l k hk8
  have HV := Lib.hid hvt
  clear hvt
  by_cases hk : k ≤ l.length
  · have hS := Lib.hid (qbytes_some h k hk hlm)
    have e1 : rdVal k l = leN (l.take k) := by unfold rdVal; rw [if_pos hk]
    have e2 : rdRest k l = l.drop k := by unfold rdRest; rw [if_pos hk]
    have e3 : rdBad k l = false := by unfold rdBad; simpa using hk
    rw [e1, e2, e3, Bool.or_false]
    clear e1 e2 e3
    go_enter Try.func31, Try.ntmps31
    go_wp2_with fail
    refine (hS.out).mono ?_
    rintro e w1 ⟨A', c', rfl, hown, hrd, hg⟩
    have HO := Lib.hid hown
    have HR := Lib.hid hrd
    have HG := Lib.hid hg
    clear hown hrd hg
    go_wp2_with fail
    refine (refget_any c' HO.out.seg (hB.take k) hk8).mono ?_
    rintro e w2 ⟨rfl, rfl⟩
    skip
    go_wp2_with fail
    go_ret
    exact ⟨rfl, HR.out, HG.out⟩
  · have hS := Lib.hid (qbytes_none h (k : Int) (.inr (by omega)))
    have e1 : rdVal k l = 0 := by unfold rdVal; rw [if_neg hk]
    have e2 : rdRest k l = [] := by unfold rdRest; rw [if_neg hk]
    have e3 : rdBad k l = true := by unfold rdBad; simp; omega
    rw [e1, e2, e3, Bool.or_true]
    clear e1 e2 e3
    go_enter Try.func31, Try.ntmps31
    go_wp2_with fail
    refine (hS.out).mono ?_
    rintro e w1 ⟨rfl, hrd, hg⟩
    have HR := Lib.hid hrd
    have HG := Lib.hid hg
    clear hrd hg
    go_wp2_with fail
    refine (refget_any (n := 0) (B := 0) (A := none) (l := []) 0 (Seg.empty _) IsB.nil (by omega)).mono ?_
    rintro e w2 ⟨rfl, rfl⟩
    go_wp2_with fail
    go_ret
    exact ⟨rfl, HR.out, HG.out⟩

theorem u8_any {w : World} {g B : Nat} {l : List Nat} {bad : Bool} (h : Rd w 76 g B l bad) (hlm : l.length ≤ 1000000) :
    Calls Try.prog 30 #[.pointer (some ⟨g, 0, none⟩)] w fun e w' => e = .returned (.int .i64 (rdVal 1 l : Nat)) ∧ Rd w' 76 g B (rdRest 1 l) (bad || rdBad 1 l) ∧ w.grownBy w' (some g) := by
  have hS := Lib.hid (rnum_any h 1 (by decide) (by decide) hlm)
  have hv := rdVal_lt 1 l h.isB
  simp only [Nat.reduceMul, Nat.reducePow] at hv
  clear h
  generalize rdVal 1 l = v at *
  go_enter Try.func30, Try.ntmps30
  go_wp2_with fail
  refine (hS.out).mono ?_
  rintro e w1 ⟨rfl, hrd, hg⟩
  have HR := Lib.hid hrd
  have HG := Lib.hid hg
  clear hrd hg
  go_wp2_with fail
  go_ret
  exact ⟨rfl, HR.out, HG.out⟩

theorem u16_any {w : World} {g B : Nat} {l : List Nat} {bad : Bool} (h : Rd w 76 g B l bad) (hlm : l.length ≤ 1000000) :
    Calls Try.prog 32 #[.pointer (some ⟨g, 0, none⟩)] w fun e w' => e = .returned (.int .i64 (rdVal 2 l : Nat)) ∧ Rd w' 76 g B (rdRest 2 l) (bad || rdBad 2 l) ∧ w.grownBy w' (some g) := by
  have hS := Lib.hid (rnum_any h 2 (by decide) (by decide) hlm)
  have hv := rdVal_lt 2 l h.isB
  simp only [Nat.reduceMul, Nat.reducePow] at hv
  clear h
  generalize rdVal 2 l = v at *
  go_enter Try.func32, Try.ntmps32
  go_wp2_with fail
  refine (hS.out).mono ?_
  rintro e w1 ⟨rfl, hrd, hg⟩
  have HR := Lib.hid hrd
  have HG := Lib.hid hg
  clear hrd hg
  go_wp2_with fail
  go_ret
  exact ⟨rfl, HR.out, HG.out⟩

theorem u32_any {w : World} {g B : Nat} {l : List Nat} {bad : Bool} (h : Rd w 76 g B l bad) (hlm : l.length ≤ 1000000) :
    Calls Try.prog 33 #[.pointer (some ⟨g, 0, none⟩)] w fun e w' => e = .returned (.int .u32 (rdVal 4 l : Nat)) ∧ Rd w' 76 g B (rdRest 4 l) (bad || rdBad 4 l) ∧ w.grownBy w' (some g) := by
  have hS := Lib.hid (rnum_any h 4 (by decide) (by decide) hlm)
  have hv := rdVal_lt 4 l h.isB
  simp only [Nat.reduceMul, Nat.reducePow] at hv
  clear h
  generalize rdVal 4 l = v at *
  go_enter Try.func33, Try.ntmps33
  go_wp2_with fail
  refine (hS.out).mono ?_
  rintro e w1 ⟨rfl, hrd, hg⟩
  have HR := Lib.hid hrd
  have HG := Lib.hid hg
  clear hrd hg
  go_wp2_with fail
  go_ret
  exact ⟨rfl, HR.out, HG.out⟩

theorem u64_any {w : World} {g B : Nat} {l : List Nat} {bad : Bool} (h : Rd w 76 g B l bad) (hlm : l.length ≤ 1000000) :
    Calls Try.prog 34 #[.pointer (some ⟨g, 0, none⟩)] w fun e w' => e = .returned (.int .u64 (rdVal 8 l : Nat)) ∧ Rd w' 76 g B (rdRest 8 l) (bad || rdBad 8 l) ∧ w.grownBy w' (some g) := by
  have hS := Lib.hid (rnum_any h 8 (by decide) (by decide) hlm)
  have hv := rdVal_lt 8 l h.isB
  simp only [Nat.reduceMul, Nat.reducePow] at hv
  clear h
  generalize rdVal 8 l = v at *
  go_enter Try.func34, Try.ntmps34
  go_wp2_with fail
  refine (hS.out).mono ?_
  rintro e w1 ⟨rfl, hrd, hg⟩
  have HR := Lib.hid hrd
  have HG := Lib.hid hg
  clear hrd hg
  go_wp2_with fail
  go_ret
  exact ⟨rfl, HR.out, HG.out⟩

/-- What a reader ends with. -/
def endC (bad : Bool) (n : Nat) : Int := if bad then 20 else if 0 < n then 21 else 0
theorem rend_any {w : World} {g B : Nat} {l : List Nat} {bad : Bool} (h : Rd w 76 g B l bad) :
    Calls Try.prog 40 #[.pointer (some ⟨g, 0, none⟩)] w fun e w' => e = .returned (.int .i64 (endC bad l.length)) ∧ w = w' := by
  obtain ⟨A, c, h1, h2, h3, h4, h5, h6⟩ := h
  have c0 : w.cell? ⟨g, 0, none⟩ = some (.slice A l.length c) := (h1.cell 0).trans rfl
  have c1 : w.cell? ⟨g, 1, none⟩ = some (.bool bad) := (h1.cell 1).trans rfl
  clear h1 h2 h4 h5
  generalize l.length = n at *
  cases bad with
  | true =>
    go_enter Try.func40, Try.ntmps40
    go_wp2
    go_ret
    exact ⟨rfl, rfl⟩
  | false =>
    by_cases hn : 0 < n
    · have t1 : decide ((0 : Int) < (n : Int)) = true := by simp; omega
      have e1 : endC false n = 21 := by unfold endC; simp; omega
      rw [e1]
      clear e1
      go_enter Try.func40, Try.ntmps40
      go_wp2
      go_ret
      exact ⟨rfl, rfl⟩
    · obtain rfl : n = 0 := by omega
      have e1 : endC false 0 = 0 := rfl
      rw [e1]
      clear e1
      go_enter Try.func40, Try.ntmps40
      go_wp2
      go_ret
      exact ⟨rfl, rfl⟩

theorem qend_any {w : World} {g B : Nat} {l : List Nat} {bad : Bool} (h : Rd w 57 g B l bad) :
    Calls Try.prog 41 #[.pointer (some ⟨g, 0, none⟩)] w fun e w' => e = .returned (.int .i64 (endC bad l.length)) ∧ w = w' := by
  obtain ⟨A, c, h1, h2, h3, h4, h5, h6⟩ := h
  have c0 : w.cell? ⟨g, 0, none⟩ = some (.slice A l.length c) := (h1.cell 0).trans rfl
  have c1 : w.cell? ⟨g, 1, none⟩ = some (.bool bad) := (h1.cell 1).trans rfl
  clear h1 h2 h4 h5
  generalize l.length = n at *
  cases bad with
  | true =>
    go_enter Try.func41, Try.ntmps41
    go_wp2
    go_ret
    exact ⟨rfl, rfl⟩
  | false =>
    by_cases hn : 0 < n
    · have t1 : decide ((0 : Int) < (n : Int)) = true := by simp; omega
      have e1 : endC false n = 21 := by unfold endC; simp; omega
      rw [e1]
      clear e1
      go_enter Try.func41, Try.ntmps41
      go_wp2
      go_ret
      exact ⟨rfl, rfl⟩
    · obtain rfl : n = 0 := by omega
      have e1 : endC false 0 = 0 := rfl
      rw [e1]
      clear e1
      go_enter Try.func41, Try.ntmps41
      go_wp2
      go_ret
      exact ⟨rfl, rfl⟩

theorem left_any {w : World} {g B : Nat} {l : List Nat} {bad : Bool} (h : Rd w 76 g B l bad) :
    Calls Try.prog 38 #[.pointer (some ⟨g, 0, none⟩)] w fun e w' => e = .returned (.int .i64 (l.length : Nat)) ∧ w = w' := by
  obtain ⟨A, c, h1, h2, h3, h4, h5, h6⟩ := h
  have c0 : w.cell? ⟨g, 0, none⟩ = some (.slice A l.length c) := (h1.cell 0).trans rfl
  clear h1 h2 h4 h5
  go_enter Try.func38, Try.ntmps38
  go_wp2
  go_ret
  exact ⟨rfl, rfl⟩
theorem isbad_any {w : World} {g B : Nat} {l : List Nat} {bad : Bool} (h : Rd w 76 g B l bad) :
    Calls Try.prog 39 #[.pointer (some ⟨g, 0, none⟩)] w fun e w' => e = .returned (.bool bad) ∧ w = w' := by
  obtain ⟨A, c, h1, h2, h3, h4, h5, h6⟩ := h
  have c1 : w.cell? ⟨g, 1, none⟩ = some (.bool bad) := (h1.cell 1).trans rfl
  clear h1 h2 h4 h5
  go_enter Try.func39, Try.ntmps39
  go_wp2
  go_ret
  exact ⟨rfl, rfl⟩

theorem fits_255 (w : World) : Calls Try.prog 55 #[.int .u64 255, .int .i64 1] w fun e w' => e = .returned (.bool true) ∧ w = w' := by
  go_enter Try.func55, Try.ntmps55
  go_wp2
  go_ret
  exact ⟨rfl, rfl⟩
theorem fits_256 (w : World) : Calls Try.prog 55 #[.int .u64 256, .int .i64 1] w fun e w' => e = .returned (.bool false) ∧ w = w' := by
  go_enter Try.func55, Try.ntmps55
  go_wp2
  go_ret
  exact ⟨rfl, rfl⟩
set_option maxHeartbeats 800000 in
/-- The chapter's example. -/
theorem alive_true (w : World) : Calls Try.prog 42 #[] w fun e w' => e = .returned (.bool true) ∧ Below w.heap.size w w' := by
  have hp := Lib.hid (put_own (l := []) 258 2 (Own.nil w w.heap.size 5) (by decide) (Nat.le_refl _) (by omega))
  go_enter Try.func42, Try.ntmps42
  go_wp2_with fail
  refine (hp.out).mono ?_
  rintro e w1 ⟨A, c, rfl, hown, hg, hc⟩
  have HO := Lib.hid hown
  have HB := Lib.hid ((Below.refl w.heap.size w).grown hg (Nat.le_refl _) (fun k hk => by unfold blk at hk; cases hk))
  clear hown hg hc
  go_wp2_with fail
  refine (equal_any c 2 ((HO.out.alloc _).seg) (Seg.lit [2, 1] rfl 5) (leB_isB 258 2) (by unfold IsB; decide)).mono ?_
  rintro e w6 ⟨rfl, rfl⟩
  rw [show decide ([] ++ leB 258 2 = [2, 1]) = true by decide]
  go_wp2_with fail
  refine (fits_255 _).mono ?_
  rintro e w7 ⟨rfl, rfl⟩
  go_wp2_with fail
  refine (fits_256 _).mono ?_
  rintro e w8 ⟨rfl, rfl⟩
  go_wp2_with fail
  go_ret
  exact ⟨rfl, HB.out.alloc HB.out.size _⟩
end Go.Proofs.Ytigebiknlodghaa.fix
