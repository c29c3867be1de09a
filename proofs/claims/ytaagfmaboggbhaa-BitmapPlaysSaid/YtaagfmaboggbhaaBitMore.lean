/-
  The walks of the bitmap's Clear and Count and of slices.Equal on numbers.
-/
import Derived.Test.YtaagfmaboggbhaaBitAll
import Derived.Deep.QuietTactic
import Derived.BigQuiet
namespace Go.Proofs.Ytaagfmaboggbhaa.bit
open Go.RowKit
set_option linter.unusedVariables false

theorem clr_bits : ∀ r < 8, ∀ x < 256, x / 2 ^ r % 2 = 1 → x &&& (255 - 2 ^ r) = x - 2 ^ r ∧ ∀ j < 8, (x - 2 ^ r) / 2 ^ j % 2 = if j = r then 0 else x / 2 ^ j % 2 := by decide +kernel
/-- Bytes with a bit cleared that was set. -/
def clrB (l : List Nat) (i : Nat) : List Nat := l.set (i / 8) (l.getD (i / 8) 0 - 2 ^ (i % 8))
theorem byte_lt {l : List Nat} (h : IsB l) (i : Nat) : l.getD i 0 < 256 := by
  rw [List.getD_eq_getElem?_getD]
  by_cases hl : i < l.length
  · rw [List.getElem?_eq_getElem hl]; exact h _ (List.getElem_mem hl)
  · rw [List.getElem?_eq_none (by omega)]; decide
theorem clrB_isB {l : List Nat} (h : IsB l) (i : Nat) : IsB (clrB l i) := by
  intro c hc
  unfold clrB at hc
  rcases List.mem_or_eq_of_mem_set hc with h1 | h1
  · exact h c h1
  · rw [h1]; exact Nat.lt_of_le_of_lt (Nat.sub_le _ _) (byte_lt h (i / 8))
theorem clrB_bit {l : List Nat} (h : IsB l) {i : Nat} (hi : bitAt l i = true) (hl : i / 8 < l.length) (k : Nat) : bitAt (clrB l i) k = if k = i then false else bitAt l k := by
  have hx := byte_lt h (i / 8)
  have hb : l.getD (i / 8) 0 / 2 ^ (i % 8) % 2 = 1 := by unfold bitAt at hi; exact beq_iff_eq.1 hi
  have q := (clr_bits (i % 8) (Nat.mod_lt _ (by decide)) _ hx hb).2 (k % 8) (Nat.mod_lt _ (by decide))
  unfold bitAt clrB
  rw [List.getD_eq_getElem?_getD, List.getElem?_set]
  by_cases e : i / 8 = k / 8
  · rw [if_pos e, if_pos hl]
    show ((l.getD (i / 8) 0 - 2 ^ (i % 8)) / 2 ^ (k % 8) % 2 == 1) = _
    rw [q, e]
    by_cases e2 : k = i
    · subst e2; simp
    · rw [if_neg e2, if_neg (by omega)]
  · rw [if_neg e, if_neg (by rintro rfl; exact e rfl), List.getD_eq_getElem?_getD]
theorem andnot_bit (x i : Nat) (hx : x < 256) (hb : x / 2 ^ (i % 8) % 2 = 1) : bits .andNot .u8 (x : Int) (IntKind.u8.wrap (2 ^ ((i : Int) % 8).toNat)) = ((x - 2 ^ (i % 8) : Nat) : Int) := by
  have hr : i % 8 < 8 := Nat.mod_lt _ (by decide)
  have h1 : 2 ^ (i % 8) < 256 := Nat.pow_lt_pow_of_lt (a := 2) (by decide) hr
  have h2 := u8_andNot_nat x (2 ^ (i % 8)) hx h1
  rw [(clr_bits (i % 8) hr x hx hb).1] at h2
  have e : IntKind.u8.wrap (2 ^ ((i : Int) % 8).toNat) = ((2 ^ (i % 8) : Nat) : Int) := by
    rw [show ((i : Int) % 8).toNat = i % 8 by omega, show ((2 : Int) ^ (i % 8)) = ((2 ^ (i % 8) : Nat) : Int) by simp]
    generalize 2 ^ (i % 8) = p at *
    rw [IntWalk.u8_in _ (by omega)]
  rw [e]; exact h2

set_option maxRecDepth 100000 in
set_option maxHeartbeats 800000 in
theorem clear_set {w : World} {g r n : Nat} {l : List Nat} (h : IsMap w g r n l) (i : Nat) (hi : i < n) (hb0 : bitAt l i = true) :
    Calls Try.prog 33 #[.pointer (some ⟨g, 0, none⟩), .int .i64 (i : Int)] w fun e w' => e = .returned (.bool true) ∧ IsMap w' g r n (clrB l i) ∧ w'.heap.size = w.heap.size ∧ w.grownBy w' (some r) ∧ ∀ B a, B ≤ r → Below B a w → Below B a w' := by
  have hm := h.len
  have hmax := h.max
  have hH := Lib.hid (has_in h i hi)
  rw [hb0] at hH
  have HI := Lib.hid h
  have HB0 := Lib.hid hb0
  go_enter Try.func33, Try.ntmps33
  go_wp2_with (go_at_call 13; refine (hH.out).mono ?_; rintro e w' ⟨rfl, rfl⟩)
  obtain ⟨b, off, hl, he, hb, hcell⟩ := h.seg.byte (k := i / 8) (by omega)
  injection he with he
  injection he with e1 e2
  subst e1 e2
  have h0 : w.cell? ⟨g, 0, none⟩ = some (.slice (some ⟨r, 0, none⟩) l.length l.length) := (h.box.cell 0).trans rfl
  have hbyte := h.isB.at_ hl
  have a7 := and7 i (by omega)
  have h8 : i / 8 < l.length := by omega
  rw [Nat.zero_add] at hcell
  have hfr : w.frozen? ⟨r, i / 8, none⟩ = false := h.row.frozen _
  have hx : l.getD (i / 8) 0 = l[i / 8] := by rw [List.getD_eq_getElem?_getD, List.getElem?_eq_getElem hl]; rfl
  have hbit : l[i / 8] / 2 ^ (i % 8) % 2 = 1 := by unfold bitAt at hb0; rw [hx] at hb0; exact beq_iff_eq.1 hb0
  have HOR := Lib.hid (andnot_bit l[i / 8] i hbyte hbit)
  have HX := Lib.hid hx
  have b1 : (0 : Int) ≤ (i : Int) / 8 := by omega
  have b2 : (i : Int) / 8 < (l.length : Int) := by omega
  have b3 : ((i : Int) / 8).toNat = i / 8 := by omega
  clear hx hm h hb0 hbit
  go_still_tail 13, (by kernel_rfl)
  change wpList _ _ _ _ _ w.drew
  rw [HOR.out]
  generalize hv : l[i / 8] - 2 ^ (i % 8) = v at *
  have HV := Lib.hid hv
  clear hv
  go_wp2_with fail
  go_ret
  have hst := (HI.out.stored (i / 8) v (by rw [← HV.out]; exact Nat.lt_of_le_of_lt (Nat.sub_le _ _) hbyte) (v : Int) rfl).drew
  refine ⟨rfl, ?_, by simp, ⟨rfl, rfl, rfl, by simp, fun k _ hk => Below.heap_setCell _ _ _ k (fun e => hk (congrArg some e))⟩, fun B a hB hb => below_store hB hb⟩
  unfold clrB
  rw [HX.out, HV.out]
  exact hst
theorem clear_no {w : World} {g r n : Nat} {l : List Nat} (h : IsMap w g r n l) (i : Int) (hi : (i < 0 ∨ (n : Int) ≤ i) ∨ ∃ k : Nat, i = (k : Int) ∧ k < n ∧ bitAt l k = false) :
    Calls Try.prog 33 #[.pointer (some ⟨g, 0, none⟩), .int .i64 i] w fun e w' => e = .returned (.bool false) ∧ w = w' := by
  have hH : Calls Try.prog 13 #[.pointer (some ⟨g, 0, none⟩), .int .i64 i] w fun e w' => e = .returned (.bool false) ∧ w = w' := by
    rcases hi with hi | ⟨k, rfl, hk, hb⟩
    · exact has_out h i hi
    · have := has_in h k hk
      rw [hb] at this
      exact this
  have HH := Lib.hid hH
  clear hH h hi
  go_enter Try.func33, Try.ntmps33
  go_wp2_with (go_at_call 13; refine (HH.out).mono ?_; rintro e w' ⟨rfl, rfl⟩)
  go_ret
  exact ⟨rfl, rfl⟩

set_option maxRecDepth 100000 in
set_option maxHeartbeats 1600000 in
/-- slices.Equal of numbers that are the same. -/
theorem eqints_true {w : World} {A A2 : Option Addr} {B B2 n c c2 : Nat} {l : List Nat} (h : Seg w B A n (ints l)) (h2 : Seg w B2 A2 n (ints l)) (hn : n ≤ 100000) :
    Calls Try.prog 54 #[.slice A n c, .slice A2 n c2] w fun e w' => e = .returned (.bool true) ∧ Below w.heap.size w w' := by
  have HS := Lib.hid h
  have HM := Lib.hid h2
  clear h h2
  go_enter Try.func54, Try.ntmps54
  go_wp2_with fail
  go_loopw [13] (fun i wr => ∃ k q : Nat, k ≤ n ∧ i = .int .i64 (k : Int) ∧ wr = w.drewN q) (fun i _ => n - (intOf i).toNat)
  case atStart => exact ⟨0, 0, by omega, rfl, rfl⟩
  case round =>
    obtain ⟨k, q, hk, rfl, rfl⟩ := hrel
    by_cases hlt : k < n
    · obtain ⟨b, off, u, rfl, _, hu, hc⟩ := HS.out.at_ hlt
      obtain ⟨b', off', u', rfl, _, hu', hc'⟩ := HM.out.at_ hlt
      rw [hu] at hu'
      injection hu' with hu'
      rw [← hu'] at hc'
      have hkl : k < l.length := by have := HS.out.1; rw [ints_len] at this; omega
      have hux : u = .int .i64 ((l[k] : Nat) : Int) := by
        rw [ints, List.getElem?_map, List.getElem?_eq_getElem hkl] at hu
        injection hu with hu
        exact hu.symm
      rw [hux] at hc hc'
      clear hu hu' hux
      generalize l[k] = x at *
      have s1 : ((x : Int) == (x : Int)) = true := by simp
      have s2 : ((x : Int) != (x : Int)) = false := by simp
      have b0 : (0 : Int) ≤ (k : Int) := by omega
      have b1 : (k : Int) < (n : Int) := by omega
      have b2 : ((k : Int)).toNat = k := by omega
      go_wp2_with fail
      go_quiet (fail)
      go_wp2_with fail
      go_roundw
      case rel => exact ⟨k + 1, q + nq, by omega, by go_num, by first | rfl | simp⟩
      case measure => simp [intOf]; omega
    · go_wp2_with fail
      go_ret
      exact ⟨rfl, Bdrew (Below.refl _ _) _⟩

/-- How many bits of a byte are set. -/
def pop (x : Nat) : Nat := x % 2 + x / 2 % 2 + x / 4 % 2 + x / 8 % 2 + x / 16 % 2 + x / 32 % 2 + x / 64 % 2 + x / 128 % 2
theorem pop_le (x : Nat) : pop x ≤ 8 := by unfold pop; omega
def cntB (L : List Nat) (k : Nat) : Nat := ((L.take k).map pop).sum
theorem cntB_succ {L : List Nat} {k : Nat} (h : k < L.length) : cntB L (k + 1) = cntB L k + pop L[k] := by
  unfold cntB; rw [List.take_succ_eq_append_getElem h, List.map_append, List.sum_append]; simp
theorem cntB_le (L : List Nat) (k : Nat) (h : k ≤ L.length) : cntB L k ≤ 8 * k := by
  induction k with
  | zero => simp [cntB]
  | succ k ih => rw [cntB_succ (by omega)]; have := pop_le L[k]; have := ih (by omega); omega
theorem setL_step (L : List Nat) (k : Nat) : (setL L (k + 1)).length = (setL L k).length + (L.getD (k / 8) 0 / 2 ^ (k % 8) % 2) := by
  have h2 : L.getD (k / 8) 0 / 2 ^ (k % 8) % 2 = 0 ∨ L.getD (k / 8) 0 / 2 ^ (k % 8) % 2 = 1 := by omega
  rcases h2 with h | h
  · rw [setL_no (by unfold bitAt; rw [h]; rfl), h]; omega
  · rw [setL_yes (by unfold bitAt; rw [h]; rfl), h]; simp
theorem setL_byte (L : List Nat) (j : Nat) (h : j < L.length) : (setL L (8 * (j + 1))).length = (setL L (8 * j)).length + pop L[j] := by
  have hx : L.getD j 0 = L[j] := by rw [List.getD_eq_getElem?_getD, List.getElem?_eq_getElem h]; rfl
  have e : ∀ r, r < 8 → (setL L (8 * j + r + 1)).length = (setL L (8 * j + r)).length + L[j] / 2 ^ r % 2 := fun r hr => by
    rw [setL_step, show (8 * j + r) / 8 = j by omega, show (8 * j + r) % 8 = r by omega, hx]
  have e0 := e 0 (by omega); have e1 := e 1 (by omega); have e2 := e 2 (by omega); have e3 := e 3 (by omega)
  have e4 := e 4 (by omega); have e5 := e 5 (by omega); have e6 := e 6 (by omega); have e7 := e 7 (by omega)
  simp only [Nat.add_zero, Nat.pow_zero, Nat.div_one, Nat.reducePow] at e0 e1 e2 e3 e4 e5 e6 e7
  rw [show 8 * (j + 1) = 8 * j + 7 + 1 by omega, e7, e6, e5, e4, e3, e2, e1, e0]
  unfold pop
  omega
theorem cntB_setL (L : List Nat) (k : Nat) (h : k ≤ L.length) : cntB L k = (setL L (8 * k)).length := by
  induction k with
  | zero => simp [cntB, setL]
  | succ k ih => rw [cntB_succ (by omega), setL_byte L k (by omega), ih (by omega)]
theorem setL_over (L : List Nat) (n m : Nat) (hnm : n ≤ m) (h : ∀ i, n ≤ i → bitAt L i = false) : setL L m = setL L n := by
  obtain ⟨d, rfl⟩ := Nat.le.dest hnm
  clear hnm
  induction d with
  | zero => rfl
  | succ d ih => rw [Nat.add_succ, setL_no (h (n + d) (by omega)), ih]

def tbl : ByteArray := ⟨((List.range 256).map fun x => UInt8.ofNat (pop x)).toArray⟩
theorem tbl_at (x : Nat) (hx : x < 256) (T : ByteArray) (hT : T = tbl) (h : x < T.size) : wrap64 (((T[x]'h).toNat : Nat) : Int) = ((pop x : Nat) : Int) := by
  subst hT
  have e : (tbl[x]'h) = UInt8.ofNat (pop x) := by
    show (((List.range 256).map fun x => UInt8.ofNat (pop x)).toArray)[x]'(by simpa using hx) = _
    simp
  have hp := pop_le x
  rw [e, show (UInt8.ofNat (pop x)).toNat = pop x by simp; omega]
  exact IntWalk.wrap64_in _ ⟨by omega, by omega⟩

set_option maxRecDepth 100000 in
set_option maxHeartbeats 800000 in
theorem ones_any (x : Nat) (hx : x < 256) (w : World) :
    Calls Try.prog 87 #[.int .u8 (x : Int)] w fun e w' => e = .returned (.int .i64 (pop x : Nat)) ∧ w = w' := by
  go_enter Try.func87, Try.ntmps87
  go_wp2
  go_ret
  exact ⟨congrArg (fun v => Ending.returned (.int .i64 v)) (tbl_at x hx _ (by kernel_rfl) _), rfl⟩

set_option maxHeartbeats 800000 in
/-- Count. -/
theorem count_any {w : World} {g r n : Nat} {l : List Nat} (h : IsMap w g r n l) :
    Calls Try.prog 56 #[.pointer (some ⟨g, 0, none⟩)] w fun e w' => e = .returned (.int .i64 (cntB l l.length : Nat)) ∧ w = w' := by
  have hm := h.len
  have hmax := h.max
  have h0 : w.cell? ⟨g, 0, none⟩ = some (.slice (some ⟨r, 0, none⟩) l.length l.length) := (h.box.cell 0).trans rfl
  have HS := Lib.hid h.seg
  have HB := Lib.hid h.isB
  have hl : l.length ≤ 1000 := by omega
  clear h hm
  generalize hml : l.length = m at *
  have HM := Lib.hid hml
  clear hml
  go_enter Try.func56, Try.ntmps56
  go_wp2_with fail
  go_loop [3, 11] (fun v iv => ∃ k : Nat, k ≤ m ∧ iv = .int .i64 (k : Int) ∧ v = .int .i64 ((cntB l k : Nat) : Int)) (fun _ iv => m - (intOf iv).toNat)
  case atStart => exact ⟨0, by omega, rfl, rfl⟩
  case round =>
    obtain ⟨k, hk, rfl, rfl⟩ := hrel
    by_cases hlt : k < m
    · obtain ⟨b, off, hkl, he, _, hc⟩ := HS.out.byte hlt
      injection he with he
      injection he with e1 e2
      subst e1 e2
      rw [Nat.zero_add] at hc
      have hx := HB.out.at_ hkl
      have HC := Lib.hid (cntB_succ hkl)
      have hcl := cntB_le l k (by omega)
      have hpl := pop_le l[k]
      have HO := Lib.hid (ones_any l[k] hx w)
      generalize l[k] = x at *
      generalize cntB l k = s at *
      generalize pop x = p at *
      go_wp2_with (go_at_call 87; refine (HO.out).mono ?_; rintro e w' ⟨rfl, rfl⟩)
      go_round
      case rel => exact ⟨k + 1, by omega, by go_num, by rw [HC.out]; go_num⟩
      case measure => simp [intOf]; omega
    · obtain rfl : k = m := by omega
      go_wp2_with fail
      go_ret
      exact ⟨rfl, rfl⟩
end Go.Proofs.Ytaagfmaboggbhaa.bit
