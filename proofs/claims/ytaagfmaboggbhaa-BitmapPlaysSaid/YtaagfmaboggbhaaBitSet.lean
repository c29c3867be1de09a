/-
  The walks of the bitmap's Set and Clear.
-/
import Derived.Test.YtaagfmaboggbhaaBit
import Derived.StillTailTactics
namespace Go.Proofs.Ytaagfmaboggbhaa.bit
open Go.RowKit
set_option linter.unusedVariables false

theorem set_bits : ∀ r < 8, ∀ x < 256, x / 2 ^ r % 2 = 0 → x ||| 2 ^ r = x + 2 ^ r ∧ x + 2 ^ r < 256 ∧ ∀ j < 8, (x + 2 ^ r) / 2 ^ j % 2 = if j = r then 1 else x / 2 ^ j % 2 := by decide +kernel
/-- Bytes with a bit set that wasn't. -/
def setB (l : List Nat) (i : Nat) : List Nat := l.set (i / 8) (l.getD (i / 8) 0 + 2 ^ (i % 8))
theorem setB_len (l : List Nat) (i : Nat) : (setB l i).length = l.length := by simp [setB]
theorem setB_isB {l : List Nat} (h : IsB l) {i : Nat} (hi : bitAt l i = false) (hl : i / 8 < l.length) : IsB (setB l i) := by
  intro c hc
  unfold setB at hc
  rcases List.mem_or_eq_of_mem_set hc with h1 | h1
  · exact h c h1
  · subst h1
    have hx : l.getD (i / 8) 0 < 256 := by
      rw [List.getD_eq_getElem?_getD, List.getElem?_eq_getElem hl]; exact h _ (List.getElem_mem hl)
    have hb : l.getD (i / 8) 0 / 2 ^ (i % 8) % 2 = 0 := by
      unfold bitAt at hi
      have := beq_eq_false_iff_ne.1 hi
      omega
    exact (set_bits (i % 8) (Nat.mod_lt _ (by decide)) _ hx hb).2.1
theorem setB_bit {l : List Nat} (h : IsB l) {i : Nat} (hi : bitAt l i = false) (hl : i / 8 < l.length) (k : Nat) : bitAt (setB l i) k = if k = i then true else bitAt l k := by
  have hx : l.getD (i / 8) 0 < 256 := by
    rw [List.getD_eq_getElem?_getD, List.getElem?_eq_getElem hl]; exact h _ (List.getElem_mem hl)
  have hb : l.getD (i / 8) 0 / 2 ^ (i % 8) % 2 = 0 := by
    unfold bitAt at hi
    have := beq_eq_false_iff_ne.1 hi
    omega
  have q := (set_bits (i % 8) (Nat.mod_lt _ (by decide)) _ hx hb).2.2 (k % 8) (Nat.mod_lt _ (by decide))
  unfold bitAt setB
  rw [List.getD_eq_getElem?_getD, List.getElem?_set]
  by_cases e : i / 8 = k / 8
  · rw [if_pos e, if_pos hl]
    show ((l.getD (i / 8) 0 + 2 ^ (i % 8)) / 2 ^ (k % 8) % 2 == 1) = _
    rw [q, e]
    by_cases e2 : k = i
    · subst e2; simp
    · rw [if_neg e2, if_neg (by omega)]
  · rw [if_neg e, if_neg (by rintro rfl; exact e rfl), List.getD_eq_getElem?_getD]

theorem or_bit (x i : Nat) (hx : x < 256) (hb : x / 2 ^ (i % 8) % 2 = 0) : bits .or .u8 (x : Int) (IntKind.u8.wrap (2 ^ ((i : Int) % 8).toNat)) = ((x + 2 ^ (i % 8) : Nat) : Int) := by
  have hr : i % 8 < 8 := Nat.mod_lt _ (by decide)
  have h1 : 2 ^ (i % 8) < 256 := Nat.pow_lt_pow_of_lt (a := 2) (by decide) hr
  have h2 := u8_or_nat x (2 ^ (i % 8)) hx h1
  rw [(set_bits (i % 8) hr x hx hb).1] at h2
  have e : IntKind.u8.wrap (2 ^ ((i : Int) % 8).toNat) = ((2 ^ (i % 8) : Nat) : Int) := by
    rw [show ((i : Int) % 8).toNat = i % 8 by omega, show ((2 : Int) ^ (i % 8)) = ((2 ^ (i % 8) : Nat) : Int) by simp]
    generalize 2 ^ (i % 8) = p at *
    rw [IntWalk.u8_in _ (by omega)]
  rw [e]; exact h2

/-- A byte stored. -/
theorem IsMap.stored {w : World} {g r n : Nat} {l : List Nat} (h : IsMap w g r n l) (k c : Nat) (hc : c < 256) (v : Int) (hv : v = (c : Int)) :
    IsMap (w.setCell ⟨r, k, none⟩ (.int .u8 v)) g r n (l.set k c) := by
  subst hv
  have h1 := h.row.set_ k (.int .u8 (c : Int))
  refine ⟨?_, ?_, fun d hd => ?_, by rw [List.length_set]; exact h.len, h.max⟩
  · rw [List.length_set]; exact h.box.far (p := ⟨r, k, none⟩) h.ne _
  · rw [bts_set]
    simpa using h1
  · rcases List.mem_or_eq_of_mem_set hd with h1 | h1
    · exact h.isB d h1
    · omega
theorem below_store {w a : World} {B r k : Nat} {v : Value} (hB : B ≤ r) (h : Below B a w) : Below B a (w.setCell ⟨r, k, none⟩ v).drew := (h.setCell (p := ⟨r, k, none⟩) hB v).drew

set_option maxRecDepth 100000 in
set_option maxHeartbeats 800000 in
theorem set_new {w : World} {g r n : Nat} {l : List Nat} (h : IsMap w g r n l) (i : Nat) (hi : i < n) (hb0 : bitAt l i = false) :
    Calls Try.prog 34 #[.pointer (some ⟨g, 0, none⟩), .int .i64 (i : Int)] w fun e w' => e = .returned (.bool true) ∧ IsMap w' g r n (setB l i) ∧ w'.heap.size = w.heap.size ∧ ∀ B a, B ≤ r → Below B a w → Below B a w' := by
  have hm := h.len
  have hmax := h.max
  have hI := Lib.hid (fun W (hW : IsMap W g r n l) => in_yes n i hW.box hi hW.max)
  have hH := Lib.hid (fun W (hW : IsMap W g r n l) => has_in hW i hi)
  rw [hb0] at hH
  have HI := Lib.hid h
  have HB0 := Lib.hid hb0
  go_enter Try.func34, Try.ntmps34
  go_wp2_with (first
    | (go_at_call 46; refine (hI.out _ HI.out).mono ?_; rintro e w' ⟨rfl, rfl⟩)
    | (go_at_call 13; refine (hH.out _ HI.out).mono ?_; rintro e w' ⟨rfl, rfl⟩))
  obtain ⟨b, off, hl, he, hb, hcell⟩ := h.seg.byte (k := i / 8) (by omega)
  injection he with he
  injection he with e1 e2
  subst e1 e2
  have h0 : w.cell? ⟨g, 0, none⟩ = some (.slice (some ⟨r, 0, none⟩) l.length l.length) := (h.box.cell 0).trans rfl
  have hbyte := h.isB.at_ hl
  have a7 := and7 i (by omega)
  have h8 : i / 8 < l.length := by omega
  rw [Nat.zero_add] at hcell
  have hfr : w.frozen? ⟨r, i / 8, none⟩ = false := h.row.frozen _
  have hx : l.getD (i / 8) 0 = l[i / 8] := by rw [List.getD_eq_getElem?_getD, List.getElem?_eq_getElem hl]; rfl
  have hor := or_bit l[i / 8] i hbyte (by
    unfold bitAt at hb0
    rw [hx] at hb0
    have := beq_eq_false_iff_ne.1 hb0
    omega)
  have HOR := Lib.hid hor
  have HX := Lib.hid hx
  have b1 : (0 : Int) ≤ (i : Int) / 8 := by omega
  have b2 : (i : Int) / 8 < (l.length : Int) := by omega
  have b3 : ((i : Int) / 8).toNat = i / 8 := by omega
  clear hor hx hm h hb0
  go_still_tail 13, (by kernel_rfl)
  change wpList _ _ _ _ _ w.drew
  rw [HOR.out]
  go_wp2_with fail
  go_ret
  have hlt : l[i / 8] + 2 ^ (i % 8) < 256 := by
    have h1 := HB0.out
    unfold bitAt at h1
    rw [HX.out] at h1
    have := beq_eq_false_iff_ne.1 h1
    exact (set_bits (i % 8) (Nat.mod_lt _ (by decide)) _ hbyte (by omega)).2.1
  refine ⟨rfl, ?_, by simp, fun B a hB hb => below_store hB hb⟩
  have := (HI.out.stored (i / 8) (l[i / 8] + 2 ^ (i % 8)) hlt (((l[i / 8] : Nat) : Int) + 2 ^ (i % 8)) (by simp)).drew
  unfold setB
  rw [HX.out]
  exact this

/-- Set where it is set, or where there is no block. -/
theorem set_old {w : World} {g r n : Nat} {l : List Nat} (h : IsMap w g r n l) (i : Nat) (hi : i < n) (hb0 : bitAt l i = true) :
    Calls Try.prog 34 #[.pointer (some ⟨g, 0, none⟩), .int .i64 (i : Int)] w fun e w' => e = .returned (.bool false) ∧ w = w' := by
  have hI := Lib.hid (in_yes n i h.box hi h.max)
  have hH := Lib.hid (has_in h i hi)
  rw [hb0] at hH
  clear h hb0
  go_enter Try.func34, Try.ntmps34
  go_wp2_with (first
    | (go_at_call 46; refine (hI.out).mono ?_; rintro e w' ⟨rfl, rfl⟩)
    | (go_at_call 13; refine (hH.out).mono ?_; rintro e w' ⟨rfl, rfl⟩))
  go_ret
  exact ⟨rfl, rfl⟩
theorem set_out {w : World} {g r n : Nat} {l : List Nat} (h : IsMap w g r n l) (i : Int) (hi : i < 0 ∨ (n : Int) ≤ i) :
    Calls Try.prog 34 #[.pointer (some ⟨g, 0, none⟩), .int .i64 i] w fun e w' => e = .returned (.bool false) ∧ w = w' := by
  have hI := Lib.hid (in_no n i h.box hi h.max)
  clear h hi
  go_enter Try.func34, Try.ntmps34
  go_wp2_with (go_at_call 46; refine (hI.out).mono ?_; rintro e w' ⟨rfl, rfl⟩)
  go_ret
  exact ⟨rfl, rfl⟩

set_option maxHeartbeats 1600000 in
/-- The chapter's example. -/
theorem alive_true (w : World) : Calls Try.prog 12 #[] w fun e w' => e = .returned (.bool true) ∧ Below w.heap.size w w' := by
  have HN := Lib.hid (new_ok 9 (by decide) w)
  go_enter Try.func12, Try.ntmps12
  go_wp2_with fail
  refine (HN.out).mono ?_
  rintro e w1 ⟨g, r, rfl, hm, hg, hr, hb⟩
  have HM := Lib.hid hm
  have HB := Lib.hid hb
  have HR := Lib.hid hr
  clear hm hb hg hr
  go_wp2_with fail
  refine (set_new HM.out 0 (by decide) rfl).mono ?_
  rintro e w2 ⟨rfl, hm, hs, hb⟩
  have HB2 := Lib.hid (hb _ w HR.out HB.out)
  have HM2 := Lib.hid hm
  clear hm hs hb
  go_wp2_with fail
  refine (set_new HM2.out 8 (by decide) (by decide)).mono ?_
  rintro e w3 ⟨rfl, hm, hs, hb⟩
  have HB3 := Lib.hid (hb _ w HR.out HB2.out)
  have HM3 := Lib.hid hm
  clear hm hs hb
  go_wp2_with fail
  refine (set_out HM3.out 9 (by decide)).mono ?_
  rintro e w4 ⟨rfl, rfl⟩
  go_wp2_with fail
  refine (bytes_any HM3.out).mono ?_
  rintro e w5 ⟨A, c, rfl, hown, hb⟩
  have HO := Lib.hid hown
  have HB5 := Lib.hid (nextB HB3.out (Nat.le_refl _) hb)
  have HM5 := Lib.hid (HM3.out.below hb)
  clear hown hb
  go_wp2_with fail
  refine (equal_any c 2 ((HO.out.alloc _).seg) (Seg.lit [1, 1] rfl 5) HM3.out.isB (by unfold IsB; decide)).mono ?_
  rintro e w6 ⟨rfl, rfl⟩
  rw [show decide (setB (setB (List.replicate ((9 + 7) / 8) 0) 0) 8 = [1, 1]) = true by decide]
  go_wp2_with fail
  refine (len_any 9 (HM5.out.alloc _).box).mono ?_
  rintro e w7 ⟨rfl, rfl⟩
  go_wp2_with fail
  go_ret
  exact ⟨rfl, HB5.out.alloc HB5.out.size _⟩
end Go.Proofs.Ytaagfmaboggbhaa.bit
