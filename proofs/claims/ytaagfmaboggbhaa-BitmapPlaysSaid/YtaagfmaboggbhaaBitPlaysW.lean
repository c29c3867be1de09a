/-
  The walk of the law BitmapPlays, its loop.
-/
import Derived.Test.YtaagfmaboggbhaaBitPlays0
namespace Go.Proofs.Ytaagfmaboggbhaa.bit
open Go.RowKit Go.ChangeShapes Go.WideShapes Go.ChangeAt
set_option linter.unusedVariables false

/-- The law's own row beside the map. -/
structure Beside (w : World) (g r rl n : Nat) (L : List Nat) (F : List Bool) : Prop where
  map : IsMap w g r n L
  row : Box w rl 4 (bls F).toArray
  len : F.length = n
  same : ∀ i, i < n → fL F i = bitAt L i
  rest : ∀ i, n ≤ i → bitAt L i = false
theorem box_ne {w : World} {g g' : Nat} {t t' : TypeId} {cs cs' : Array Value} (h1 : Box w g t cs) (h2 : Box w g' t' cs') (hne : t ≠ t') : g ≠ g' := by
  rintro rfl
  unfold Box at h1 h2
  rw [h1] at h2
  injection h2 with h2
  injection h2 with _ h3
  exact hne h3
section
variable {w w' : World} {g r rl n : Nat} {L : List Nat} {F : List Bool}
theorem Beside.below (h : Beside w g r rl n L F) (hb : Below w.heap.size w w') : Beside w' g r rl n L F := ⟨h.map.below hb, h.row.below hb h.row.lt, h.len, h.same, h.rest⟩
theorem Beside.drewN (h : Beside w g r rl n L F) (k : Nat) : Beside (w.drewN k) g r rl n L F := ⟨h.map.drewN k, h.row, h.len, h.same, h.rest⟩
theorem Beside.drew (h : Beside w g r rl n L F) : Beside w.drew g r rl n L F := ⟨h.map.drew, h.row, h.len, h.same, h.rest⟩
theorem Beside.seg (h : Beside w g r rl n L F) : Seg w w.heap.size (some ⟨rl, 0, none⟩) n (bls F) := by
  have := Seg.block (w := w) (B := w.heap.size) h.row h.row.lt
  simpa [bls_len, h.len] using this
theorem Beside.told (h : Beside w g r rl n L F) (c : Nat) (q : Int) (a0 : -9223372036854775808 ≤ q) (a1 : q ≤ 9223372036854775807) :
    Calls Try.prog 35 #[.pointer (some ⟨g, 0, none⟩), .slice (some ⟨rl, 0, none⟩) n c, .int .i64 q] w fun e w' => e = .returned (.bool true) ∧ Below w.heap.size w w' :=
  told_true h.map h.rest h.seg h.same q a0 a1
theorem Beside.cell (h : Beside w g r rl n L F) {i : Nat} (hi : i < n) : w.cell? ⟨rl, i, none⟩ = some (.bool (bitAt L i)) := by
  have hl : i < F.length := by rw [h.len]; exact hi
  rw [h.row.cell i, ← h.same i hi, fL_at hl]
  simp [bls, hl]
theorem grown_refl (w : World) (row : Option Nat) : w.grownBy w row := ⟨rfl, rfl, rfl, Nat.le_refl _, fun _ _ _ => rfl⟩
/-- The map has changed at a bit; the row is still as it was. -/
structure Apart (w : World) (g r rl n i : Nat) (v : Bool) (L L' : List Nat) (F : List Bool) : Prop where
  map : IsMap w g r n L'
  row : Box w rl 4 (bls F).toArray
  len : F.length = n
  same : ∀ i, i < n → fL F i = bitAt L i
  rest : ∀ i, n ≤ i → bitAt L i = false
  bit : ∀ k, bitAt L' k = if k = i then v else bitAt L k
theorem Beside.off (h : Beside w g r rl n L F) {i : Nat} {v : Bool} {L' : List Nat} (hg : w.grownBy w' (some r)) (hm : IsMap w' g r n L') (hb : ∀ k, bitAt L' k = if k = i then v else bitAt L k) : Apart w' g r rl n i v L L' F :=
  ⟨hm, h.row.grown hg (fun e => box_ne h.row h.map.row (by decide) (by injection e)), h.len, h.same, h.rest, hb⟩
theorem Beside.on (h : Beside w g r rl n L F) {i : Nat} {v : Bool} (hv : bitAt L i = v) : Apart w g r rl n i v L L F :=
  ⟨h.map, h.row, h.len, h.same, h.rest, fun k => by
    by_cases e : k = i
    · rw [if_pos e, e, hv]
    · rw [if_neg e]⟩
theorem Apart.cell {i : Nat} {v : Bool} {L' : List Nat} (h : Apart w g r rl n i v L L' F) (hi : i < n) : w.cell? ⟨rl, i, none⟩ = some (.bool (bitAt L i)) := by
  have hl : i < F.length := by rw [h.len]; exact hi
  rw [h.row.cell i, ← h.same i hi, fL_at hl]
  simp [bls, hl]
theorem Apart.frozen {i : Nat} {v : Bool} {L' : List Nat} (h : Apart w g r rl n i v L L' F) : w.frozen? ⟨rl, i, none⟩ = false := h.row.frozen i
theorem Apart.drewN {i : Nat} {v : Bool} {L' : List Nat} (h : Apart w g r rl n i v L L' F) (k : Nat) : Apart (w.drewN k) g r rl n i v L L' F := ⟨h.map.drewN k, h.row, h.len, h.same, h.rest, h.bit⟩
theorem Apart.put {i : Nat} {v : Bool} {L' : List Nat} (h : Apart w g r rl n i v L L' F) (hi : i < n) : Beside (w.setCell ⟨rl, i, none⟩ (.bool v)) g r rl n L' (F.set i v) := by
  have n1 : g ≠ rl := box_ne h.map.box h.row (by decide)
  have n2 : r ≠ rl := box_ne h.map.row h.row (by decide)
  refine ⟨⟨h.map.box.far (p := ⟨rl, i, none⟩) n1 _, h.map.row.far (p := ⟨rl, i, none⟩) n2 _, h.map.isB, h.map.len, h.map.max⟩, ?_, by rw [List.length_set]; exact h.len, fun k hk => ?_, fun k hk => ?_⟩
  · have := h.row.set_ i (.bool v)
    have e : (bls (F.set i v)).toArray = (bls F).toArray.setIfInBounds i (.bool v) := by simp [bls, List.map_set]
    rw [e]; exact this
  · have hl : k < (F.set i v).length := by rw [List.length_set, h.len]; exact hk
    rw [fL_at hl, List.getElem_set, h.bit k]
    by_cases e : i = k
    · subst e; simp
    · rw [if_neg e, if_neg (fun x => e x.symm), ← h.same k hk, fL_at]
  · rw [h.bit k, if_neg (by omega)]; exact h.rest k hk
end

set_option maxRecDepth 100000 in
set_option maxHeartbeats 12800000 in
theorem plays_walk {A : Option Addr} {m c n : Nat} {P : List (Int × Int)} (w : World) (hP : PSeg w w.heap.size A m P) (hn : n ≤ 70) (hm : m ≤ 60) :
    Calls Try.prog 8 #[.int .i64 (n : Int), .slice A m c] w fun e w' => e = .returned (.bool true) ∧ Below w.heap.size w w' := by
  have HN := Lib.hid (new_ok n (by omega) w)
  have HP := Lib.hid hP
  have hmk := fun W => run_mk elemL rfl n (by omega) (by omega) W
  have t1 : decide ((4096 : Int) < (n : Int)) = false := decide_eq_false (by omega)
  have t2 : decide ((70 : Int) < (n : Int)) = false := decide_eq_false (by omega)
  have t3 : decide ((60 : Int) < (m : Int)) = false := decide_eq_false (by omega)
  have s1 : ((n : Int) != (n : Int)) = false := by simp
  clear hP
  go_enter Try.func8, Try.ntmps8
  go_wp2_with fail
  refine (HN.out).mono ?_
  rintro e w1 ⟨g, r, rfl, him, hg, hr, hb⟩
  have HM := Lib.hid him
  have HR := Lib.hid hr
  have HB1 := Lib.hid hb
  clear him hg hr hb HN
  go_wp2_with fail
  refine (len_any n HM.out.box).mono ?_
  rintro e w2 ⟨rfl, rfl⟩
  go_wp2_with fail
  clear hmk
  have HS0 := Lib.hid (show Beside (w1.alloc (.cells (made (.bool false) n) 4)) g r w1.heap.size n (List.replicate ((n + 7) / 8) 0) (List.replicate n false) from ⟨HM.out.alloc _, by
    have := Box.new w1 (made (.bool false) n) 4
    rwa [show made (.bool false) n = (bls (List.replicate n false)).toArray by apply Array.ext'; rw [made_list]; simp [bls]] at this ⊢, by simp, fun i hi => by rw [bitAt_rep, fL_at (by simpa using hi)]; simp, fun i _ => bitAt_rep _ i⟩)
  have HB0 := Lib.hid (HB1.out.alloc HB1.out.size (.cells (made (.bool false) n) 4))
  have HRL := Lib.hid (HB1.out.size)
  clear HM HB1
  generalize hw2 : w1.alloc (.cells (made (.bool false) n) 4) = w2 at *
  clear hw2
  generalize w1.heap.size = rl at *
  go_loopw [8] (fun iv wr => ∃ k : Nat, ∃ L F, k ≤ m ∧ iv = .int .i64 (k : Int) ∧ Beside wr g r rl n L F ∧ Below w.heap.size w wr) (fun iv _ => m - (intOf iv).toNat)
  case atStart => exact ⟨0, _, _, by omega, rfl, HS0.out, HB0.out⟩
  case round =>
    obtain ⟨k, L, F, hk, rfl, hS, hB⟩ := hrel
    have HS := Lib.hid hS
    have HB := Lib.hid hB
    clear hS hB HS0 HB0
    by_cases hlt : k < m
    · obtain ⟨be, off, hkl, rfl, hbe, hc0, hc1, qa, qb⟩ := HP.out.at_ HB.out hlt
      have i0 : (0 : Int) ≤ (k : Int) := by omega
      have i1 : (k : Int) < (m : Int) := by omega
      have i2 : ((k : Int)).toNat = k := by omega
      have HAT := Lib.hid (fun (W : World) (h : Below w.heap.size w W) => HP.out.at_ h hlt)
      generalize hpk : P[k] = p at *
      have HPK := Lib.hid hpk
      clear hpk
      obtain ⟨d, q⟩ := p
      simp only at hc0 hc1 qa qb
      by_cases hd : d = 2
      · subst hd
        by_cases q0 : q < 0
        · have p0 : decide ((0 : Int) ≤ q) = false := decide_eq_false (by omega)
          have HC := Lib.hid (clear_no HS.out.map q (.inl (by omega)))
          have HT := HS
          have HBT := HB
          go_wp2_with fail
          refine (HC.out).mono ?_
          rintro e w4 ⟨rfl, rfl⟩
          go_wp2_with fail
          refine (HT.out.told n q qa qb).mono ?_
          rintro e w5 ⟨rfl, hb5⟩
          have HT5 := Lib.hid (HT.out.below hb5)
          have HB5 := Lib.hid (nextB HBT.out (by first | exact Nat.le_refl _ | exact HBT.out.size) hb5)
          clear hb5
          go_wp2_with fail
          go_roundw
          case rel => exact ⟨k + 1, _, _, by omega, by go_num, HT5.out, HB5.out⟩
          case measure => simp [intOf]; omega
        · by_cases q1 : (n : Int) ≤ q
          · have p0 : decide ((0 : Int) ≤ q) = true := decide_eq_true (by omega)
            have p1 : decide (q < (n : Int)) = false := decide_eq_false (by omega)
            have HC := Lib.hid (clear_no HS.out.map q (.inl (by omega)))
            have HT := HS
            have HBT := HB
            go_wp2_with fail
            refine (HC.out).mono ?_
            rintro e w4 ⟨rfl, rfl⟩
            go_wp2_with fail
            refine (HT.out.told n q qa qb).mono ?_
            rintro e w5 ⟨rfl, hb5⟩
            have HT5 := Lib.hid (HT.out.below hb5)
            have HB5 := Lib.hid (nextB HBT.out (by first | exact Nat.le_refl _ | exact HBT.out.size) hb5)
            clear hb5
            go_wp2_with fail
            go_roundw
            case rel => exact ⟨k + 1, _, _, by omega, by go_num, HT5.out, HB5.out⟩
            case measure => simp [intOf]; omega
          · obtain ⟨z, rfl⟩ := Int.eq_ofNat_of_zero_le (by omega : 0 ≤ q)
            have hzn : z < n := by omega
            cases hbit : bitAt L z with
            | false =>
              have p0 : decide ((0 : Int) ≤ (z : Int)) = true := decide_eq_true (by omega)
              have p1 : decide ((z : Int) < (n : Int)) = true := decide_eq_true (by omega)
              have z0 : (0 : Int) ≤ (z : Int) := by omega
              have z1 : (z : Int) < (n : Int) := by omega
              have z2 : ((z : Int)).toNat = z := by omega
              have hl0 := HS.out.cell hzn
              rw [hbit] at hl0
              have HC := Lib.hid (clear_no HS.out.map (z : Int) (.inr ⟨z, rfl, hzn, hbit⟩))
              have HX := Lib.hid (HS.out.on hbit)
              have HB4 := HB
              clear hbit
              go_wp2_with fail
              refine (HC.out).mono ?_
              rintro e w4 ⟨rfl, rfl⟩
              have hfr := HX.out.frozen
              go_wp2_with fail
              have HT := Lib.hid (HX.out.put hzn)
              have HBT := Lib.hid (HB4.out.setCell (p := ⟨rl, z, none⟩) HRL.out (.bool false))
              clear HX HB4
              refine (HT.out.told n z qa qb).mono ?_
              rintro e w5 ⟨rfl, hb5⟩
              have HT5 := Lib.hid (HT.out.below hb5)
              have HB5 := Lib.hid (nextB HBT.out (by first | exact Nat.le_refl _ | exact HBT.out.size) hb5)
              clear hb5
              go_wp2_with fail
              go_roundw
              case rel => exact ⟨k + 1, _, _, by omega, by go_num, HT5.out, HB5.out⟩
              case measure => simp [intOf]; omega
            | true =>
              have p0 : decide ((0 : Int) ≤ (z : Int)) = true := decide_eq_true (by omega)
              have p1 : decide ((z : Int) < (n : Int)) = true := decide_eq_true (by omega)
              have z0 : (0 : Int) ≤ (z : Int) := by omega
              have z1 : (z : Int) < (n : Int) := by omega
              have z2 : ((z : Int)).toNat = z := by omega
              have hl0 := HS.out.cell hzn
              rw [hbit] at hl0
              have HC := Lib.hid (clear_set HS.out.map z hzn hbit)
              have HBF := Lib.hid (clrB_bit HS.out.map.isB hbit (by have := HS.out.map.len; omega))
              have HBIT := Lib.hid hbit
              clear hbit
              go_wp2_with fail
              refine (HC.out).mono ?_
              rintro e w4 ⟨rfl, hmap, _, hg, hbl⟩
              have HX := Lib.hid (HS.out.off hg hmap HBF.out)
              have HB4 := Lib.hid (hbl _ w HR.out HB.out)
              clear hmap hg hbl hl0 hc0 hc1
              have hl0 := HX.out.cell hzn
              rw [HBIT.out] at hl0
              obtain ⟨be', off', hkl', he', hbe', hc0, hc1, _, _⟩ := HAT.out _ HB4.out
              injection he' with he'
              injection he' with e1 e2
              subst e1 e2
              rw [HPK.out] at hc0 hc1
              simp only at hc0 hc1
              have hfr := HX.out.frozen
              go_wp2_with fail
              have HT := Lib.hid (HX.out.put hzn)
              have HBT := Lib.hid (HB4.out.setCell (p := ⟨rl, z, none⟩) HRL.out (.bool false))
              clear HX HB4
              refine (HT.out.told n z qa qb).mono ?_
              rintro e w5 ⟨rfl, hb5⟩
              have HT5 := Lib.hid (HT.out.below hb5)
              have HB5 := Lib.hid (nextB HBT.out (by first | exact Nat.le_refl _ | exact HBT.out.size) hb5)
              clear hb5
              go_wp2_with fail
              go_roundw
              case rel => exact ⟨k + 1, _, _, by omega, by go_num, HT5.out, HB5.out⟩
              case measure => simp [intOf]; omega
      · have d1 : (d == 2) = false := beq_eq_false_iff_ne.2 hd
        have d2 : (d != 2) = true := by simp [hd]
        by_cases q0 : q < 0
        · have p0 : decide ((0 : Int) ≤ q) = false := decide_eq_false (by omega)
          have HC := Lib.hid (set_out HS.out.map q (by omega))
          have HT := HS
          have HBT := HB
          go_wp2_with fail
          refine (HC.out).mono ?_
          rintro e w4 ⟨rfl, rfl⟩
          go_wp2_with fail
          refine (HT.out.told n q qa qb).mono ?_
          rintro e w5 ⟨rfl, hb5⟩
          have HT5 := Lib.hid (HT.out.below hb5)
          have HB5 := Lib.hid (nextB HBT.out (by first | exact Nat.le_refl _ | exact HBT.out.size) hb5)
          clear hb5
          go_wp2_with fail
          go_roundw
          case rel => exact ⟨k + 1, _, _, by omega, by go_num, HT5.out, HB5.out⟩
          case measure => simp [intOf]; omega
        · by_cases q1 : (n : Int) ≤ q
          · have p0 : decide ((0 : Int) ≤ q) = true := decide_eq_true (by omega)
            have p1 : decide (q < (n : Int)) = false := decide_eq_false (by omega)
            have HC := Lib.hid (set_out HS.out.map q (by omega))
            have HT := HS
            have HBT := HB
            go_wp2_with fail
            refine (HC.out).mono ?_
            rintro e w4 ⟨rfl, rfl⟩
            go_wp2_with fail
            refine (HT.out.told n q qa qb).mono ?_
            rintro e w5 ⟨rfl, hb5⟩
            have HT5 := Lib.hid (HT.out.below hb5)
            have HB5 := Lib.hid (nextB HBT.out (by first | exact Nat.le_refl _ | exact HBT.out.size) hb5)
            clear hb5
            go_wp2_with fail
            go_roundw
            case rel => exact ⟨k + 1, _, _, by omega, by go_num, HT5.out, HB5.out⟩
            case measure => simp [intOf]; omega
          · obtain ⟨z, rfl⟩ := Int.eq_ofNat_of_zero_le (by omega : 0 ≤ q)
            have hzn : z < n := by omega
            cases hbit : bitAt L z with
            | false =>
              have p0 : decide ((0 : Int) ≤ (z : Int)) = true := decide_eq_true (by omega)
              have p1 : decide ((z : Int) < (n : Int)) = true := decide_eq_true (by omega)
              have z0 : (0 : Int) ≤ (z : Int) := by omega
              have z1 : (z : Int) < (n : Int) := by omega
              have z2 : ((z : Int)).toNat = z := by omega
              have hl0 := HS.out.cell hzn
              rw [hbit] at hl0
              have HC := Lib.hid (set_new2 HS.out.map z hzn hbit)
              have HBF := Lib.hid (setB_bit HS.out.map.isB hbit (by have := HS.out.map.len; omega))
              have HBIT := Lib.hid hbit
              clear hbit
              go_wp2_with fail
              refine (HC.out).mono ?_
              rintro e w4 ⟨rfl, hmap, hg, hbl⟩
              have HX := Lib.hid (HS.out.off hg hmap HBF.out)
              have HB4 := Lib.hid (hbl _ w HR.out HB.out)
              clear hmap hg hbl hl0 hc0 hc1
              have hl0 := HX.out.cell hzn
              rw [HBIT.out] at hl0
              obtain ⟨be', off', hkl', he', hbe', hc0, hc1, _, _⟩ := HAT.out _ HB4.out
              injection he' with he'
              injection he' with e1 e2
              subst e1 e2
              rw [HPK.out] at hc0 hc1
              simp only at hc0 hc1
              have hfr := HX.out.frozen
              go_wp2_with fail
              have HT := Lib.hid (HX.out.put hzn)
              have HBT := Lib.hid (HB4.out.setCell (p := ⟨rl, z, none⟩) HRL.out (.bool true))
              clear HX HB4
              refine (HT.out.told n z qa qb).mono ?_
              rintro e w5 ⟨rfl, hb5⟩
              have HT5 := Lib.hid (HT.out.below hb5)
              have HB5 := Lib.hid (nextB HBT.out (by first | exact Nat.le_refl _ | exact HBT.out.size) hb5)
              clear hb5
              go_wp2_with fail
              go_roundw
              case rel => exact ⟨k + 1, _, _, by omega, by go_num, HT5.out, HB5.out⟩
              case measure => simp [intOf]; omega
            | true =>
              have p0 : decide ((0 : Int) ≤ (z : Int)) = true := decide_eq_true (by omega)
              have p1 : decide ((z : Int) < (n : Int)) = true := decide_eq_true (by omega)
              have z0 : (0 : Int) ≤ (z : Int) := by omega
              have z1 : (z : Int) < (n : Int) := by omega
              have z2 : ((z : Int)).toNat = z := by omega
              have hl0 := HS.out.cell hzn
              rw [hbit] at hl0
              have HC := Lib.hid (set_old HS.out.map z hzn hbit)
              have HX := Lib.hid (HS.out.on hbit)
              have HB4 := HB
              clear hbit
              go_wp2_with fail
              refine (HC.out).mono ?_
              rintro e w4 ⟨rfl, rfl⟩
              have hfr := HX.out.frozen
              go_wp2_with fail
              have HT := Lib.hid (HX.out.put hzn)
              have HBT := Lib.hid (HB4.out.setCell (p := ⟨rl, z, none⟩) HRL.out (.bool true))
              clear HX HB4
              refine (HT.out.told n z qa qb).mono ?_
              rintro e w5 ⟨rfl, hb5⟩
              have HT5 := Lib.hid (HT.out.below hb5)
              have HB5 := Lib.hid (nextB HBT.out (by first | exact Nat.le_refl _ | exact HBT.out.size) hb5)
              clear hb5
              go_wp2_with fail
              go_roundw
              case rel => exact ⟨k + 1, _, _, by omega, by go_num, HT5.out, HB5.out⟩
              case measure => simp [intOf]; omega
    · go_wp2_with fail
      refine (alive_true _).mono ?_
      rintro e w5 ⟨rfl, hb⟩
      go_wp2_with fail
      go_ret
      exact ⟨rfl, nextB HB.out (Nat.le_refl _) hb⟩

set_option maxRecDepth 100000 in
theorem plays_main {H : Type} {enc : TypeId × Value → H} {base : Nat} (W : World) {v0 v1 : Value} {d0 d1 : DataW H} {p0 p1 : List MemPlace}
    (h0 : DataW.Trod enc Try.prog W 0 (fun _ => true) true 3 v0 d0 p0) (k0 : Value.okWide Try.prog W .any base 3 v0)
    (h1 : DataW.Trod enc Try.prog W 0 (fun _ => true) true 55 v1 d1 p1) (k1 : Value.okWide Try.prog W .any base 55 v1) :
    Calls Try.prog 8 #[v0, v1] W fun e W' => e = .returned (.bool true) ∧ Below W.heap.size W W' := by
  obtain ⟨q, rfl, rfl, rfl, w1⟩ := open_int Try.underlying3 k0 h0
  obtain ⟨A, m, c, P, rfl, hmc, hc, hP⟩ := open_ops h1 k1
  by_cases c1 : q < 0 ∨ 4096 < q
  · exact plays_none q W c1
  obtain ⟨n, rfl⟩ := Int.eq_ofNat_of_zero_le (by omega : 0 ≤ q)
  by_cases c2 : 70 < n
  · exact plays_many n W (by omega) (.inl c2)
  by_cases c3 : 60 < m
  · exact plays_many n W (by omega) (.inr ⟨by omega, c3⟩)
  exact plays_walk W hP (by omega) (by omega)
end Go.Proofs.Ytaagfmaboggbhaa.bit
