/-
  The walk of catalog.Right.
-/
import Derived.Test.YtaagfmaboggbhaaCatMks
namespace Go.Proofs.Ytaagfmaboggbhaa.cat
open Go.RowKit
set_option linter.unusedVariables false

def KeptAt (l : List Nat) (k : Nat) : Prop := ∀ h : k < l.length, 0 < k → l[k - 1] < l[k]
set_option maxRecDepth 100000 in
set_option maxHeartbeats 6400000 in
theorem right_any {w : World} {c : Cat} (h : CatOk w w.heap.size c) (hs : c.Short) :
    Calls Try.prog 39 #[c.val] w fun e w' => Says e (RightC c) ∧ Below w.heap.size w w' := by
  have hk := h.k
  have ht := h.t
  have hkn := hs.2.2.2.1
  have htn := hs.2.2.2.2.1
  have HSH := Lib.hid hs
  have HOK := Lib.hid (show RightC c ↔ ((0 ≤ c.nv ∧ c.nv ≤ 65535) ∧ (0 ≤ c.ng ∧ c.ng ≤ 65535) ∧ (0 ≤ c.nb ∧ c.nb ≤ 65535) ∧ ((∀ k, KeptAt c.k k) ∧ c.k.length ≤ 32) ∧ VolsOk c ∧ MarksOk c ∧ TimesOk c.t) from Iff.rfl)
  have HC := Lib.hid h
  clear h hs
  obtain ⟨nv, ng, nb, fl, vA, vn, vc, v, gA, gn, gc, g, bA, bn, bc, b, kA, kn, kc, kl, tA, tn, tc, t⟩ := c
  simp only at hk ht hkn htn
  generalize hVO : RightC _ = VO at *
  clear hVO
  have HK := Lib.hid hk
  have HT := Lib.hid ht
  have HLK := Lib.hid (show kl.length = kn by have := hk.1; rwa [us_len] at this)
  have HW0 := Lib.hid ((Below.refl w.heap.size w).alloc (Nat.le_refl _) (.cells #[.int .i64 nv, .int .i64 ng, .int .i64 nb, .int .u64 (fl : Int), .slice vA vn vc, .slice gA gn gc, .slice bA bn bc, .slice kA kn kc, .slice tA tn tc] 68))
  have HB0 := Lib.hid (Box.new w #[.int .i64 nv, .int .i64 ng, .int .i64 nb, .int .u64 (fl : Int), .slice vA vn vc, .slice gA gn gc, .slice bA bn bc, .slice kA kn kc, .slice tA tn tc] 68)
  have HS0 := Lib.hid (show (w.alloc (.cells #[.int .i64 nv, .int .i64 ng, .int .i64 nb, .int .u64 (fl : Int), .slice vA vn vc, .slice gA gn gc, .slice bA bn bc, .slice kA kn kc, .slice tA tn tc] 68)).heap.size = w.heap.size + 1 by simp)
  clear hk ht
  unfold Cat.val Cat.cells
  go_enter Try.func39, Try.ntmps39
  go_wp2_with fail
  generalize hwA : w.alloc (.cells #[.int .i64 nv, .int .i64 ng, .int .i64 nb, .int .u64 (fl : Int), .slice vA vn vc, .slice gA gn gc, .slice bA bn bc, .slice kA kn kc, .slice tA tn tc] 68) = wA at *
  clear hwA
  have hA1 : wA.heap.size = w.heap.size + 1 := HS0.out
  have HCA := Lib.hid ((HC.out.below HW0.out).more (by omega : w.heap.size ≤ wA.heap.size))
  have hix0 : (Instr.index 97 (.agg #[.int .i64 nv, .int .i64 ng, .int .i64 nb]) (.int .i64 0)).run Try.prog wA = .ok (.int .i64 nv) wA := by kernel_rfl
  have hix1 : (Instr.index 97 (.agg #[.int .i64 nv, .int .i64 ng, .int .i64 nb]) (.int .i64 1)).run Try.prog wA = .ok (.int .i64 ng) wA := by kernel_rfl
  have hix2 : (Instr.index 97 (.agg #[.int .i64 nv, .int .i64 ng, .int .i64 nb]) (.int .i64 2)).run Try.prog wA = .ok (.int .i64 nb) wA := by kernel_rfl
  have m7 : wA.cell? ⟨w.heap.size, 7, none⟩ = some (.slice kA kn kc) := (HB0.out.cell 7).trans rfl
  go_loop [14] (fun iv => ∃ k : Nat, k ≤ 3 ∧ iv = .int .i64 (k : Int) ∧ (0 < k → 0 ≤ nv ∧ nv ≤ 65535) ∧ (1 < k → 0 ≤ ng ∧ ng ≤ 65535) ∧ (2 < k → 0 ≤ nb ∧ nb ≤ 65535)) (fun iv => 3 - (intOf iv).toNat)
  case atStart => exact ⟨0, by omega, rfl, fun h => absurd h (by omega), fun h => absurd h (by omega), fun h => absurd h (by omega)⟩
  case round =>
    obtain ⟨k, hk, rfl, r1, r2, r3⟩ := hrel
    have R1 := Lib.hid r1
    have R2 := Lib.hid r2
    have R3 := Lib.hid r3
    clear r1 r2 r3
    rcases (by omega : k = 0 ∨ k = 1 ∨ k = 2 ∨ k = 3) with rfl | rfl | rfl | rfl
    · by_cases c1 : nv < 0
      · go_wp2_with fail
        go_ret
        exact ⟨says_no (fun h => by have h5 := (HOK.out.1 h).1.1; (try simp only at h5); omega), HW0.out⟩
      · by_cases c2 : 65535 < nv
        · go_wp2_with fail
          go_ret
          exact ⟨says_no (fun h => by have h5 := (HOK.out.1 h).1.2; (try simp only at h5); omega), HW0.out⟩
        · go_wp2_with fail
          go_round
          case rel => exact ⟨1, by omega, rfl, fun _ => ⟨by omega, by omega⟩, fun h => absurd h (by omega), fun h => absurd h (by omega)⟩
          case measure => simp [intOf]
    · by_cases c1 : ng < 0
      · go_wp2_with fail
        go_ret
        exact ⟨says_no (fun h => by have h5 := (HOK.out.1 h).2.1.1; (try simp only at h5); omega), HW0.out⟩
      · by_cases c2 : 65535 < ng
        · go_wp2_with fail
          go_ret
          exact ⟨says_no (fun h => by have h5 := (HOK.out.1 h).2.1.2; (try simp only at h5); omega), HW0.out⟩
        · go_wp2_with fail
          go_round
          case rel => exact ⟨2, by omega, rfl, fun _ => R1.out (by omega), fun _ => ⟨by omega, by omega⟩, fun h => absurd h (by omega)⟩
          case measure => simp [intOf]
    · by_cases c1 : nb < 0
      · go_wp2_with fail
        go_ret
        exact ⟨says_no (fun h => by have h5 := (HOK.out.1 h).2.2.1.1; (try simp only at h5); omega), HW0.out⟩
      · by_cases c2 : 65535 < nb
        · go_wp2_with fail
          go_ret
          exact ⟨says_no (fun h => by have h5 := (HOK.out.1 h).2.2.1.2; (try simp only at h5); omega), HW0.out⟩
        · go_wp2_with fail
          go_round
          case rel => exact ⟨3, by omega, rfl, fun _ => R1.out (by omega), fun _ => R2.out (by omega), fun _ => ⟨by omega, by omega⟩⟩
          case measure => simp [intOf]
    · go_wp2_with fail
      go_loop [27] (fun iv => ∃ k : Nat, k ≤ kn ∧ iv = .int .i64 (k : Int) ∧ ∀ j, j < k → KeptAt kl j) (fun iv => kn - (intOf iv).toNat)
      case atStart => exact ⟨0, by omega, rfl, fun j h => absurd h (Nat.not_lt_zero _)⟩
      case round =>
        obtain ⟨k, hk, rfl, hr⟩ := hrel
        have HR := Lib.hid hr
        clear hr
        by_cases hlt : k < kn
        · obtain ⟨b0, off, hkl, rfl, hb, hc, hp⟩ := Seg.us (HK.out.below HW0.out) hlt
          have HNO := Lib.hid (show ¬ KeptAt kl k → ¬ VO from fun h e => h ((HOK.out.1 e).2.2.2.1.1 k))
          have HYES := Lib.hid (show KeptAt kl k → ∀ j, j < k + 1 → KeptAt kl j from fun h j hj => by
            by_cases e : j = k
            · subst e; exact h
            · exact HR.out j (by omega))
          by_cases k0 : k = 0
          · clear hp
            have t0 : decide ((0 : Int) < (k : Int)) = false := decide_eq_false (by omega)
            have t00 : decide (0 < k) = false := decide_eq_false (by omega)
            have HA := Lib.hid (show KeptAt kl k from fun _ h0 => absurd h0 (by omega))
            clear k0
            generalize kl[k] = x at *
            go_wp2_with fail
            go_round
            case rel => exact ⟨k + 1, by omega, by go_num, HYES.out HA.out⟩
            case measure => simp [intOf]; omega
          · have hp := hp (by omega)
            have i0 : (0 : Int) ≤ (k : Int) - 1 := by omega
            have i1 : (k : Int) - 1 < (kn : Int) := by omega
            have i2 : ((k : Int) - 1).toNat = k - 1 := by omega
            have i3 : IntKind.i64.wrap ((k : Int) - 1) = (k : Int) - 1 := IntWalk.i64_in _ (by omega)
            have HA := Lib.hid (show KeptAt kl k ↔ kl[k - 1] < kl[k] from ⟨fun h => h hkl (by omega), fun h _ _ => h⟩)
            generalize kl[k] = x at *
            generalize kl[k - 1] = y at *
            by_cases c3 : x ≤ y
            · have t1 : decide ((x : Int) ≤ (y : Int)) = true := decide_eq_true (by omega)
              go_wp2_with fail
              go_ret
              exact ⟨says_no (HNO.out (fun h => by have := HA.out.1 h; omega)), HW0.out⟩
            · have t1 : decide ((x : Int) ≤ (y : Int)) = false := decide_eq_false (by omega)
              go_wp2_with fail
              go_round
              case rel => exact ⟨k + 1, by omega, by go_num, HYES.out (HA.out.2 (by omega))⟩
              case measure => simp [intOf]; omega
        · obtain rfl : k = kn := by omega
          have HALL := Lib.hid (show ∀ j, KeptAt kl j from fun j hj => HR.out j (by have := HLK.out; omega) hj)
          by_cases q1 : k ≤ 32
          · have t1 : decide ((k : Int) ≤ 32) = true := decide_eq_true (by omega)
            have wA0 : wA.cell? ⟨w.heap.size, 0, none⟩ = some (.int .i64 nv) := (HB0.out.cell 0).trans rfl
            have wA1 : wA.cell? ⟨w.heap.size, 1, none⟩ = some (.int .i64 ng) := (HB0.out.cell 1).trans rfl
            have wA2 : wA.cell? ⟨w.heap.size, 2, none⟩ = some (.int .i64 nb) := (HB0.out.cell 2).trans rfl
            have wA3 : wA.cell? ⟨w.heap.size, 3, none⟩ = some (.int .u64 (fl : Int)) := (HB0.out.cell 3).trans rfl
            have wA4 : wA.cell? ⟨w.heap.size, 4, none⟩ = some (.slice vA vn vc) := (HB0.out.cell 4).trans rfl
            have wA5 : wA.cell? ⟨w.heap.size, 5, none⟩ = some (.slice gA gn gc) := (HB0.out.cell 5).trans rfl
            have wA6 : wA.cell? ⟨w.heap.size, 6, none⟩ = some (.slice bA bn bc) := (HB0.out.cell 6).trans rfl
            have wA7 : wA.cell? ⟨w.heap.size, 7, none⟩ = some (.slice kA k kc) := (HB0.out.cell 7).trans rfl
            have wA8 : wA.cell? ⟨w.heap.size, 8, none⟩ = some (.slice tA tn tc) := (HB0.out.cell 8).trans rfl
            go_wp2_with fail
            refine (vols_any (c := ⟨nv, ng, nb, fl, vA, vn, vc, v, gA, gn, gc, g, bA, bn, bc, b, kA, k, kc, kl, tA, tn, tc, t⟩) HCA.out HSH.out).mono ?_
            rintro e w2 ⟨hsay, hb2⟩
            obtain ⟨bb, rfl, hsay⟩ := hsay
            have HSAYw2 := Lib.hid hsay
            have HZ2 := Lib.hid (nextB HW0.out (Nat.le_refl _) hb2)
            have HX2 := Lib.hid (HB0.out.below hb2 HB0.out.lt)
            clear hsay hb2
            cases bb with
            | false =>
              go_wp2_with fail
              go_ret
              exact ⟨says_no (fun h => by have := HSAYw2.out.2 ((HOK.out.1 h).2.2.2.2.1); cases this), HZ2.out⟩
            | true =>
              have hsw2 := Lib.hid (HSAYw2.out.1 (by first | rfl | trivial))
              have w20 : w2.cell? ⟨w.heap.size, 0, none⟩ = some (.int .i64 nv) := (HX2.out.cell 0).trans rfl
              have w21 : w2.cell? ⟨w.heap.size, 1, none⟩ = some (.int .i64 ng) := (HX2.out.cell 1).trans rfl
              have w22 : w2.cell? ⟨w.heap.size, 2, none⟩ = some (.int .i64 nb) := (HX2.out.cell 2).trans rfl
              have w23 : w2.cell? ⟨w.heap.size, 3, none⟩ = some (.int .u64 (fl : Int)) := (HX2.out.cell 3).trans rfl
              have w24 : w2.cell? ⟨w.heap.size, 4, none⟩ = some (.slice vA vn vc) := (HX2.out.cell 4).trans rfl
              have w25 : w2.cell? ⟨w.heap.size, 5, none⟩ = some (.slice gA gn gc) := (HX2.out.cell 5).trans rfl
              have w26 : w2.cell? ⟨w.heap.size, 6, none⟩ = some (.slice bA bn bc) := (HX2.out.cell 6).trans rfl
              have w27 : w2.cell? ⟨w.heap.size, 7, none⟩ = some (.slice kA k kc) := (HX2.out.cell 7).trans rfl
              have w28 : w2.cell? ⟨w.heap.size, 8, none⟩ = some (.slice tA tn tc) := (HX2.out.cell 8).trans rfl
              go_wp2_with fail
              refine (marks_any (c := ⟨nv, ng, nb, fl, vA, vn, vc, v, gA, gn, gc, g, bA, bn, bc, b, kA, k, kc, kl, tA, tn, tc, t⟩) ((HC.out.below HZ2.out).more HZ2.out.size) HSH.out).mono ?_
              rintro e w3 ⟨hsay, hb2⟩
              obtain ⟨bb, rfl, hsay⟩ := hsay
              have HSAYw3 := Lib.hid hsay
              have HZ3 := Lib.hid (nextB HZ2.out (Nat.le_refl _) hb2)
              have HX3 := Lib.hid (HX2.out.below hb2 HX2.out.lt)
              clear hsay hb2
              cases bb with
              | false =>
                go_wp2_with fail
                go_ret
                exact ⟨says_no (fun h => by have := HSAYw3.out.2 ((HOK.out.1 h).2.2.2.2.2.1); cases this), HZ3.out⟩
              | true =>
                have hsw3 := Lib.hid (HSAYw3.out.1 (by first | rfl | trivial))
                have w30 : w3.cell? ⟨w.heap.size, 0, none⟩ = some (.int .i64 nv) := (HX3.out.cell 0).trans rfl
                have w31 : w3.cell? ⟨w.heap.size, 1, none⟩ = some (.int .i64 ng) := (HX3.out.cell 1).trans rfl
                have w32 : w3.cell? ⟨w.heap.size, 2, none⟩ = some (.int .i64 nb) := (HX3.out.cell 2).trans rfl
                have w33 : w3.cell? ⟨w.heap.size, 3, none⟩ = some (.int .u64 (fl : Int)) := (HX3.out.cell 3).trans rfl
                have w34 : w3.cell? ⟨w.heap.size, 4, none⟩ = some (.slice vA vn vc) := (HX3.out.cell 4).trans rfl
                have w35 : w3.cell? ⟨w.heap.size, 5, none⟩ = some (.slice gA gn gc) := (HX3.out.cell 5).trans rfl
                have w36 : w3.cell? ⟨w.heap.size, 6, none⟩ = some (.slice bA bn bc) := (HX3.out.cell 6).trans rfl
                have w37 : w3.cell? ⟨w.heap.size, 7, none⟩ = some (.slice kA k kc) := (HX3.out.cell 7).trans rfl
                have w38 : w3.cell? ⟨w.heap.size, 8, none⟩ = some (.slice tA tn tc) := (HX3.out.cell 8).trans rfl
                go_wp2_with fail
                refine (times_any (HT.out.below HZ3.out |>.more HZ3.out.size) (by omega)).mono ?_
                rintro e w4 ⟨hsay, hb2⟩
                obtain ⟨bb, rfl, hsay⟩ := hsay
                have HSAY4 := Lib.hid hsay
                have HZ4 := Lib.hid (nextB HZ3.out (Nat.le_refl _) hb2)
                clear hsay hb2
                go_wp2_with fail
                go_ret
                exact ⟨says_iff (by rw [HSAY4.out, HOK.out]; exact ⟨fun h => ⟨R1.out (by omega), R2.out (by omega), R3.out (by omega), ⟨HALL.out, by show kl.length ≤ 32; rw [HLK.out]; omega⟩, hsw2.out, hsw3.out, h⟩, fun h => h.2.2.2.2.2.2⟩), HZ4.out⟩
          · have t1 : decide ((k : Int) ≤ 32) = false := decide_eq_false (by omega)
            go_wp2_with fail
            go_ret
            exact ⟨says_no (fun h => by have h5 := (HOK.out.1 h).2.2.2.1.2; (try simp only at h5); rw [HLK.out] at h5; omega), HW0.out⟩
end Go.Proofs.Ytaagfmaboggbhaa.cat
