/-
  The walk of the law's Few.
-/
import Derived.Test.YtaagfmaboggbhaaCatRight
namespace Go.Proofs.Ytaagfmaboggbhaa.cat
open Go.RowKit
set_option linter.unusedVariables false

def FewE (c : Cat) (e : Ending) : Prop := ∃ b, e = .returned (.bool b) ∧ (b = true → c.Short)
theorem few_no (c : Cat) : FewE c (.returned (.bool false)) := ⟨false, rfl, fun h => by cases h⟩
theorem few_yes {c : Cat} (h : c.Short) : FewE c (.returned (.bool true)) := ⟨true, rfl, fun _ => h⟩

set_option maxRecDepth 100000 in
set_option maxHeartbeats 6400000 in
theorem few_any {w : World} {c : Cat} (h : CatOk w w.heap.size c) :
    Calls Try.prog 36 #[c.val] w fun e w' => FewE c e ∧ Below w.heap.size w w' := by
  have hv := h.v
  have hg := h.g
  have hb := h.b
  have HSH := Lib.hid (show c.vn ≤ 20 → c.gn ≤ 20 → c.bn ≤ 20 → c.kn ≤ 100 → c.tn ≤ 100 → (∀ z ∈ c.v, z.n ≤ 40) → (∀ z ∈ c.g, z.n ≤ 30) → (∀ z ∈ c.b, z.n ≤ 30) → FewE c (.returned (.bool true)) from
    fun h1 h2 h3 h4 h5 h6 h7 h8 => few_yes ⟨by omega, by omega, by omega, by omega, by omega, fun z hz => by have := h6 z hz; omega, fun z hz => by have := h7 z hz; omega, fun z hz => by have := h8 z hz; omega⟩)
  have HNO := Lib.hid (few_no c)
  clear h
  obtain ⟨nv, ng, nb, fl, vA, vn, vc, v, gA, gn, gc, g, bA, bn, bc, b, kA, kn, kc, kl, tA, tn, tc, t⟩ := c
  simp only at hv hg hb
  generalize hVO : FewE _ = VO at *
  clear hVO
  have HLV := Lib.hid hv.len
  have HLG := Lib.hid hg.len
  have HLB := Lib.hid hb.len
  have HW0 := Lib.hid ((Below.refl w.heap.size w).alloc (Nat.le_refl _) (.cells #[.int .i64 nv, .int .i64 ng, .int .i64 nb, .int .u64 (fl : Int), .slice vA vn vc, .slice gA gn gc, .slice bA bn bc, .slice kA kn kc, .slice tA tn tc] 68))
  have HB0 := Lib.hid (Box.new w #[.int .i64 nv, .int .i64 ng, .int .i64 nb, .int .u64 (fl : Int), .slice vA vn vc, .slice gA gn gc, .slice bA bn bc, .slice kA kn kc, .slice tA tn tc] 68)
  have HV := Lib.hid (hv.below HW0.out)
  have HG := Lib.hid (hg.below HW0.out)
  have HBB := Lib.hid (hb.below HW0.out)
  clear hv hg hb
  unfold Cat.val Cat.cells
  by_cases q0 : vn ≤ 20
  · by_cases q1 : gn ≤ 20
    · by_cases q2 : bn ≤ 20
      · by_cases q3 : kn ≤ 100
        · by_cases q4 : tn ≤ 100
          · have d0 : decide ((20 : Int) < (vn : Int)) = false := decide_eq_false (by omega)
            have d1 : decide ((20 : Int) < (gn : Int)) = false := decide_eq_false (by omega)
            have d2 : decide ((20 : Int) < (bn : Int)) = false := decide_eq_false (by omega)
            have d3 : decide ((100 : Int) < (kn : Int)) = false := decide_eq_false (by omega)
            have d4 : decide ((100 : Int) < (tn : Int)) = false := decide_eq_false (by omega)
            go_enter Try.func36, Try.ntmps36
            go_wp2_with fail
            generalize hwA : w.alloc (.cells #[.int .i64 nv, .int .i64 ng, .int .i64 nb, .int .u64 (fl : Int), .slice vA vn vc, .slice gA gn gc, .slice bA bn bc, .slice kA kn kc, .slice tA tn tc] 68) = wA at *
            clear hwA
            have m4 : wA.cell? ⟨w.heap.size, 4, none⟩ = some (.slice vA vn vc) := (HB0.out.cell 4).trans rfl
            have m5 : wA.cell? ⟨w.heap.size, 5, none⟩ = some (.slice gA gn gc) := (HB0.out.cell 5).trans rfl
            have m6 : wA.cell? ⟨w.heap.size, 6, none⟩ = some (.slice bA bn bc) := (HB0.out.cell 6).trans rfl
            go_loop [3] (fun iv => ∃ k : Nat, k ≤ vn ∧ iv = .int .i64 (k : Int) ∧ ∀ j (hj : j < v.length), j < k → v[j].n ≤ 40) (fun iv => vn - (intOf iv).toNat)
            case atStart => exact ⟨0, by omega, rfl, fun j hj h => absurd h (Nat.not_lt_zero _)⟩
            case round =>
              obtain ⟨k, hk, rfl, hso⟩ := hrel
              have HZ := Lib.hid hso
              clear hso
              by_cases hlt : k < vn
              · obtain ⟨b0, off, hkl, rfl, hbb, c0, c1, c2, hz⟩ := HV.out.at_ hlt
                have HYES := Lib.hid (show v[k].n ≤ 40 → ∀ j (hj : j < v.length), j < k + 1 → v[j].n ≤ 40 from fun h j hj h2 => by
                  by_cases e : j = k
                  · subst e; exact h
                  · exact HZ.out j hj (by omega))
                clear hz
                have i0 : (0 : Int) ≤ (k : Int) := by omega
                have i1 : (k : Int) < (vn : Int) := by omega
                have i2 : ((k : Int)).toNat = k := by omega
                generalize v[k] = z at *
                obtain ⟨zi, zb, zA, zn, zc, zl⟩ := z
                simp only at c0 c1 c2 HYES
                by_cases q : zn ≤ 40
                · have dq : decide ((40 : Int) < (zn : Int)) = false := decide_eq_false (by omega)
                  by_cases q2 : zi < 1
                  · go_wp2_with fail
                    go_ret
                    exact ⟨HNO.out, HW0.out⟩
                  · go_wp2_with fail
                    go_round
                    case rel => exact ⟨k + 1, by omega, by go_num, HYES.out q⟩
                    case measure => simp [intOf]; omega
                · have dq : decide ((40 : Int) < (zn : Int)) = true := decide_eq_true (by omega)
                  go_wp2_with fail
                  go_ret
                  exact ⟨HNO.out, HW0.out⟩
              · obtain rfl : k = vn := by omega
                have HALLv := Lib.hid (mem_upto (fun z => z.n ≤ 40) v (fun j hj => HZ.out j hj (by have := HLV.out; omega)))
                clear HZ
                go_wp2_with fail
                go_loop [4] (fun iv => ∃ k : Nat, k ≤ gn ∧ iv = .int .i64 (k : Int) ∧ ∀ j (hj : j < g.length), j < k → g[j].n ≤ 30) (fun iv => gn - (intOf iv).toNat)
                case atStart => exact ⟨0, by omega, rfl, fun j hj h => absurd h (Nat.not_lt_zero _)⟩
                case round =>
                  obtain ⟨k, hk, rfl, hso⟩ := hrel
                  have HZ := Lib.hid hso
                  clear hso
                  by_cases hlt : k < gn
                  · obtain ⟨b0, off, hkl, rfl, hbb, c0, c1, hz⟩ := HG.out.at_ hlt
                    have HYES := Lib.hid (show g[k].n ≤ 30 → ∀ j (hj : j < g.length), j < k + 1 → g[j].n ≤ 30 from fun h j hj h2 => by
                      by_cases e : j = k
                      · subst e; exact h
                      · exact HZ.out j hj (by omega))
                    clear hz
                    have i0 : (0 : Int) ≤ (k : Int) := by omega
                    have i1 : (k : Int) < (gn : Int) := by omega
                    have i2 : ((k : Int)).toNat = k := by omega
                    generalize g[k] = z at *
                    obtain ⟨zi, zA, zn, zc, zl⟩ := z
                    simp only at c0 c1 HYES
                    by_cases q : zn ≤ 30
                    · have dq : decide ((30 : Int) < (zn : Int)) = false := decide_eq_false (by omega)
                      go_wp2_with fail
                      go_round
                      case rel => exact ⟨k + 1, by omega, by go_num, HYES.out q⟩
                      case measure => simp [intOf]; omega
                    · have dq : decide ((30 : Int) < (zn : Int)) = true := decide_eq_true (by omega)
                      go_wp2_with fail
                      go_ret
                      exact ⟨HNO.out, HW0.out⟩
                  · obtain rfl : k = gn := by omega
                    have HALLg := Lib.hid (mem_upto (fun z => z.n ≤ 30) g (fun j hj => HZ.out j hj (by have := HLG.out; omega)))
                    clear HZ
                    go_wp2_with fail
                    go_loop [5] (fun iv => ∃ k : Nat, k ≤ bn ∧ iv = .int .i64 (k : Int) ∧ ∀ j (hj : j < b.length), j < k → b[j].n ≤ 30) (fun iv => bn - (intOf iv).toNat)
                    case atStart => exact ⟨0, by omega, rfl, fun j hj h => absurd h (Nat.not_lt_zero _)⟩
                    case round =>
                      obtain ⟨k, hk, rfl, hso⟩ := hrel
                      have HZ := Lib.hid hso
                      clear hso
                      by_cases hlt : k < bn
                      · obtain ⟨b0, off, hkl, rfl, hbb, c0, c1, c2, hz⟩ := HBB.out.at_ hlt
                        have HYES := Lib.hid (show b[k].n ≤ 30 → ∀ j (hj : j < b.length), j < k + 1 → b[j].n ≤ 30 from fun h j hj h2 => by
                          by_cases e : j = k
                          · subst e; exact h
                          · exact HZ.out j hj (by omega))
                        clear hz
                        have i0 : (0 : Int) ≤ (k : Int) := by omega
                        have i1 : (k : Int) < (bn : Int) := by omega
                        have i2 : ((k : Int)).toNat = k := by omega
                        generalize b[k] = z at *
                        obtain ⟨zi, zq, zA, zn, zc, zl⟩ := z
                        simp only at c0 c1 c2 HYES
                        by_cases q : zn ≤ 30
                        · have dq : decide ((30 : Int) < (zn : Int)) = false := decide_eq_false (by omega)
                          go_wp2_with fail
                          go_round
                          case rel => exact ⟨k + 1, by omega, by go_num, HYES.out q⟩
                          case measure => simp [intOf]; omega
                        · have dq : decide ((30 : Int) < (zn : Int)) = true := decide_eq_true (by omega)
                          go_wp2_with fail
                          go_ret
                          exact ⟨HNO.out, HW0.out⟩
                      · obtain rfl : k = bn := by omega
                        have HALLb := Lib.hid (mem_upto (fun z => z.n ≤ 30) b (fun j hj => HZ.out j hj (by have := HLB.out; omega)))
                        clear HZ
                        go_wp2_with fail
                        go_ret
                        exact ⟨HSH.out q0 q1 q2 q3 q4 HALLv.out HALLg.out HALLb.out, HW0.out⟩
          · have d0 : decide ((20 : Int) < (vn : Int)) = false := decide_eq_false (by omega)
            have d1 : decide ((20 : Int) < (gn : Int)) = false := decide_eq_false (by omega)
            have d2 : decide ((20 : Int) < (bn : Int)) = false := decide_eq_false (by omega)
            have d3 : decide ((100 : Int) < (kn : Int)) = false := decide_eq_false (by omega)
            have d4 : decide ((100 : Int) < (tn : Int)) = true := decide_eq_true (by omega)
            go_enter Try.func36, Try.ntmps36
            go_wp2_with fail
            go_ret
            exact ⟨HNO.out, HW0.out⟩
        · have d0 : decide ((20 : Int) < (vn : Int)) = false := decide_eq_false (by omega)
          have d1 : decide ((20 : Int) < (gn : Int)) = false := decide_eq_false (by omega)
          have d2 : decide ((20 : Int) < (bn : Int)) = false := decide_eq_false (by omega)
          have d3 : decide ((100 : Int) < (kn : Int)) = true := decide_eq_true (by omega)
          go_enter Try.func36, Try.ntmps36
          go_wp2_with fail
          go_ret
          exact ⟨HNO.out, HW0.out⟩
      · have d0 : decide ((20 : Int) < (vn : Int)) = false := decide_eq_false (by omega)
        have d1 : decide ((20 : Int) < (gn : Int)) = false := decide_eq_false (by omega)
        have d2 : decide ((20 : Int) < (bn : Int)) = true := decide_eq_true (by omega)
        go_enter Try.func36, Try.ntmps36
        go_wp2_with fail
        go_ret
        exact ⟨HNO.out, HW0.out⟩
    · have d0 : decide ((20 : Int) < (vn : Int)) = false := decide_eq_false (by omega)
      have d1 : decide ((20 : Int) < (gn : Int)) = true := decide_eq_true (by omega)
      go_enter Try.func36, Try.ntmps36
      go_wp2_with fail
      go_ret
      exact ⟨HNO.out, HW0.out⟩
  · have d0 : decide ((20 : Int) < (vn : Int)) = true := decide_eq_true (by omega)
    go_enter Try.func36, Try.ntmps36
    go_wp2_with fail
    go_ret
    exact ⟨HNO.out, HW0.out⟩
end Go.Proofs.Ytaagfmaboggbhaa.cat
