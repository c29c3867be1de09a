/-
  The walk of catalog.marks.
-/
import Derived.Test.YtaagfmaboggbhaaCatVols
namespace Go.Proofs.Ytaagfmaboggbhaa.cat
open Go.RowKit
set_option linter.unusedVariables false

set_option maxRecDepth 100000 in
set_option maxHeartbeats 3200000 in
theorem marks_any {w : World} {c : Cat} (h : CatOk w w.heap.size c) (hs : c.Short) :
    Calls Try.prog 64 #[c.val] w fun e w' => Says e (MarksOk c) ∧ Below w.heap.size w w' := by
  have hg := h.g
  have hb := h.b
  have hgn := hs.2.1
  have hbn := hs.2.2.1
  have hgs := hs.2.2.2.2.2.2.1
  have hbs := hs.2.2.2.2.2.2.2
  have HOK := Lib.hid (show MarksOk c ↔ ((∀ z ∈ c.g, MemOk z.l) ∧ (∀ z ∈ c.b, MemOk z.l) ∧ Rise (c.g.map Grp.id) c.ng ∧ Rise (c.b.map Bk.id) c.nb ∧ c.g.length ≤ 4 ∧ c.b.length ≤ 8) from Iff.rfl)
  clear h hs
  obtain ⟨nv, ng, nb, fl, vA, vn, vc, v, gA, gn, gc, g, bA, bn, bc, b, kA, kn, kc, kl, tA, tn, tc, t⟩ := c
  simp only at hg hb hgn hbn hgs hbs
  generalize hVO : MarksOk _ = VO at *
  clear hVO
  have HLGrp := Lib.hid hg.len
  have HLBk := Lib.hid hb.len
  have HVSGrp := Lib.hid hgs
  have HVSBk := Lib.hid hbs
  have HW0 := Lib.hid ((Below.refl w.heap.size w).alloc (Nat.le_refl _) (.cells #[.int .i64 nv, .int .i64 ng, .int .i64 nb, .int .u64 (fl : Int), .slice vA vn vc, .slice gA gn gc, .slice bA bn bc, .slice kA kn kc, .slice tA tn tc] 68))
  have HB0 := Lib.hid (Box.new w #[.int .i64 nv, .int .i64 ng, .int .i64 nb, .int .u64 (fl : Int), .slice vA vn vc, .slice gA gn gc, .slice bA bn bc, .slice kA kn kc, .slice tA tn tc] 68)
  have HS0 := Lib.hid (show (w.alloc (.cells #[.int .i64 nv, .int .i64 ng, .int .i64 nb, .int .u64 (fl : Int), .slice vA vn vc, .slice gA gn gc, .slice bA bn bc, .slice kA kn kc, .slice tA tn tc] 68)).heap.size = w.heap.size + 1 by simp)
  have HVG0 := Lib.hid hg
  have HVB0 := Lib.hid hb
  clear hg hb hgs hbs
  unfold Cat.val Cat.cells
  go_enter Try.func64, Try.ntmps64
  go_wp2_with fail
  generalize hwA : w.alloc (.cells #[.int .i64 nv, .int .i64 ng, .int .i64 nb, .int .u64 (fl : Int), .slice vA vn vc, .slice gA gn gc, .slice bA bn bc, .slice kA kn kc, .slice tA tn tc] 68) = wA at *
  clear hwA
  have hA1 : wA.heap.size = w.heap.size + 1 := HS0.out
  have HVG := Lib.hid ((HVG0.out.below HW0.out).more (by omega : w.heap.size ≤ wA.heap.size))
  have HVB := Lib.hid ((HVB0.out.below HW0.out).more (by omega : w.heap.size ≤ wA.heap.size))
  have TOW := Lib.hid (fun (W : World) (h : Below wA.heap.size wA W) => HW0.out.trans (h.mono (by omega)))
  go_loopw [3, 12] (fun ov iv wr => ∃ k : Nat, ∃ A1 c1, k ≤ gn ∧ iv = .int .i64 (k : Int) ∧ ov = .slice A1 k c1 ∧ Own wr (wA.heap.size) 3 A1 k c1 (nums ((g.take k).map Grp.id)) ∧ (∀ j (hj : j < g.length), j < k → MemOk g[j].l) ∧ Below (wA.heap.size) wA wr ∧ wA.heap.size ≤ wr.heap.size) (fun _ iv _ => gn - (intOf iv).toNat)
  case atStart => exact ⟨0, none, 0, by omega, rfl, rfl, by simpa [nums] using Own.nil _ _ _, (fun j hj h => absurd h (Nat.not_lt_zero _)), Below.refl _ _, Nat.le_refl _⟩
  case round =>
    obtain ⟨k, A1, c1, hk, rfl, rfl, hown, hso, hbel, hsz⟩ := hrel
    have HO := Lib.hid hown
    have HZ := Lib.hid hso
    have HW := Lib.hid hbel
    clear hown hso hbel
    by_cases hlt : k < gn
    · obtain ⟨b0, off, hkl, rfl, hbb, c0', c1', hz⟩ := (HVG.out.below HW.out).at_ hlt
      have HZW := Lib.hid ((HVG.out.ok _ (List.getElem_mem hkl)).seg.1)
      have HSN := Lib.hid (ids_snoc Grp.id g hkl)
      have HNO := Lib.hid (show ¬ MemOk g[k].l → ¬ VO from fun h e => h ((HOK.out.1 e).1 _ (List.getElem_mem hkl)))
      have HYES := Lib.hid (show MemOk g[k].l → ∀ j (hj : j < g.length), j < k + 1 → MemOk g[j].l from fun h j hj h2 => by
        by_cases e : j = k
        · subst e; exact h
        · exact HZ.out j hj (by omega))
      have hzn := HVSGrp.out _ (List.getElem_mem hkl)
      clear hz
      have i0 : (0 : Int) ≤ (k : Int) := by omega
      have i1 : (k : Int) < (gn : Int) := by omega
      have i2 : ((k : Int)).toNat = k := by omega
      generalize g[k] = z at *
      obtain ⟨zi, zA, zn, zc, zl⟩ := z
      simp only at c0' c1' hzn
      go_wp2_with ((at_builtin; refine wpList_app _ rfl (.tmp 16) (.tmp 19) elemI rfl (wA.heap.size) rfl ((HO.out.alloc _).alloc _) _ rfl (one2 wr _ _ _) (one_int _) (by unfold maxLen; omega) (by omega) (by simp; try omega) ?_; intro A2 c2 w1 hown1 hg1 hat1; have HO2 := Lib.hid hown1; have HG2 := Lib.hid hg1; have hm2 : w1.cell? ⟨wr.heap.size, 1, none⟩ = some (.slice zA zn zc) := ((keptB ((Box.new wr #[.int .i64 zi, .slice zA zn zc] 94).alloc (.cells #[.int .i64 zi] 3)) ((HO.out.alloc (.cells #[.int .i64 zi, .slice zA zn zc] 94)).alloc (.cells #[.int .i64 zi] 3)) (by decide) hg1).cell 1).trans rfl; clear hown1 hg1 hat1))
      have HW1 := Lib.hid (below_app ((HW.out.alloc hsz (.cells #[.int .i64 zi, .slice zA zn zc] 94)).alloc (by simp; omega) (.cells #[.int .i64 zi] 3)) (Nat.le_refl _) (by simp; omega) ((HO.out.alloc (.cells #[.int .i64 zi, .slice zA zn zc] 94)).alloc (.cells #[.int .i64 zi] 3)) HG2.out)
      have hsz1 : wA.heap.size ≤ w1.heap.size := Nat.le_trans (by simp; omega) HG2.out.size
      have HMZ := Lib.hid (show Seg w1 (wA.heap.size) zA zn (nums zl) from HZW.out.below HW1.out)
      refine (members_any HMZ.out (by omega)).mono ?_
      rintro e w2 ⟨hsay, rfl⟩
      obtain ⟨bb, rfl, hsay⟩ := hsay
      have HSAY := Lib.hid (show bb = true ↔ MemOk zl from hsay)
      clear hsay
      cases bb with
      | false =>
        go_wp2_with fail
        go_ret
        exact ⟨says_no (HNO.out (fun h => by have := HSAY.out.2 h; cases this)), TOW.out _ HW1.out⟩
      | true =>
        go_wp2_with fail
        go_roundw
        case rel => exact ⟨k + 1, A2, c2, by omega, by go_num, rfl, by rw [HSN.out]; exact HO2.out, HYES.out (HSAY.out.1 (by first | rfl | trivial)), HW1.out, hsz1⟩
        case measure => simp [intOf]; omega
    · obtain rfl : k = gn := by omega
      have e1 : g.take k = g := List.take_of_length_le (by rw [HLGrp.out]; omega)
      rw [e1] at HO
      have HALLGrp := Lib.hid (mem_upto (fun z => MemOk z.l) g (fun j hj => HZ.out j hj (by have := HLGrp.out; omega)))
      clear e1
      have HSG := Lib.hid (HO.out.seg)
      have HX3 := Lib.hid (HB0.out.below HW.out (by omega))
      have HVB3 := Lib.hid ((HVB.out.below HW.out).more hsz)
      have TOW3 := Lib.hid (fun (W : World) (h : Below wr.heap.size wr W) => (TOW.out _ HW.out).trans (h.mono (by omega)))
      have hw3 : w.heap.size < wr.heap.size := by omega
      clear HO HW HZ
      generalize wr = w3 at *
      generalize hgk : k = gn' at *
      clear hgk
      have m6 : w3.cell? ⟨w.heap.size, 6, none⟩ = some (.slice bA bn bc) := (HX3.out.cell 6).trans rfl
      go_wp2_with fail
      go_loopw [4, 29] (fun ov iv wr => ∃ k : Nat, ∃ A1 c1, k ≤ bn ∧ iv = .int .i64 (k : Int) ∧ ov = .slice A1 k c1 ∧ Own wr (w3.heap.size) 3 A1 k c1 (nums ((b.take k).map Bk.id)) ∧ (∀ j (hj : j < b.length), j < k → MemOk b[j].l) ∧ Below (w3.heap.size) w3 wr ∧ w3.heap.size ≤ wr.heap.size) (fun _ iv _ => bn - (intOf iv).toNat)
      case atStart => exact ⟨0, none, 0, by omega, rfl, rfl, by simpa [nums] using Own.nil _ _ _, (fun j hj h => absurd h (Nat.not_lt_zero _)), Below.refl _ _, Nat.le_refl _⟩
      case round =>
        obtain ⟨k, A1, c1, hk, rfl, rfl, hown, hso, hbel, hsz⟩ := hrel
        have HO := Lib.hid hown
        have HZ := Lib.hid hso
        have HW := Lib.hid hbel
        clear hown hso hbel
        by_cases hlt : k < bn
        · obtain ⟨b0, off, hkl, rfl, hbb, c0', c1', c2', hz⟩ := (HVB3.out.below HW.out).at_ hlt
          have HZW := Lib.hid ((HVB3.out.ok _ (List.getElem_mem hkl)).seg.1)
          have HSN := Lib.hid (ids_snoc Bk.id b hkl)
          have HNO := Lib.hid (show ¬ MemOk b[k].l → ¬ VO from fun h e => h ((HOK.out.1 e).2.1 _ (List.getElem_mem hkl)))
          have HYES := Lib.hid (show MemOk b[k].l → ∀ j (hj : j < b.length), j < k + 1 → MemOk b[j].l from fun h j hj h2 => by
            by_cases e : j = k
            · subst e; exact h
            · exact HZ.out j hj (by omega))
          have hzn := HVSBk.out _ (List.getElem_mem hkl)
          clear hz
          have i0 : (0 : Int) ≤ (k : Int) := by omega
          have i1 : (k : Int) < (bn : Int) := by omega
          have i2 : ((k : Int)).toNat = k := by omega
          generalize b[k] = z at *
          obtain ⟨zi, zq, zA, zn, zc, zl⟩ := z
          simp only at c0' c1' c2' hzn
          go_wp2_with ((at_builtin; refine wpList_app _ rfl (.tmp 33) (.tmp 36) elemI rfl (w3.heap.size) rfl ((HO.out.alloc _).alloc _) _ rfl (one2 wr _ _ _) (one_int _) (by unfold maxLen; omega) (by omega) (by simp; try omega) ?_; intro A2 c2 w1 hown1 hg1 hat1; have HO2 := Lib.hid hown1; have HG2 := Lib.hid hg1; have hm2 : w1.cell? ⟨wr.heap.size, 2, none⟩ = some (.slice zA zn zc) := ((keptB ((Box.new wr #[.int .i64 zi, .int .u64 (zq : Int), .slice zA zn zc] 96).alloc (.cells #[.int .i64 zi] 3)) ((HO.out.alloc (.cells #[.int .i64 zi, .int .u64 (zq : Int), .slice zA zn zc] 96)).alloc (.cells #[.int .i64 zi] 3)) (by decide) hg1).cell 2).trans rfl; clear hown1 hg1 hat1))
          have HW1 := Lib.hid (below_app ((HW.out.alloc hsz (.cells #[.int .i64 zi, .int .u64 (zq : Int), .slice zA zn zc] 96)).alloc (by simp; omega) (.cells #[.int .i64 zi] 3)) (Nat.le_refl _) (by simp; omega) ((HO.out.alloc (.cells #[.int .i64 zi, .int .u64 (zq : Int), .slice zA zn zc] 96)).alloc (.cells #[.int .i64 zi] 3)) HG2.out)
          have hsz1 : w3.heap.size ≤ w1.heap.size := Nat.le_trans (by simp; omega) HG2.out.size
          have HMZ := Lib.hid (show Seg w1 (w3.heap.size) zA zn (nums zl) from HZW.out.below HW1.out)
          refine (members_any HMZ.out (by omega)).mono ?_
          rintro e w2 ⟨hsay, rfl⟩
          obtain ⟨bb, rfl, hsay⟩ := hsay
          have HSAY := Lib.hid (show bb = true ↔ MemOk zl from hsay)
          clear hsay
          cases bb with
          | false =>
            go_wp2_with fail
            go_ret
            exact ⟨says_no (HNO.out (fun h => by have := HSAY.out.2 h; cases this)), TOW3.out _ HW1.out⟩
          | true =>
            go_wp2_with fail
            go_roundw
            case rel => exact ⟨k + 1, A2, c2, by omega, by go_num, rfl, by rw [HSN.out]; exact HO2.out, HYES.out (HSAY.out.1 (by first | rfl | trivial)), HW1.out, hsz1⟩
            case measure => simp [intOf]; omega
        · obtain rfl : k = bn := by omega
          have e1 : b.take k = b := List.take_of_length_le (by rw [HLBk.out]; omega)
          rw [e1] at HO
          have HALLBk := Lib.hid (mem_upto (fun z => MemOk z.l) b (fun j hj => HZ.out j hj (by have := HLBk.out; omega)))
          clear e1
          have m1 : wr.cell? ⟨w.heap.size, 1, none⟩ = some (.int .i64 ng) := ((HX3.out.below HW.out (by omega)).cell 1).trans rfl
          have m2 : wr.cell? ⟨w.heap.size, 2, none⟩ = some (.int .i64 nb) := ((HX3.out.below HW.out (by omega)).cell 2).trans rfl
          have HSG4 := Lib.hid (HSG.out.below HW.out)
          have HSB4 := Lib.hid HO.out.seg
          have HWE := Lib.hid (TOW3.out _ HW.out)
          clear HO HW HZ
          go_wp2_with fail
          refine (rising_any HSG4.out ng (by omega)).mono ?_
          rintro e w2 ⟨hsay, rfl⟩
          obtain ⟨bb, rfl, hsay⟩ := hsay
          have HSAY := Lib.hid hsay
          clear hsay
          cases bb with
          | false =>
            go_wp2_with fail
            go_ret
            exact ⟨says_no (fun h => by have := HSAY.out.2 ((HOK.out.1 h).2.2.1); cases this), HWE.out⟩
          | true =>
            go_wp2_with fail
            refine (rising_any HSB4.out nb (by omega)).mono ?_
            rintro e w2 ⟨hsay, rfl⟩
            obtain ⟨bb, rfl, hsay⟩ := hsay
            have HSAY2 := Lib.hid hsay
            clear hsay
            cases bb with
            | false =>
              go_wp2_with fail
              go_ret
              exact ⟨says_no (fun h => by have := HSAY2.out.2 ((HOK.out.1 h).2.2.2.1); cases this), HWE.out⟩
            | true =>
              have HR1 := Lib.hid (HSAY.out.1 (by first | rfl | trivial))
              have HR2 := Lib.hid (HSAY2.out.1 (by first | rfl | trivial))
              by_cases q1 : gn' ≤ 4
              · have t1 : decide ((gn' : Int) ≤ 4) = true := decide_eq_true (by omega)
                go_wp2_with fail
                go_ret
                exact ⟨says_iff (by rw [HOK.out, HLGrp.out, HLBk.out]; simp; exact ⟨fun h => ⟨HALLGrp.out, HALLBk.out, HR1.out, HR2.out, by omega, by omega⟩, fun h => by omega⟩), HWE.out⟩
              · have t1 : decide ((gn' : Int) ≤ 4) = false := decide_eq_false (by omega)
                go_wp2_with fail
                go_ret
                exact ⟨says_no (fun h => by have h5 := (HOK.out.1 h).2.2.2.2.1; rw [HLGrp.out] at h5; omega), HWE.out⟩
end Go.Proofs.Ytaagfmaboggbhaa.cat
