/-
  The walk of the document's Right.
-/
import Derived.Test.YtaagfmaboggbhaaCatFew
namespace Go.Proofs.Ytaagfmaboggbhaa.cat
open Go.RowKit
set_option linter.unusedVariables false

theorem bcut {B B' : Nat} {a w w' : World} (h : Below B a w) (k : Below B' w w') (hb : B ≤ B') : Below B a w' := h.trans (k.mono hb)
set_option maxRecDepth 100000 in
set_option maxHeartbeats 12800000 in
theorem ref_any {w : World} {c : Cat} (h : CatOk w w.heap.size c) (hs : c.Short) :
    Calls Try.prog 38 #[c.val] w fun e w' => Says e (RightC c) ∧ Below w.heap.size w w' := by
  have hv := h.v
  have hg := h.g
  have hb := h.b
  have hk := h.k
  have ht := h.t
  have hvn := hs.1
  have hgn := hs.2.1
  have hbn := hs.2.2.1
  have hkn := hs.2.2.2.1
  have htn := hs.2.2.2.2.1
  have hvs := hs.2.2.2.2.2.1
  have hgs := hs.2.2.2.2.2.2.1
  have hbs := hs.2.2.2.2.2.2.2
  have HOK := Lib.hid (show RightC c ↔ ((0 ≤ c.nv ∧ c.nv ≤ 65535) ∧ (0 ≤ c.ng ∧ c.ng ≤ 65535) ∧ (0 ≤ c.nb ∧ c.nb ≤ 65535) ∧ ((∀ k, KeptAt c.k k) ∧ c.k.length ≤ 32) ∧ ((∀ z ∈ c.v, SizesOk z.l) ∧ Rise (c.v.map Vol.id) c.nv ∧ c.v.length ≤ 8) ∧ ((∀ z ∈ c.g, MemOk z.l) ∧ (∀ z ∈ c.b, MemOk z.l) ∧ Rise (c.g.map Grp.id) c.ng ∧ Rise (c.b.map Bk.id) c.nb ∧ c.g.length ≤ 4 ∧ c.b.length ≤ 8) ∧ TimesOk c.t) from Iff.rfl)
  clear h hs
  obtain ⟨nv, ng, nb, fl, vA, vn, vc, v, gA, gn, gc, g, bA, bn, bc, b, kA, kn, kc, kl, tA, tn, tc, t⟩ := c
  simp only at hv hg hb hk ht hvn hgn hbn hkn htn hvs hgs hbs
  generalize hVO : RightC _ = VO at *
  clear hVO
  have HLV := Lib.hid hv.len
  have HLG := Lib.hid hg.len
  have HLB := Lib.hid hb.len
  have HLK := Lib.hid (show kl.length = kn by have := hk.1; rwa [us_len] at this)
  have HVS := Lib.hid hvs
  have HGS := Lib.hid hgs
  have HBS := Lib.hid hbs
  have HW0 := Lib.hid ((Below.refl w.heap.size w).alloc (Nat.le_refl _) (.cells #[.int .i64 nv, .int .i64 ng, .int .i64 nb, .int .u64 (fl : Int), .slice vA vn vc, .slice gA gn gc, .slice bA bn bc, .slice kA kn kc, .slice tA tn tc] 68))
  have HB0 := Lib.hid (Box.new w #[.int .i64 nv, .int .i64 ng, .int .i64 nb, .int .u64 (fl : Int), .slice vA vn vc, .slice gA gn gc, .slice bA bn bc, .slice kA kn kc, .slice tA tn tc] 68)
  have HS0 := Lib.hid (show (w.alloc (.cells #[.int .i64 nv, .int .i64 ng, .int .i64 nb, .int .u64 (fl : Int), .slice vA vn vc, .slice gA gn gc, .slice bA bn bc, .slice kA kn kc, .slice tA tn tc] 68)).heap.size = w.heap.size + 1 by simp)
  have HV0 := Lib.hid hv
  have HG0 := Lib.hid hg
  have HBK0 := Lib.hid hb
  have HK0 := Lib.hid hk
  have HT0 := Lib.hid ht
  clear hv hg hb hk ht hvs hgs hbs
  unfold Cat.val Cat.cells
  go_enter Try.func38, Try.ntmps38
  go_wp2_with fail
  generalize hwA : w.alloc (.cells #[.int .i64 nv, .int .i64 ng, .int .i64 nb, .int .u64 (fl : Int), .slice vA vn vc, .slice gA gn gc, .slice bA bn bc, .slice kA kn kc, .slice tA tn tc] 68) = wA at *
  clear hwA
  have hA1 : wA.heap.size = w.heap.size + 1 := HS0.out
  have m0 : wA.cell? ⟨w.heap.size, 0, none⟩ = some (.int .i64 nv) := (HB0.out.cell 0).trans rfl
  have m1 : wA.cell? ⟨w.heap.size, 1, none⟩ = some (.int .i64 ng) := (HB0.out.cell 1).trans rfl
  have m2 : wA.cell? ⟨w.heap.size, 2, none⟩ = some (.int .i64 nb) := (HB0.out.cell 2).trans rfl
  have m7 : wA.cell? ⟨w.heap.size, 7, none⟩ = some (.slice kA kn kc) := (HB0.out.cell 7).trans rfl
  have m8 : wA.cell? ⟨w.heap.size, 8, none⟩ = some (.slice tA tn tc) := (HB0.out.cell 8).trans rfl
  go_wp2_with fail
  refine (small_any nv _).mono ?_
  rintro e w' ⟨hs, rfl⟩
  obtain ⟨bb, rfl, hs⟩ := hs
  have HR0 := Lib.hid hs
  clear hs
  cases bb with
  | false =>
    go_wp2_with fail
    go_ret
    exact ⟨says_no (fun h => by have := HR0.out.2 ((HOK.out.1 h).1); cases this), HW0.out⟩
  | true =>
    have HQ0 := Lib.hid (HR0.out.1 (by first | rfl | trivial))
    clear HR0
    go_wp2_with fail
    refine (small_any ng _).mono ?_
    rintro e w' ⟨hs, rfl⟩
    obtain ⟨bb, rfl, hs⟩ := hs
    have HR1 := Lib.hid hs
    clear hs
    cases bb with
    | false =>
      go_wp2_with fail
      go_ret
      exact ⟨says_no (fun h => by have := HR1.out.2 ((HOK.out.1 h).2.1); cases this), HW0.out⟩
    | true =>
      have HQ1 := Lib.hid (HR1.out.1 (by first | rfl | trivial))
      clear HR1
      go_wp2_with fail
      refine (small_any nb _).mono ?_
      rintro e w' ⟨hs, rfl⟩
      obtain ⟨bb, rfl, hs⟩ := hs
      have HR2 := Lib.hid hs
      clear hs
      cases bb with
      | false =>
        go_wp2_with fail
        go_ret
        exact ⟨says_no (fun h => by have := HR2.out.2 ((HOK.out.1 h).2.2.1); cases this), HW0.out⟩
      | true =>
        have HQ2 := Lib.hid (HR2.out.1 (by first | rfl | trivial))
        clear HR2
        by_cases q1 : kn ≤ 32
        · have dq : decide ((32 : Int) < (kn : Int)) = false := decide_eq_false (by omega)
          go_wp2_with fail
          refine (rtimes_any (HT0.out.below HW0.out |>.more HW0.out.size) (by omega)).mono ?_
          rintro e w2 ⟨hsay, hb2⟩
          obtain ⟨bb, rfl, hsay⟩ := hsay
          have HSAY := Lib.hid hsay
          have TOW2 := Lib.hid (nextB HW0.out (Nat.le_refl _) hb2)
          have HX2 := Lib.hid (HB0.out.below hb2 HB0.out.lt)
          have hsz2 : w.heap.size < w2.heap.size := HX2.out.lt
          clear hsay hb2 m0 m1 m2 m7 m8
          cases bb with
          | false =>
            go_wp2_with fail
            go_ret
            exact ⟨says_no (fun h => by have := HSAY.out.2 (HOK.out.1 h).2.2.2.2.2.2; cases this), TOW2.out⟩
          | true =>
            have HQT := Lib.hid (HSAY.out.1 (by first | rfl | trivial))
            have HV2 := Lib.hid ((HV0.out.below TOW2.out).more TOW2.out.size)
            clear HSAY
            go_wp2_with fail
            go_loopw [3, 6] (fun ov iv wr => ∃ k : Nat, ∃ A1 c1, k ≤ vn ∧ iv = .int .i64 (k : Int) ∧ ov = .slice A1 k c1 ∧ Own wr w2.heap.size 3 A1 k c1 (nums ((v.take k).map Vol.id)) ∧ (∀ j (hj : j < v.length), j < k → SizesOk v[j].l) ∧ Below w2.heap.size w2 wr ∧ w2.heap.size ≤ wr.heap.size) (fun _ iv _ => vn - (intOf iv).toNat)
            case atStart => exact ⟨0, none, 0, by omega, rfl, rfl, by simpa [nums] using Own.nil _ _ _, (fun j hj h => absurd h (Nat.not_lt_zero _)), Below.refl _ _, Nat.le_refl _⟩
            case round =>
              obtain ⟨k, A1, c1, hk, rfl, rfl, hown, hso, hbel, hsz⟩ := hrel
              have HO := Lib.hid hown
              have HZ := Lib.hid hso
              have HW := Lib.hid hbel
              clear hown hso hbel
              have m4 : wr.cell? ⟨w.heap.size, 4, none⟩ = some (.slice vA vn vc) := ((HX2.out.below HW.out (by omega)).cell 4).trans rfl
              by_cases hlt : k < vn
              · obtain ⟨b0, off, hkl, rfl, hbb, c0, c1, c2, hz⟩ := HV2.out.at_ hlt
                have HCC := Lib.hid (⟨c0, c1, c2⟩ : _ ∧ _ ∧ _)
                have HZW := Lib.hid (HV2.out.ok _ (List.getElem_mem hkl)).seg
                have HSN := Lib.hid (ids_snoc Vol.id v hkl)
                have HNO := Lib.hid (show ¬ SizesOk v[k].l → ¬ VO from fun h e => h ((HOK.out.1 e).2.2.2.2.1.1 _ (List.getElem_mem hkl)))
                have HYES := Lib.hid (show SizesOk v[k].l → ∀ j (hj : j < v.length), j < k + 1 → SizesOk v[j].l from fun h j hj h2 => by
                  by_cases e : j = k
                  · subst e; exact h
                  · exact HZ.out j hj (by omega))
                have hzn := HVS.out _ (List.getElem_mem hkl)
                clear hz c0 c1 c2
                have i0 : (0 : Int) ≤ (k : Int) := by omega
                have i1 : (k : Int) < (vn : Int) := by omega
                have i2 : ((k : Int)).toNat = k := by omega
                generalize v[k] = z at *
                obtain ⟨zi, zb, zA, zn, zc, zl⟩ := z
                simp only at hzn
                have c0 : wr.cell? ⟨b0, off + k * 3, none⟩ = some (.int .i64 zi) := (HW.out.cell (p := ⟨b0, off + k * 3, none⟩) hbb).trans HCC.out.1
                have HCL := Lib.hid (show w2.cell? ⟨b0, off + k * 3 + 2, none⟩ = some (.slice zA zn zc) from HCC.out.2.2)
                clear HCC
                go_wp2_with ((at_builtin; refine wpList_app _ rfl (.tmp 45) (.tmp 52) elemI rfl (w2.heap.size) rfl (HO.out.alloc _) _ rfl (Seg.one wr _ _) (one_int _) (by unfold maxLen; omega) (by omega) (by simp; try omega) ?_; intro A2 c2 w1 hown1 hg1 hat1; have HO2 := Lib.hid hown1; have HW1 := Lib.hid (below_app (HW.out.alloc hsz (.cells #[.int .i64 zi] 3)) (Nat.le_refl _) (by simp; omega) (HO.out.alloc (.cells #[.int .i64 zi] 3)) hg1); have mB : w1.cell? ⟨w.heap.size, 4, none⟩ = some (.slice (some ⟨b0, off, none⟩) vn vc) := ((HX2.out.below HW1.out (by omega)).cell 4).trans rfl; have cB : w1.cell? ⟨b0, off + k * 3 + 2, none⟩ = some (.slice zA zn zc) := (HW1.out.cell (p := ⟨b0, off + k * 3 + 2, none⟩) hbb).trans HCL.out; clear hown1 hg1 hat1))
                have hsz1 : w2.heap.size ≤ w1.heap.size := HW1.out.size
                have HMZ := Lib.hid (show MkSeg w1 w1.heap.size zA zn zl from (HZW.out.below HW1.out).more hsz1)
                go_wp2_with fail
                refine (rsizes_any HMZ.out (by omega)).mono ?_
                rintro e w3 ⟨hsay, hb2⟩
                obtain ⟨bb, rfl, hsay⟩ := hsay
                have HSAY := Lib.hid hsay
                have HB3 := Lib.hid (bcut HW1.out hb2 hsz1)
                have HO3 := Lib.hid (HO2.out.below hb2)
                have hsz3 : w2.heap.size ≤ w3.heap.size := HB3.out.size
                clear hsay hb2
                cases bb with
                | false =>
                  go_wp2_with fail
                  go_ret
                  exact ⟨says_no (HNO.out (fun h => by have := HSAY.out.2 h; cases this)), bcut TOW2.out HB3.out (by omega)⟩
                | true =>
                  go_wp2_with fail
                  go_roundw
                  case rel => exact ⟨k + 1, A2, c2, by omega, by go_num, rfl, by rw [HSN.out]; exact HO3.out, HYES.out (HSAY.out.1 (by first | rfl | trivial)), HB3.out, hsz3⟩
                  case measure => simp [intOf]; omega
              · obtain rfl : vn = k := by omega
                have e1 : v.take vn = v := List.take_of_length_le (by rw [HLV.out]; omega)
                rw [e1] at HO
                have HALLVol := Lib.hid (mem_upto (fun z => SizesOk z.l) v (fun j hj => HZ.out j hj (by have := HLV.out; omega)))
                clear e1
                have SEGV := Lib.hid (HO.out.seg)
                have HX3 := Lib.hid (HX2.out.below HW.out (by omega))
                have TOW3 := Lib.hid (bcut TOW2.out HW.out (by omega))
                have hsw3 : w.heap.size < wr.heap.size := by omega
                clear HO HW HZ
                have hzw3 := hsz
                generalize wr = w3 at *
                clear hk hsz
                go_wp2_with fail
                have HG3 := Lib.hid ((HG0.out.below TOW3.out).more TOW3.out.size)
                go_loopw [4, 7] (fun ov iv wr => ∃ k : Nat, ∃ A1 c1, k ≤ gn ∧ iv = .int .i64 (k : Int) ∧ ov = .slice A1 k c1 ∧ Own wr w3.heap.size 3 A1 k c1 (nums ((g.take k).map Grp.id)) ∧ (∀ j (hj : j < g.length), j < k → MemOk g[j].l) ∧ Below w3.heap.size w3 wr ∧ w3.heap.size ≤ wr.heap.size) (fun _ iv _ => gn - (intOf iv).toNat)
                case atStart => exact ⟨0, none, 0, by omega, rfl, rfl, by simpa [nums] using Own.nil _ _ _, (fun j hj h => absurd h (Nat.not_lt_zero _)), Below.refl _ _, Nat.le_refl _⟩
                case round =>
                  obtain ⟨k, A1, c1, hk, rfl, rfl, hown, hso, hbel, hsz⟩ := hrel
                  have HO := Lib.hid hown
                  have HZ := Lib.hid hso
                  have HW := Lib.hid hbel
                  clear hown hso hbel
                  have m5 : wr.cell? ⟨w.heap.size, 5, none⟩ = some (.slice gA gn gc) := ((HX3.out.below HW.out (by omega)).cell 5).trans rfl
                  by_cases hlt : k < gn
                  · obtain ⟨b0, off, hkl, rfl, hbb, c0, c1, hz⟩ := HG3.out.at_ hlt
                    have HCC := Lib.hid (⟨c0, c1⟩ : _ ∧ _)
                    have HZW := Lib.hid (HG3.out.ok _ (List.getElem_mem hkl)).seg
                    have HSN := Lib.hid (ids_snoc Grp.id g hkl)
                    have HNO := Lib.hid (show ¬ MemOk g[k].l → ¬ VO from fun h e => h ((HOK.out.1 e).2.2.2.2.2.1.1 _ (List.getElem_mem hkl)))
                    have HYES := Lib.hid (show MemOk g[k].l → ∀ j (hj : j < g.length), j < k + 1 → MemOk g[j].l from fun h j hj h2 => by
                      by_cases e : j = k
                      · subst e; exact h
                      · exact HZ.out j hj (by omega))
                    have hzn := HGS.out _ (List.getElem_mem hkl)
                    clear hz c0 c1
                    have i0 : (0 : Int) ≤ (k : Int) := by omega
                    have i1 : (k : Int) < (gn : Int) := by omega
                    have i2 : ((k : Int)).toNat = k := by omega
                    generalize g[k] = z at *
                    obtain ⟨zi, zA, zn, zc, zl⟩ := z
                    simp only at hzn
                    have c0 : wr.cell? ⟨b0, off + k * 2, none⟩ = some (.int .i64 zi) := (HW.out.cell (p := ⟨b0, off + k * 2, none⟩) hbb).trans HCC.out.1
                    have HCL := Lib.hid (show w3.cell? ⟨b0, off + k * 2 + 1, none⟩ = some (.slice zA zn zc) from HCC.out.2)
                    clear HCC
                    have HLZ := Lib.hid (show zl.length = zn by have := HZW.out.1.1; rwa [nums_len] at this)
                    have HMEM := Lib.hid (show MemOk zl ↔ (1 ≤ zl.length ∧ zl.length ≤ 8 ∧ Rise zl 65535) from Iff.rfl)
                    by_cases q0 : zn = 0
                    · have HZ0 := Lib.hid q0
                      have dz : ((zn : Int) == 0) = true := by simp; omega
                      have dy : decide (zn = 0) = true := decide_eq_true q0
                      clear q0
                      go_wp2_with ((at_builtin; refine wpList_app _ rfl (.tmp 69) (.tmp 76) elemI rfl (w3.heap.size) rfl (HO.out.alloc _) _ rfl (Seg.one wr _ _) (one_int _) (by unfold maxLen; omega) (by omega) (by simp; try omega) ?_; intro A2 c2 w1 hown1 hg1 hat1; have HO2 := Lib.hid hown1; have HW1 := Lib.hid (below_app (HW.out.alloc hsz (.cells #[.int .i64 zi] 3)) (Nat.le_refl _) (by simp; omega) (HO.out.alloc (.cells #[.int .i64 zi] 3)) hg1); have mB : w1.cell? ⟨w.heap.size, 5, none⟩ = some (.slice (some ⟨b0, off, none⟩) gn gc) := ((HX3.out.below HW1.out (by omega)).cell 5).trans rfl; have cB : w1.cell? ⟨b0, off + k * 2 + 1, none⟩ = some (.slice zA zn zc) := (HW1.out.cell (p := ⟨b0, off + k * 2 + 1, none⟩) hbb).trans HCL.out; clear hown1 hg1 hat1))
                      have hsz1 : w3.heap.size ≤ w1.heap.size := HW1.out.size
                      go_ret
                      exact ⟨says_no (HNO.out (fun h => by have := (HMEM.out.1 h).1; rw [HLZ.out, HZ0.out] at this; omega)), bcut TOW3.out HW1.out (by omega)⟩
                    · have dz : ((zn : Int) == 0) = false := by simp; omega
                      have dy : decide (zn = 0) = false := decide_eq_false q0
                      have dy2 : decide ((zn : Int) = 0) = false := decide_eq_false (by omega)
                      go_wp2_with ((at_builtin; refine wpList_app _ rfl (.tmp 69) (.tmp 76) elemI rfl (w3.heap.size) rfl (HO.out.alloc _) _ rfl (Seg.one wr _ _) (one_int _) (by unfold maxLen; omega) (by omega) (by simp; try omega) ?_; intro A2 c2 w1 hown1 hg1 hat1; have HO2 := Lib.hid hown1; have HW1 := Lib.hid (below_app (HW.out.alloc hsz (.cells #[.int .i64 zi] 3)) (Nat.le_refl _) (by simp; omega) (HO.out.alloc (.cells #[.int .i64 zi] 3)) hg1); have mB : w1.cell? ⟨w.heap.size, 5, none⟩ = some (.slice (some ⟨b0, off, none⟩) gn gc) := ((HX3.out.below HW1.out (by omega)).cell 5).trans rfl; have cB : w1.cell? ⟨b0, off + k * 2 + 1, none⟩ = some (.slice zA zn zc) := (HW1.out.cell (p := ⟨b0, off + k * 2 + 1, none⟩) hbb).trans HCL.out; clear hown1 hg1 hat1))
                      have hsz1 : w3.heap.size ≤ w1.heap.size := HW1.out.size
                      have HMZ := Lib.hid (show Seg w1 w3.heap.size zA zn (nums zl) from HZW.out.1.below HW1.out)
                      refine (rises_any HMZ.out 65535 8 (by omega)).mono ?_
                      rintro e w3 ⟨hsay, rfl⟩
                      obtain ⟨bb, rfl, hsay⟩ := hsay
                      have HSAY := Lib.hid (show bb = true ↔ MemOk zl by rw [hsay, HMEM.out, HLZ.out]; exact ⟨fun h => ⟨by omega, by omega, h.1⟩, fun h => ⟨h.2.2, by omega⟩⟩)
                      clear hsay
                      cases bb with
                      | false =>
                        go_wp2_with fail
                        go_ret
                        exact ⟨says_no (HNO.out (fun h => by have := HSAY.out.2 h; cases this)), bcut TOW3.out HW1.out (by omega)⟩
                      | true =>
                        go_wp2_with fail
                        go_roundw
                        case rel => exact ⟨k + 1, A2, c2, by omega, by go_num, rfl, by rw [HSN.out]; exact HO2.out, HYES.out (HSAY.out.1 (by first | rfl | trivial)), HW1.out, hsz1⟩
                        case measure => simp [intOf]; omega
                  · obtain rfl : gn = k := by omega
                    have e1 : g.take gn = g := List.take_of_length_le (by rw [HLG.out]; omega)
                    rw [e1] at HO
                    have HALLGrp := Lib.hid (mem_upto (fun z => MemOk z.l) g (fun j hj => HZ.out j hj (by have := HLG.out; omega)))
                    clear e1
                    have SEGG := Lib.hid (HO.out.seg)
                    have HX4 := Lib.hid (HX3.out.below HW.out (by omega))
                    have TOW4 := Lib.hid (bcut TOW3.out HW.out (by omega))
                    have hsw4 : w.heap.size < wr.heap.size := by omega
                    have SEGV4 := Lib.hid (SEGV.out.below HW.out)
                    clear HO HW HZ
                    have hzw4 := hsz
                    generalize wr = w4 at *
                    clear hk hsz
                    go_wp2_with fail
                    have HBK4 := Lib.hid ((HBK0.out.below TOW4.out).more TOW4.out.size)
                    go_loopw [5, 8] (fun ov iv wr => ∃ k : Nat, ∃ A1 c1, k ≤ bn ∧ iv = .int .i64 (k : Int) ∧ ov = .slice A1 k c1 ∧ Own wr w4.heap.size 3 A1 k c1 (nums ((b.take k).map Bk.id)) ∧ (∀ j (hj : j < b.length), j < k → MemOk b[j].l) ∧ Below w4.heap.size w4 wr ∧ w4.heap.size ≤ wr.heap.size) (fun _ iv _ => bn - (intOf iv).toNat)
                    case atStart => exact ⟨0, none, 0, by omega, rfl, rfl, by simpa [nums] using Own.nil _ _ _, (fun j hj h => absurd h (Nat.not_lt_zero _)), Below.refl _ _, Nat.le_refl _⟩
                    case round =>
                      obtain ⟨k, A1, c1, hk, rfl, rfl, hown, hso, hbel, hsz⟩ := hrel
                      have HO := Lib.hid hown
                      have HZ := Lib.hid hso
                      have HW := Lib.hid hbel
                      clear hown hso hbel
                      have m6 : wr.cell? ⟨w.heap.size, 6, none⟩ = some (.slice bA bn bc) := ((HX4.out.below HW.out (by omega)).cell 6).trans rfl
                      by_cases hlt : k < bn
                      · obtain ⟨b0, off, hkl, rfl, hbb, c0, c1, c2, hz⟩ := HBK4.out.at_ hlt
                        have HCC := Lib.hid (⟨c0, c1, c2⟩ : _ ∧ _ ∧ _)
                        have HZW := Lib.hid (HBK4.out.ok _ (List.getElem_mem hkl)).seg
                        have HSN := Lib.hid (ids_snoc Bk.id b hkl)
                        have HNO := Lib.hid (show ¬ MemOk b[k].l → ¬ VO from fun h e => h ((HOK.out.1 e).2.2.2.2.2.1.2.1 _ (List.getElem_mem hkl)))
                        have HYES := Lib.hid (show MemOk b[k].l → ∀ j (hj : j < b.length), j < k + 1 → MemOk b[j].l from fun h j hj h2 => by
                          by_cases e : j = k
                          · subst e; exact h
                          · exact HZ.out j hj (by omega))
                        have hzn := HBS.out _ (List.getElem_mem hkl)
                        clear hz c0 c1 c2
                        have i0 : (0 : Int) ≤ (k : Int) := by omega
                        have i1 : (k : Int) < (bn : Int) := by omega
                        have i2 : ((k : Int)).toNat = k := by omega
                        generalize b[k] = z at *
                        obtain ⟨zi, zq, zA, zn, zc, zl⟩ := z
                        simp only at hzn
                        have c0 : wr.cell? ⟨b0, off + k * 3, none⟩ = some (.int .i64 zi) := (HW.out.cell (p := ⟨b0, off + k * 3, none⟩) hbb).trans HCC.out.1
                        have HCL := Lib.hid (show w4.cell? ⟨b0, off + k * 3 + 2, none⟩ = some (.slice zA zn zc) from HCC.out.2.2)
                        clear HCC
                        have HLZ := Lib.hid (show zl.length = zn by have := HZW.out.1.1; rwa [nums_len] at this)
                        have HMEM := Lib.hid (show MemOk zl ↔ (1 ≤ zl.length ∧ zl.length ≤ 8 ∧ Rise zl 65535) from Iff.rfl)
                        by_cases q0 : zn = 0
                        · have HZ0 := Lib.hid q0
                          have dz : ((zn : Int) == 0) = true := by simp; omega
                          have dy : decide (zn = 0) = true := decide_eq_true q0
                          clear q0
                          go_wp2_with ((at_builtin; refine wpList_app _ rfl (.tmp 103) (.tmp 110) elemI rfl (w4.heap.size) rfl (HO.out.alloc _) _ rfl (Seg.one wr _ _) (one_int _) (by unfold maxLen; omega) (by omega) (by simp; try omega) ?_; intro A2 c2 w1 hown1 hg1 hat1; have HO2 := Lib.hid hown1; have HW1 := Lib.hid (below_app (HW.out.alloc hsz (.cells #[.int .i64 zi] 3)) (Nat.le_refl _) (by simp; omega) (HO.out.alloc (.cells #[.int .i64 zi] 3)) hg1); have mB : w1.cell? ⟨w.heap.size, 6, none⟩ = some (.slice (some ⟨b0, off, none⟩) bn bc) := ((HX4.out.below HW1.out (by omega)).cell 6).trans rfl; have cB : w1.cell? ⟨b0, off + k * 3 + 2, none⟩ = some (.slice zA zn zc) := (HW1.out.cell (p := ⟨b0, off + k * 3 + 2, none⟩) hbb).trans HCL.out; clear hown1 hg1 hat1))
                          have hsz1 : w4.heap.size ≤ w1.heap.size := HW1.out.size
                          go_ret
                          exact ⟨says_no (HNO.out (fun h => by have := (HMEM.out.1 h).1; rw [HLZ.out, HZ0.out] at this; omega)), bcut TOW4.out HW1.out (by omega)⟩
                        · have dz : ((zn : Int) == 0) = false := by simp; omega
                          have dy : decide (zn = 0) = false := decide_eq_false q0
                          have dy2 : decide ((zn : Int) = 0) = false := decide_eq_false (by omega)
                          go_wp2_with ((at_builtin; refine wpList_app _ rfl (.tmp 103) (.tmp 110) elemI rfl (w4.heap.size) rfl (HO.out.alloc _) _ rfl (Seg.one wr _ _) (one_int _) (by unfold maxLen; omega) (by omega) (by simp; try omega) ?_; intro A2 c2 w1 hown1 hg1 hat1; have HO2 := Lib.hid hown1; have HW1 := Lib.hid (below_app (HW.out.alloc hsz (.cells #[.int .i64 zi] 3)) (Nat.le_refl _) (by simp; omega) (HO.out.alloc (.cells #[.int .i64 zi] 3)) hg1); have mB : w1.cell? ⟨w.heap.size, 6, none⟩ = some (.slice (some ⟨b0, off, none⟩) bn bc) := ((HX4.out.below HW1.out (by omega)).cell 6).trans rfl; have cB : w1.cell? ⟨b0, off + k * 3 + 2, none⟩ = some (.slice zA zn zc) := (HW1.out.cell (p := ⟨b0, off + k * 3 + 2, none⟩) hbb).trans HCL.out; clear hown1 hg1 hat1))
                          have hsz1 : w4.heap.size ≤ w1.heap.size := HW1.out.size
                          have HMZ := Lib.hid (show Seg w1 w4.heap.size zA zn (nums zl) from HZW.out.1.below HW1.out)
                          refine (rises_any HMZ.out 65535 8 (by omega)).mono ?_
                          rintro e w3 ⟨hsay, rfl⟩
                          obtain ⟨bb, rfl, hsay⟩ := hsay
                          have HSAY := Lib.hid (show bb = true ↔ MemOk zl by rw [hsay, HMEM.out, HLZ.out]; exact ⟨fun h => ⟨by omega, by omega, h.1⟩, fun h => ⟨h.2.2, by omega⟩⟩)
                          clear hsay
                          cases bb with
                          | false =>
                            go_wp2_with fail
                            go_ret
                            exact ⟨says_no (HNO.out (fun h => by have := HSAY.out.2 h; cases this)), bcut TOW4.out HW1.out (by omega)⟩
                          | true =>
                            go_wp2_with fail
                            go_roundw
                            case rel => exact ⟨k + 1, A2, c2, by omega, by go_num, rfl, by rw [HSN.out]; exact HO2.out, HYES.out (HSAY.out.1 (by first | rfl | trivial)), HW1.out, hsz1⟩
                            case measure => simp [intOf]; omega
                      · obtain rfl : bn = k := by omega
                        have e1 : b.take bn = b := List.take_of_length_le (by rw [HLB.out]; omega)
                        rw [e1] at HO
                        have HALLBk := Lib.hid (mem_upto (fun z => MemOk z.l) b (fun j hj => HZ.out j hj (by have := HLB.out; omega)))
                        clear e1
                        have SEGB := Lib.hid (HO.out.seg)
                        have HX5 := Lib.hid (HX4.out.below HW.out (by omega))
                        have TOW5 := Lib.hid (bcut TOW4.out HW.out (by omega))
                        have hsw5 : w.heap.size < wr.heap.size := by omega
                        have SEGV5 := Lib.hid ((SEGV4.out.more hzw4).below HW.out)
                        have SEGG5 := Lib.hid (SEGG.out.below HW.out)
                        clear HO HW HZ
                        have hzw5 := hsz
                        generalize wr = w5 at *
                        clear hk hsz
                        go_wp2_with fail
                        have HK5 := Lib.hid ((HK0.out.below TOW5.out).more TOW5.out.size)
                        go_loopw [9] (fun iv wr => ∃ k : Nat, (1 ≤ k ∧ (k ≤ kn ∨ k = 1)) ∧ iv = .int .i64 (k : Int) ∧ (∀ j, j < k → KeptAt kl j) ∧ Below w5.heap.size w5 wr) (fun iv _ => kn - (intOf iv).toNat)
                        case atStart => exact ⟨1, ⟨by omega, by omega⟩, rfl, (fun j h _ h0 => absurd h0 (by omega)), Below.refl _ _⟩
                        case round =>
                          obtain ⟨k, hk, rfl, hr, hb⟩ := hrel
                          have HR := Lib.hid hr
                          have HW := Lib.hid hb
                          clear hr hb
                          have m7 : wr.cell? ⟨w.heap.size, 7, none⟩ = some (.slice kA kn kc) := ((HX5.out.below HW.out (by omega)).cell 7).trans rfl
                          by_cases hlt : k < kn
                          · obtain ⟨b0, off, hkl, rfl, hbb, hc, hp⟩ := Seg.us (HK5.out.below HW.out) hlt
                            have hp := hp (by omega)
                            have i0 : (0 : Int) ≤ (k : Int) := by omega
                            have i1 : (k : Int) < (kn : Int) := by omega
                            have i2 : ((k : Int)).toNat = k := by omega
                            have i3 : (0 : Int) ≤ (k : Int) - 1 := by omega
                            have i4 : (k : Int) - 1 < (kn : Int) := by omega
                            have i5 : ((k : Int) - 1).toNat = k - 1 := by omega
                            have i6 : IntKind.i64.wrap ((k : Int) - 1) = (k : Int) - 1 := IntWalk.i64_in _ (by omega)
                            have HNO := Lib.hid (show ¬ KeptAt kl k → ¬ VO from fun h e => h ((HOK.out.1 e).2.2.2.1.1 k))
                            have HYES := Lib.hid (show KeptAt kl k → ∀ j, j < k + 1 → KeptAt kl j from fun h j hj => by
                              by_cases e : j = k
                              · subst e; exact h
                              · exact HR.out j (by omega))
                            have HA := Lib.hid (show KeptAt kl k ↔ kl[k - 1] < kl[k] from ⟨fun h => h hkl (by omega), fun h _ _ => h⟩)
                            generalize kl[k] = x at *
                            generalize kl[k - 1] = y at *
                            by_cases c3 : x ≤ y
                            · have t1 : decide ((x : Int) ≤ (y : Int)) = true := decide_eq_true (by omega)
                              go_wp2_with fail
                              go_quiet (fail)
                              go_wp2_with fail
                              go_ret
                              exact ⟨says_no (HNO.out (fun h => by have := HA.out.1 h; omega)), bcut TOW5.out (Bdrew HW.out _) (by omega)⟩
                            · have t1 : decide ((x : Int) ≤ (y : Int)) = false := decide_eq_false (by omega)
                              go_wp2_with fail
                              go_quiet (fail)
                              go_wp2_with fail
                              go_roundw
                              case rel => exact ⟨k + 1, ⟨by omega, by omega⟩, by go_num, HYES.out (HA.out.2 (by omega)), Bdrew HW.out _⟩
                              case measure => simp [intOf]; omega
                          · have HALLK := Lib.hid (show ∀ j, KeptAt kl j from fun j hj => HR.out j (by have := HLK.out; omega) hj)
                            have TOWR := Lib.hid (bcut TOW5.out HW.out (by omega))
                            have SV := Lib.hid (SEGV5.out.below (HW.out.mono (by omega)))
                            have SG := Lib.hid (SEGG5.out.below (HW.out.mono (by omega)))
                            have SB := Lib.hid (SEGB.out.below HW.out)
                            have m0 : wr.cell? ⟨w.heap.size, 0, none⟩ = some (.int .i64 nv) := ((HX5.out.below HW.out (by omega)).cell 0).trans rfl
                            have m1 : wr.cell? ⟨w.heap.size, 1, none⟩ = some (.int .i64 ng) := ((HX5.out.below HW.out (by omega)).cell 1).trans rfl
                            have m2 : wr.cell? ⟨w.heap.size, 2, none⟩ = some (.int .i64 nb) := ((HX5.out.below HW.out (by omega)).cell 2).trans rfl
                            go_wp2_with fail
                            refine (rises_any SV.out nv 8 (by omega)).mono ?_
                            rintro e w6 ⟨hsay, rfl⟩
                            obtain ⟨bb, rfl, hsay⟩ := hsay
                            have HSV := Lib.hid hsay
                            clear hsay
                            cases bb with
                            | false =>
                              go_wp2_with fail
                              go_ret
                              exact ⟨says_no (fun h => by have h5 := (HOK.out.1 h).2.2.2.2.1; have := HSV.out.2 ⟨h5.2.1, by rw [List.length_map]; have := h5.2.2; omega⟩; cases this), TOWR.out⟩
                            | true =>
                              have HV9 := Lib.hid (HSV.out.1 (by first | rfl | trivial))
                              go_wp2_with fail
                              refine (rises_any SG.out ng 4 (by omega)).mono ?_
                              rintro e w6 ⟨hsay, rfl⟩
                              obtain ⟨bb, rfl, hsay⟩ := hsay
                              have HSG := Lib.hid hsay
                              clear hsay
                              cases bb with
                              | false =>
                                go_wp2_with fail
                                go_ret
                                exact ⟨says_no (fun h => by have h5 := (HOK.out.1 h).2.2.2.2.2.1; have := HSG.out.2 ⟨h5.2.2.1, by rw [List.length_map]; have := h5.2.2.2.2.1; omega⟩; cases this), TOWR.out⟩
                              | true =>
                                have HG9 := Lib.hid (HSG.out.1 (by first | rfl | trivial))
                                go_wp2_with fail
                                refine (rises_any SB.out nb 8 (by omega)).mono ?_
                                rintro e w6 ⟨hsay, rfl⟩
                                obtain ⟨bb, rfl, hsay⟩ := hsay
                                have HSB := Lib.hid hsay
                                clear hsay
                                go_wp2_with fail
                                go_ret
                                exact ⟨says_iff (by
                                  rw [HSB.out, HOK.out]
                                  have h1 := HV9.out
                                  have h2 := HG9.out
                                  rw [List.length_map] at h1 h2 ⊢
                                  exact ⟨fun h => ⟨HQ0.out, HQ1.out, HQ2.out, ⟨HALLK.out, by show kl.length ≤ 32; rw [HLK.out]; omega⟩, ⟨HALLVol.out, h1.1, by omega⟩, ⟨HALLGrp.out, HALLBk.out, h2.1, h.1, by omega, by omega⟩, HQT.out⟩, fun h => ⟨h.2.2.2.2.2.1.2.2.2.1, by have := h.2.2.2.2.2.1.2.2.2.2.2; omega⟩⟩), TOWR.out⟩
        · have dq : decide ((32 : Int) < (kn : Int)) = true := decide_eq_true (by omega)
          go_wp2_with fail
          go_ret
          exact ⟨says_no (fun h => by have h5 := (HOK.out.1 h).2.2.2.1.2; (try simp only at h5); rw [HLK.out] at h5; omega), HW0.out⟩
end Go.Proofs.Ytaagfmaboggbhaa.cat
