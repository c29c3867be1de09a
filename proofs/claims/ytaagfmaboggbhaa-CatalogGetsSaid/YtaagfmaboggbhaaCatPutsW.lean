/-
  The walk of the law CatalogPuts.
-/
import Derived.Test.YtaagfmaboggbhaaCatClone
namespace Go.Proofs.Ytaagfmaboggbhaa.cat
open Go.RowKit
set_option linter.unusedVariables false
open fix (endC leB leB_len)

set_option maxRecDepth 100000 in
set_option maxHeartbeats 12800000 in
theorem puts_walk {w : World} {c : Cat} (h : CatOk w w.heap.size c) :
    Calls Try.prog 9 #[c.val] w fun e w' => e = .returned (.bool true) ∧ Below w.heap.size w w' := by
  have HC := Lib.hid h
  have HFEW := Lib.hid (fun (W : World) (hW : CatOk W W.heap.size c) => (show Calls Try.prog 36 #[c.val] W fun e w' => (∃ b, e = .returned (.bool b) ∧ (b = true → c.Short)) ∧ Below W.heap.size W w' from few_any hW))
  have HREF := Lib.hid (fun (W : World) (hW : CatOk W W.heap.size c) (hs : c.Short) => ref_any hW hs)
  have HRIGHT := Lib.hid (fun (W : World) (hW : CatOk W W.heap.size c) (hs : c.Short) => right_any hW hs)
  have HPY := Lib.hid (fun (W : World) (hW : CatOk W W.heap.size c) (hr : RightC c) => put_yes hW hr)
  have HPN := Lib.hid (fun (W : World) (hW : CatOk W W.heap.size c) (hs : c.Short) (hr : ¬ RightC c) => put_no hW hs hr)
  have HSY := Lib.hid (fun (W : World) (hW : CatOk W W.heap.size c) (hr : RightC c) => size_yes hW hr)
  have HSN := Lib.hid (fun (W : World) (hW : CatOk W W.heap.size c) (hs : c.Short) (hr : ¬ RightC c) => size_no hW hs hr)
  have HRP := Lib.hid (fun (W : World) (hW : CatOk W W.heap.size c) (hr : RightC c) => rput_any hW (putOk hr))
  have HGB := Lib.hid (fun (W W' : World) (e : Ending) (hr : RightC c) (hg : GetTo W (putC c) e W') => get_back h hr hg)
  have HLEN := Lib.hid (fun hr : RightC c => putC_len hr)
  have HPB := Lib.hid (putC_isB c)
  have HSAME := Lib.hid (fun (W : World) (d : Cat) (hW : CatOk W W.heap.size c) (hd : CatOk W W.heap.size d) (hp : d.plain = c.plain) (hs : c.Short) => same_true hW hd (same_plain hp.symm) hs)
  clear h
  have HB0 := Lib.hid ((Below.refl w.heap.size w).alloc (Nat.le_refl _) (.cells c.cells 68))
  have HC0 := Lib.hid ((HC.out.below HB0.out).more HB0.out.size)
  have HX0 := Lib.hid (Box.new w c.cells 68)
  clear HC
  generalize hRC : RightC c = RC at *
  generalize hPC : putC c = PC at *
  generalize hPL : c.plain = PL at *
  generalize hSH : c.Short = SH at *
  clear hRC hPC hPL hSH
  unfold Cat.val at HFEW HREF HRIGHT HPY HPN HSY HSN HRP ⊢
  obtain ⟨nv, ng, nb, fl, vA, vn, vc, v, gA, gn, gc, g, bA, bn, bc, b, kA, kn, kc, kl, tA, tn, tc, t⟩ := c
  unfold Cat.cells at *
  go_enter Try.func9, Try.ntmps9
  go_wp2_with fail
  generalize hwx : w.alloc (.cells #[.int .i64 nv, .int .i64 ng, .int .i64 nb, .int .u64 (fl : Int), .slice vA vn vc, .slice gA gn gc, .slice bA bn bc, .slice kA kn kc, .slice tA tn tc] 68) = w0 at *
  clear hwx
  refine (HFEW.out _ HC0.out).mono ?_
  rintro e w1 ⟨hf, hb⟩
  obtain ⟨bb, rfl, hf⟩ := hf
  have HF := Lib.hid hf
  clear hf
  have HX1 := Lib.hid (HX0.out.below hb HX0.out.lt)
  have HC1 := Lib.hid ((HC0.out.below hb).more hb.size)
  have HB1 := Lib.hid (nextB HB0.out (Nat.le_refl _) hb)
  clear hb
  have k0 : w1.cell? ⟨w.heap.size, 0, none⟩ = some (.int .i64 nv) := (HX1.out.cell 0).trans rfl
  have k1 : w1.cell? ⟨w.heap.size, 1, none⟩ = some (.int .i64 ng) := (HX1.out.cell 1).trans rfl
  have k2 : w1.cell? ⟨w.heap.size, 2, none⟩ = some (.int .i64 nb) := (HX1.out.cell 2).trans rfl
  have k3 : w1.cell? ⟨w.heap.size, 3, none⟩ = some (.int .u64 (fl : Int)) := (HX1.out.cell 3).trans rfl
  have k4 : w1.cell? ⟨w.heap.size, 4, none⟩ = some (.slice vA vn vc) := (HX1.out.cell 4).trans rfl
  have k5 : w1.cell? ⟨w.heap.size, 5, none⟩ = some (.slice gA gn gc) := (HX1.out.cell 5).trans rfl
  have k6 : w1.cell? ⟨w.heap.size, 6, none⟩ = some (.slice bA bn bc) := (HX1.out.cell 6).trans rfl
  have k7 : w1.cell? ⟨w.heap.size, 7, none⟩ = some (.slice kA kn kc) := (HX1.out.cell 7).trans rfl
  have k8 : w1.cell? ⟨w.heap.size, 8, none⟩ = some (.slice tA tn tc) := (HX1.out.cell 8).trans rfl
  cases bb with
  | false =>
    go_wp2_with fail
    go_ret
    exact ⟨rfl, HB1.out⟩
  | true =>
    have HSHORT := Lib.hid (show SH from HF.out rfl)
    clear HF
    by_cases hr : RC
    · have HR := Lib.hid hr
      clear hr
      go_wp2_with fail
      refine (HPY.out _ HC1.out HR.out).mono ?_
      rintro e w2 ⟨A, n, c', rfl, hn, hown, hb⟩
      have HN := Lib.hid hn
      have hn5 : n ≤ 5000 := by rw [hn]; exact HLEN.out HR.out
      have HO2 := Lib.hid hown
      clear hown hn
      have HX2 := Lib.hid (HX1.out.below hb HX1.out.lt)
      have HC2 := Lib.hid ((HC1.out.below hb).more hb.size)
      have HB2 := Lib.hid (nextB HB1.out (Nat.le_refl _) hb)
      clear hb
      clear k0 k1 k2 k3 k4 k5 k6 k7 k8
      have k0 : w2.cell? ⟨w.heap.size, 0, none⟩ = some (.int .i64 nv) := (HX2.out.cell 0).trans rfl
      have k1 : w2.cell? ⟨w.heap.size, 1, none⟩ = some (.int .i64 ng) := (HX2.out.cell 1).trans rfl
      have k2 : w2.cell? ⟨w.heap.size, 2, none⟩ = some (.int .i64 nb) := (HX2.out.cell 2).trans rfl
      have k3 : w2.cell? ⟨w.heap.size, 3, none⟩ = some (.int .u64 (fl : Int)) := (HX2.out.cell 3).trans rfl
      have k4 : w2.cell? ⟨w.heap.size, 4, none⟩ = some (.slice vA vn vc) := (HX2.out.cell 4).trans rfl
      have k5 : w2.cell? ⟨w.heap.size, 5, none⟩ = some (.slice gA gn gc) := (HX2.out.cell 5).trans rfl
      have k6 : w2.cell? ⟨w.heap.size, 6, none⟩ = some (.slice bA bn bc) := (HX2.out.cell 6).trans rfl
      have k7 : w2.cell? ⟨w.heap.size, 7, none⟩ = some (.slice kA kn kc) := (HX2.out.cell 7).trans rfl
      have k8 : w2.cell? ⟨w.heap.size, 8, none⟩ = some (.slice tA tn tc) := (HX2.out.cell 8).trans rfl

      go_wp2_with fail
      refine (HREF.out _ HC2.out HSHORT.out).mono ?_
      rintro e w3 ⟨hsay, hb⟩
      obtain ⟨b1, rfl, hsay⟩ := hsay
      obtain rfl : b1 = true := hsay.2 HR.out
      clear hsay
      have HX3 := Lib.hid (HX2.out.below hb HX2.out.lt)
      have HC3 := Lib.hid ((HC2.out.below hb).more hb.size)
      have HB3 := Lib.hid (nextB HB2.out (Nat.le_refl _) hb)
      have HO3 := Lib.hid (HO2.out.below hb)
      clear hb
      clear k0 k1 k2 k3 k4 k5 k6 k7 k8
      have k0 : w3.cell? ⟨w.heap.size, 0, none⟩ = some (.int .i64 nv) := (HX3.out.cell 0).trans rfl
      have k1 : w3.cell? ⟨w.heap.size, 1, none⟩ = some (.int .i64 ng) := (HX3.out.cell 1).trans rfl
      have k2 : w3.cell? ⟨w.heap.size, 2, none⟩ = some (.int .i64 nb) := (HX3.out.cell 2).trans rfl
      have k3 : w3.cell? ⟨w.heap.size, 3, none⟩ = some (.int .u64 (fl : Int)) := (HX3.out.cell 3).trans rfl
      have k4 : w3.cell? ⟨w.heap.size, 4, none⟩ = some (.slice vA vn vc) := (HX3.out.cell 4).trans rfl
      have k5 : w3.cell? ⟨w.heap.size, 5, none⟩ = some (.slice gA gn gc) := (HX3.out.cell 5).trans rfl
      have k6 : w3.cell? ⟨w.heap.size, 6, none⟩ = some (.slice bA bn bc) := (HX3.out.cell 6).trans rfl
      have k7 : w3.cell? ⟨w.heap.size, 7, none⟩ = some (.slice kA kn kc) := (HX3.out.cell 7).trans rfl
      have k8 : w3.cell? ⟨w.heap.size, 8, none⟩ = some (.slice tA tn tc) := (HX3.out.cell 8).trans rfl

      go_wp2_with fail
      refine (HRIGHT.out _ HC3.out HSHORT.out).mono ?_
      rintro e w4 ⟨hsay, hb⟩
      obtain ⟨b1, rfl, hsay⟩ := hsay
      obtain rfl : b1 = true := hsay.2 HR.out
      clear hsay
      have HX4 := Lib.hid (HX3.out.below hb HX3.out.lt)
      have HC4 := Lib.hid ((HC3.out.below hb).more hb.size)
      have HB4 := Lib.hid (nextB HB3.out (Nat.le_refl _) hb)
      have HO4 := Lib.hid (HO3.out.below hb)
      clear hb
      clear k0 k1 k2 k3 k4 k5 k6 k7 k8
      have k0 : w4.cell? ⟨w.heap.size, 0, none⟩ = some (.int .i64 nv) := (HX4.out.cell 0).trans rfl
      have k1 : w4.cell? ⟨w.heap.size, 1, none⟩ = some (.int .i64 ng) := (HX4.out.cell 1).trans rfl
      have k2 : w4.cell? ⟨w.heap.size, 2, none⟩ = some (.int .i64 nb) := (HX4.out.cell 2).trans rfl
      have k3 : w4.cell? ⟨w.heap.size, 3, none⟩ = some (.int .u64 (fl : Int)) := (HX4.out.cell 3).trans rfl
      have k4 : w4.cell? ⟨w.heap.size, 4, none⟩ = some (.slice vA vn vc) := (HX4.out.cell 4).trans rfl
      have k5 : w4.cell? ⟨w.heap.size, 5, none⟩ = some (.slice gA gn gc) := (HX4.out.cell 5).trans rfl
      have k6 : w4.cell? ⟨w.heap.size, 6, none⟩ = some (.slice bA bn bc) := (HX4.out.cell 6).trans rfl
      have k7 : w4.cell? ⟨w.heap.size, 7, none⟩ = some (.slice kA kn kc) := (HX4.out.cell 7).trans rfl
      have k8 : w4.cell? ⟨w.heap.size, 8, none⟩ = some (.slice tA tn tc) := (HX4.out.cell 8).trans rfl

      go_wp2_with fail
      have hsy := HSY.out _ HC4.out HR.out
      rw [← HN.out] at hsy
      refine hsy.mono ?_
      rintro e w5 ⟨rfl, hb⟩
      clear hsy
      have HX5 := Lib.hid (HX4.out.below hb HX4.out.lt)
      have HC5 := Lib.hid ((HC4.out.below hb).more hb.size)
      have HB5 := Lib.hid (nextB HB4.out (Nat.le_refl _) hb)
      have HO5 := Lib.hid (HO4.out.below hb)
      clear hb
      clear k0 k1 k2 k3 k4 k5 k6 k7 k8
      have k0 : w5.cell? ⟨w.heap.size, 0, none⟩ = some (.int .i64 nv) := (HX5.out.cell 0).trans rfl
      have k1 : w5.cell? ⟨w.heap.size, 1, none⟩ = some (.int .i64 ng) := (HX5.out.cell 1).trans rfl
      have k2 : w5.cell? ⟨w.heap.size, 2, none⟩ = some (.int .i64 nb) := (HX5.out.cell 2).trans rfl
      have k3 : w5.cell? ⟨w.heap.size, 3, none⟩ = some (.int .u64 (fl : Int)) := (HX5.out.cell 3).trans rfl
      have k4 : w5.cell? ⟨w.heap.size, 4, none⟩ = some (.slice vA vn vc) := (HX5.out.cell 4).trans rfl
      have k5 : w5.cell? ⟨w.heap.size, 5, none⟩ = some (.slice gA gn gc) := (HX5.out.cell 5).trans rfl
      have k6 : w5.cell? ⟨w.heap.size, 6, none⟩ = some (.slice bA bn bc) := (HX5.out.cell 6).trans rfl
      have k7 : w5.cell? ⟨w.heap.size, 7, none⟩ = some (.slice kA kn kc) := (HX5.out.cell 7).trans rfl
      have k8 : w5.cell? ⟨w.heap.size, 8, none⟩ = some (.slice tA tn tc) := (HX5.out.cell 8).trans rfl

      have y1 : ((n : Int) != (n : Int)) = false := by simp
      have y2 : ((n : Int) == (n : Int)) = true := by simp
      go_wp2_with fail
      refine (get_any HO5.out.seg HPB.out HO5.out.cap (Own.max HO5.out) (by rw [← HN.out]; omega)).mono ?_
      rintro e w6 hg
      obtain ⟨d, rfl, hd, hpl, hsh, hb⟩ := HGB.out _ _ _ HR.out hg
      clear hg hsh
      have HD6 := Lib.hid hd
      have HPL := Lib.hid hpl
      clear hd hpl
      have HX6 := Lib.hid (HX5.out.below hb HX5.out.lt)
      have HC6 := Lib.hid ((HC5.out.below hb).more hb.size)
      have HB6 := Lib.hid (nextB HB5.out (Nat.le_refl _) hb)
      have HO6 := Lib.hid (HO5.out.below hb)
      clear hb
      clear k0 k1 k2 k3 k4 k5 k6 k7 k8
      have k0 : w6.cell? ⟨w.heap.size, 0, none⟩ = some (.int .i64 nv) := (HX6.out.cell 0).trans rfl
      have k1 : w6.cell? ⟨w.heap.size, 1, none⟩ = some (.int .i64 ng) := (HX6.out.cell 1).trans rfl
      have k2 : w6.cell? ⟨w.heap.size, 2, none⟩ = some (.int .i64 nb) := (HX6.out.cell 2).trans rfl
      have k3 : w6.cell? ⟨w.heap.size, 3, none⟩ = some (.int .u64 (fl : Int)) := (HX6.out.cell 3).trans rfl
      have k4 : w6.cell? ⟨w.heap.size, 4, none⟩ = some (.slice vA vn vc) := (HX6.out.cell 4).trans rfl
      have k5 : w6.cell? ⟨w.heap.size, 5, none⟩ = some (.slice gA gn gc) := (HX6.out.cell 5).trans rfl
      have k6 : w6.cell? ⟨w.heap.size, 6, none⟩ = some (.slice bA bn bc) := (HX6.out.cell 6).trans rfl
      have k7 : w6.cell? ⟨w.heap.size, 7, none⟩ = some (.slice kA kn kc) := (HX6.out.cell 7).trans rfl
      have k8 : w6.cell? ⟨w.heap.size, 8, none⟩ = some (.slice tA tn tc) := (HX6.out.cell 8).trans rfl

      obtain ⟨dnv, dng, dnb, dfl, dvA, dvn, dvc, dv, dgA, dgn, dgc, dg, dbA, dbn, dbc, db, dkA, dkn, dkc, dkl, dtA, dtn, dtc, dt⟩ := d
      unfold Cat.val Cat.cells
      have HXD := Lib.hid (Box.new w6 #[.int .i64 dnv, .int .i64 dng, .int .i64 dnb, .int .u64 (dfl : Int), .slice dvA dvn dvc, .slice dgA dgn dgc, .slice dbA dbn dbc, .slice dkA dkn dkc, .slice dtA dtn dtc] 68)
      have HX7 := Lib.hid (HX6.out.alloc (.cells #[.int .i64 dnv, .int .i64 dng, .int .i64 dnb, .int .u64 (dfl : Int), .slice dvA dvn dvc, .slice dgA dgn dgc, .slice dbA dbn dbc, .slice dkA dkn dkc, .slice dtA dtn dtc] 68))
      have HC7 := Lib.hid ((HC6.out.below ((Below.refl _ _).alloc (Nat.le_refl _) (.cells #[.int .i64 dnv, .int .i64 dng, .int .i64 dnb, .int .u64 (dfl : Int), .slice dvA dvn dvc, .slice dgA dgn dgc, .slice dbA dbn dbc, .slice dkA dkn dkc, .slice dtA dtn dtc] 68))).more (show w6.heap.size ≤ (w6.alloc (.cells #[.int .i64 dnv, .int .i64 dng, .int .i64 dnb, .int .u64 (dfl : Int), .slice dvA dvn dvc, .slice dgA dgn dgc, .slice dbA dbn dbc, .slice dkA dkn dkc, .slice dtA dtn dtc] 68)).heap.size by simp))
      have HD7 := Lib.hid ((HD6.out.below ((Below.refl _ _).alloc (Nat.le_refl _) (.cells #[.int .i64 dnv, .int .i64 dng, .int .i64 dnb, .int .u64 (dfl : Int), .slice dvA dvn dvc, .slice dgA dgn dgc, .slice dbA dbn dbc, .slice dkA dkn dkc, .slice dtA dtn dtc] 68))).more (show w6.heap.size ≤ (w6.alloc (.cells #[.int .i64 dnv, .int .i64 dng, .int .i64 dnb, .int .u64 (dfl : Int), .slice dvA dvn dvc, .slice dgA dgn dgc, .slice dbA dbn dbc, .slice dkA dkn dkc, .slice dtA dtn dtc] 68)).heap.size by simp))
      have HB7 := Lib.hid (HB6.out.alloc HB6.out.size (.cells #[.int .i64 dnv, .int .i64 dng, .int .i64 dnb, .int .u64 (dfl : Int), .slice dvA dvn dvc, .slice dgA dgn dgc, .slice dbA dbn dbc, .slice dkA dkn dkc, .slice dtA dtn dtc] 68))
      have HO7 := Lib.hid (HO6.out.alloc (.cells #[.int .i64 dnv, .int .i64 dng, .int .i64 dnb, .int .u64 (dfl : Int), .slice dvA dvn dvc, .slice dgA dgn dgc, .slice dbA dbn dbc, .slice dkA dkn dkc, .slice dtA dtn dtc] 68))
      have K7 := Lib.hid (show (w6.alloc (.cells #[.int .i64 dnv, .int .i64 dng, .int .i64 dnb, .int .u64 (dfl : Int), .slice dvA dvn dvc, .slice dgA dgn dgc, .slice dbA dbn dbc, .slice dkA dkn dkc, .slice dtA dtn dtc] 68)).cell? ⟨w.heap.size, 0, none⟩ = some (.int .i64 nv) ∧ (w6.alloc (.cells #[.int .i64 dnv, .int .i64 dng, .int .i64 dnb, .int .u64 (dfl : Int), .slice dvA dvn dvc, .slice dgA dgn dgc, .slice dbA dbn dbc, .slice dkA dkn dkc, .slice dtA dtn dtc] 68)).cell? ⟨w.heap.size, 1, none⟩ = some (.int .i64 ng) ∧ (w6.alloc (.cells #[.int .i64 dnv, .int .i64 dng, .int .i64 dnb, .int .u64 (dfl : Int), .slice dvA dvn dvc, .slice dgA dgn dgc, .slice dbA dbn dbc, .slice dkA dkn dkc, .slice dtA dtn dtc] 68)).cell? ⟨w.heap.size, 2, none⟩ = some (.int .i64 nb) ∧ (w6.alloc (.cells #[.int .i64 dnv, .int .i64 dng, .int .i64 dnb, .int .u64 (dfl : Int), .slice dvA dvn dvc, .slice dgA dgn dgc, .slice dbA dbn dbc, .slice dkA dkn dkc, .slice dtA dtn dtc] 68)).cell? ⟨w.heap.size, 3, none⟩ = some (.int .u64 (fl : Int)) ∧ (w6.alloc (.cells #[.int .i64 dnv, .int .i64 dng, .int .i64 dnb, .int .u64 (dfl : Int), .slice dvA dvn dvc, .slice dgA dgn dgc, .slice dbA dbn dbc, .slice dkA dkn dkc, .slice dtA dtn dtc] 68)).cell? ⟨w.heap.size, 4, none⟩ = some (.slice vA vn vc) ∧ (w6.alloc (.cells #[.int .i64 dnv, .int .i64 dng, .int .i64 dnb, .int .u64 (dfl : Int), .slice dvA dvn dvc, .slice dgA dgn dgc, .slice dbA dbn dbc, .slice dkA dkn dkc, .slice dtA dtn dtc] 68)).cell? ⟨w.heap.size, 5, none⟩ = some (.slice gA gn gc) ∧ (w6.alloc (.cells #[.int .i64 dnv, .int .i64 dng, .int .i64 dnb, .int .u64 (dfl : Int), .slice dvA dvn dvc, .slice dgA dgn dgc, .slice dbA dbn dbc, .slice dkA dkn dkc, .slice dtA dtn dtc] 68)).cell? ⟨w.heap.size, 6, none⟩ = some (.slice bA bn bc) ∧ (w6.alloc (.cells #[.int .i64 dnv, .int .i64 dng, .int .i64 dnb, .int .u64 (dfl : Int), .slice dvA dvn dvc, .slice dgA dgn dgc, .slice dbA dbn dbc, .slice dkA dkn dkc, .slice dtA dtn dtc] 68)).cell? ⟨w.heap.size, 7, none⟩ = some (.slice kA kn kc) ∧ (w6.alloc (.cells #[.int .i64 dnv, .int .i64 dng, .int .i64 dnb, .int .u64 (dfl : Int), .slice dvA dvn dvc, .slice dgA dgn dgc, .slice dbA dbn dbc, .slice dkA dkn dkc, .slice dtA dtn dtc] 68)).cell? ⟨w.heap.size, 8, none⟩ = some (.slice tA tn tc) from ⟨(HX7.out.cell 0).trans rfl, (HX7.out.cell 1).trans rfl, (HX7.out.cell 2).trans rfl, (HX7.out.cell 3).trans rfl, (HX7.out.cell 4).trans rfl, (HX7.out.cell 5).trans rfl, (HX7.out.cell 6).trans rfl, (HX7.out.cell 7).trans rfl, (HX7.out.cell 8).trans rfl⟩)
      clear k0 k1 k2 k3 k4 k5 k6 k7 k8
      obtain ⟨k0, k1, k2, k3, k4, k5, k6, k7, k8⟩ := K7.out
      go_wp2_with fail
      generalize hwx : w6.alloc (.cells #[.int .i64 dnv, .int .i64 dng, .int .i64 dnb, .int .u64 (dfl : Int), .slice dvA dvn dvc, .slice dgA dgn dgc, .slice dbA dbn dbc, .slice dkA dkn dkc, .slice dtA dtn dtc] 68) = w7 at *
      generalize hgx : w6.heap.size = gd at *
      clear hwx hgx K7
      refine (HRP.out _ HC7.out HR.out).mono ?_
      rintro e w8 ⟨A2, n2, c2, hn2, rfl, hown, hb⟩
      have HP8 := Lib.hid hown
      have HD8 := Lib.hid ((HD7.out.below hb).more hb.size)
      have HXE := Lib.hid (HXD.out.below hb HXD.out.lt)
      clear hown hn2
      have HX8 := Lib.hid (HX7.out.below hb HX7.out.lt)
      have HC8 := Lib.hid ((HC7.out.below hb).more hb.size)
      have HB8 := Lib.hid (nextB HB7.out (Nat.le_refl _) hb)
      have HO8 := Lib.hid (HO7.out.below hb)
      clear hb
      clear k0 k1 k2 k3 k4 k5 k6 k7 k8
      have k0 : w8.cell? ⟨w.heap.size, 0, none⟩ = some (.int .i64 nv) := (HX8.out.cell 0).trans rfl
      have k1 : w8.cell? ⟨w.heap.size, 1, none⟩ = some (.int .i64 ng) := (HX8.out.cell 1).trans rfl
      have k2 : w8.cell? ⟨w.heap.size, 2, none⟩ = some (.int .i64 nb) := (HX8.out.cell 2).trans rfl
      have k3 : w8.cell? ⟨w.heap.size, 3, none⟩ = some (.int .u64 (fl : Int)) := (HX8.out.cell 3).trans rfl
      have k4 : w8.cell? ⟨w.heap.size, 4, none⟩ = some (.slice vA vn vc) := (HX8.out.cell 4).trans rfl
      have k5 : w8.cell? ⟨w.heap.size, 5, none⟩ = some (.slice gA gn gc) := (HX8.out.cell 5).trans rfl
      have k6 : w8.cell? ⟨w.heap.size, 6, none⟩ = some (.slice bA bn bc) := (HX8.out.cell 6).trans rfl
      have k7 : w8.cell? ⟨w.heap.size, 7, none⟩ = some (.slice kA kn kc) := (HX8.out.cell 7).trans rfl
      have k8 : w8.cell? ⟨w.heap.size, 8, none⟩ = some (.slice tA tn tc) := (HX8.out.cell 8).trans rfl

      have j0 : w8.cell? ⟨gd, 0, none⟩ = some (.int .i64 dnv) := (HXE.out.cell 0).trans rfl
      have j1 : w8.cell? ⟨gd, 1, none⟩ = some (.int .i64 dng) := (HXE.out.cell 1).trans rfl
      have j2 : w8.cell? ⟨gd, 2, none⟩ = some (.int .i64 dnb) := (HXE.out.cell 2).trans rfl
      have j3 : w8.cell? ⟨gd, 3, none⟩ = some (.int .u64 (dfl : Int)) := (HXE.out.cell 3).trans rfl
      have j4 : w8.cell? ⟨gd, 4, none⟩ = some (.slice dvA dvn dvc) := (HXE.out.cell 4).trans rfl
      have j5 : w8.cell? ⟨gd, 5, none⟩ = some (.slice dgA dgn dgc) := (HXE.out.cell 5).trans rfl
      have j6 : w8.cell? ⟨gd, 6, none⟩ = some (.slice dbA dbn dbc) := (HXE.out.cell 6).trans rfl
      have j7 : w8.cell? ⟨gd, 7, none⟩ = some (.slice dkA dkn dkc) := (HXE.out.cell 7).trans rfl
      have j8 : w8.cell? ⟨gd, 8, none⟩ = some (.slice dtA dtn dtc) := (HXE.out.cell 8).trans rfl
      go_wp2_with fail
      refine (equal_any c' c2 HO8.out.seg HP8.out.seg HPB.out HPB.out).mono ?_
      rintro e w9 ⟨rfl, rfl⟩
      rw [decide_eq_true rfl]
      go_wp2_with fail
      refine (HSAME.out _ _ HC8.out HD8.out HPL.out HSHORT.out).mono ?_
      rintro e w9 ⟨rfl, hb⟩
      have HX9 := Lib.hid (HX8.out.below hb HX8.out.lt)
      have HC9 := Lib.hid ((HC8.out.below hb).more hb.size)
      have HB9 := Lib.hid (nextB HB8.out (Nat.le_refl _) hb)
      clear hb
      clear k0 k1 k2 k3 k4 k5 k6 k7 k8 j0 j1 j2 j3 j4 j5 j6 j7 j8
      go_wp2_with fail
      refine (alive_true _).mono ?_
      rintro e w10 ⟨rfl, hb⟩
      have HB10 := Lib.hid (nextB HB9.out (Nat.le_refl _) hb)
      clear hb
      go_wp2_with fail
      go_ret
      exact ⟨rfl, HB10.out⟩
    · have HR := Lib.hid hr
      clear hr
      go_wp2_with fail
      refine (HPN.out _ HC1.out HSHORT.out HR.out).mono ?_
      rintro e w2 ⟨rfl, hb⟩
      have HX2 := Lib.hid (HX1.out.below hb HX1.out.lt)
      have HC2 := Lib.hid ((HC1.out.below hb).more hb.size)
      have HB2 := Lib.hid (nextB HB1.out (Nat.le_refl _) hb)
      clear hb
      clear k0 k1 k2 k3 k4 k5 k6 k7 k8
      have k0 : w2.cell? ⟨w.heap.size, 0, none⟩ = some (.int .i64 nv) := (HX2.out.cell 0).trans rfl
      have k1 : w2.cell? ⟨w.heap.size, 1, none⟩ = some (.int .i64 ng) := (HX2.out.cell 1).trans rfl
      have k2 : w2.cell? ⟨w.heap.size, 2, none⟩ = some (.int .i64 nb) := (HX2.out.cell 2).trans rfl
      have k3 : w2.cell? ⟨w.heap.size, 3, none⟩ = some (.int .u64 (fl : Int)) := (HX2.out.cell 3).trans rfl
      have k4 : w2.cell? ⟨w.heap.size, 4, none⟩ = some (.slice vA vn vc) := (HX2.out.cell 4).trans rfl
      have k5 : w2.cell? ⟨w.heap.size, 5, none⟩ = some (.slice gA gn gc) := (HX2.out.cell 5).trans rfl
      have k6 : w2.cell? ⟨w.heap.size, 6, none⟩ = some (.slice bA bn bc) := (HX2.out.cell 6).trans rfl
      have k7 : w2.cell? ⟨w.heap.size, 7, none⟩ = some (.slice kA kn kc) := (HX2.out.cell 7).trans rfl
      have k8 : w2.cell? ⟨w.heap.size, 8, none⟩ = some (.slice tA tn tc) := (HX2.out.cell 8).trans rfl

      go_wp2_with fail
      refine (HREF.out _ HC2.out HSHORT.out).mono ?_
      rintro e w3 ⟨hsay, hb⟩
      obtain ⟨b1, rfl, hsay⟩ := hsay
      obtain rfl : b1 = false := by
        rcases Bool.eq_false_or_eq_true b1 with h | h
        · exact absurd (hsay.1 h) HR.out
        · exact h
      clear hsay
      have HX3 := Lib.hid (HX2.out.below hb HX2.out.lt)
      have HC3 := Lib.hid ((HC2.out.below hb).more hb.size)
      have HB3 := Lib.hid (nextB HB2.out (Nat.le_refl _) hb)
      clear hb
      clear k0 k1 k2 k3 k4 k5 k6 k7 k8
      have k0 : w3.cell? ⟨w.heap.size, 0, none⟩ = some (.int .i64 nv) := (HX3.out.cell 0).trans rfl
      have k1 : w3.cell? ⟨w.heap.size, 1, none⟩ = some (.int .i64 ng) := (HX3.out.cell 1).trans rfl
      have k2 : w3.cell? ⟨w.heap.size, 2, none⟩ = some (.int .i64 nb) := (HX3.out.cell 2).trans rfl
      have k3 : w3.cell? ⟨w.heap.size, 3, none⟩ = some (.int .u64 (fl : Int)) := (HX3.out.cell 3).trans rfl
      have k4 : w3.cell? ⟨w.heap.size, 4, none⟩ = some (.slice vA vn vc) := (HX3.out.cell 4).trans rfl
      have k5 : w3.cell? ⟨w.heap.size, 5, none⟩ = some (.slice gA gn gc) := (HX3.out.cell 5).trans rfl
      have k6 : w3.cell? ⟨w.heap.size, 6, none⟩ = some (.slice bA bn bc) := (HX3.out.cell 6).trans rfl
      have k7 : w3.cell? ⟨w.heap.size, 7, none⟩ = some (.slice kA kn kc) := (HX3.out.cell 7).trans rfl
      have k8 : w3.cell? ⟨w.heap.size, 8, none⟩ = some (.slice tA tn tc) := (HX3.out.cell 8).trans rfl

      go_wp2_with fail
      refine (HRIGHT.out _ HC3.out HSHORT.out).mono ?_
      rintro e w4 ⟨hsay, hb⟩
      obtain ⟨b1, rfl, hsay⟩ := hsay
      obtain rfl : b1 = false := by
        rcases Bool.eq_false_or_eq_true b1 with h | h
        · exact absurd (hsay.1 h) HR.out
        · exact h
      clear hsay
      have HX4 := Lib.hid (HX3.out.below hb HX3.out.lt)
      have HC4 := Lib.hid ((HC3.out.below hb).more hb.size)
      have HB4 := Lib.hid (nextB HB3.out (Nat.le_refl _) hb)
      clear hb
      clear k0 k1 k2 k3 k4 k5 k6 k7 k8
      have k0 : w4.cell? ⟨w.heap.size, 0, none⟩ = some (.int .i64 nv) := (HX4.out.cell 0).trans rfl
      have k1 : w4.cell? ⟨w.heap.size, 1, none⟩ = some (.int .i64 ng) := (HX4.out.cell 1).trans rfl
      have k2 : w4.cell? ⟨w.heap.size, 2, none⟩ = some (.int .i64 nb) := (HX4.out.cell 2).trans rfl
      have k3 : w4.cell? ⟨w.heap.size, 3, none⟩ = some (.int .u64 (fl : Int)) := (HX4.out.cell 3).trans rfl
      have k4 : w4.cell? ⟨w.heap.size, 4, none⟩ = some (.slice vA vn vc) := (HX4.out.cell 4).trans rfl
      have k5 : w4.cell? ⟨w.heap.size, 5, none⟩ = some (.slice gA gn gc) := (HX4.out.cell 5).trans rfl
      have k6 : w4.cell? ⟨w.heap.size, 6, none⟩ = some (.slice bA bn bc) := (HX4.out.cell 6).trans rfl
      have k7 : w4.cell? ⟨w.heap.size, 7, none⟩ = some (.slice kA kn kc) := (HX4.out.cell 7).trans rfl
      have k8 : w4.cell? ⟨w.heap.size, 8, none⟩ = some (.slice tA tn tc) := (HX4.out.cell 8).trans rfl

      go_wp2_with fail
      refine (HSN.out _ HC4.out HSHORT.out HR.out).mono ?_
      rintro e w5 ⟨rfl, hb⟩
      have HX5 := Lib.hid (HX4.out.below hb HX4.out.lt)
      have HC5 := Lib.hid ((HC4.out.below hb).more hb.size)
      have HB5 := Lib.hid (nextB HB4.out (Nat.le_refl _) hb)
      clear hb

      clear k0 k1 k2 k3 k4 k5 k6 k7 k8
      go_wp2_with fail
      refine (alive_true _).mono ?_
      rintro e w10 ⟨rfl, hb⟩
      have HB10 := Lib.hid (nextB HB5.out (Nat.le_refl _) hb)
      clear hb
      go_wp2_with fail
      go_ret
      exact ⟨rfl, HB10.out⟩
end Go.Proofs.Ytaagfmaboggbhaa.cat
