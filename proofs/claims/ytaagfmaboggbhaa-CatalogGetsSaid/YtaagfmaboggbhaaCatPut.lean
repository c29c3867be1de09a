/-
  The walk of catalog.Put.
-/
import Derived.Test.YtaagfmaboggbhaaCatRPut
import Derived.Deep.DeepCutAuto
namespace Go.Proofs.Ytaagfmaboggbhaa.cat
open Go.RowKit
set_option linter.unusedVariables false
open fix (leB leB_len leB_isB leB_snoc bts_snoc one_u8 Came)

section
variable {P : Program} {ops : Array Oper} {Q : Exit → Act → World → Prop} {md : Region.Mode} {S : World → Prop} {fuel : Nat} {listed : Array Bool} {a : Act} {w : World}
/-- A call, one of several operations that may come up. -/
theorem callOpH {i f : Nat} {oi : Oper} {d : Tmp} {vals : Array Value} (hi : ops[i]? = some oi) (hd : oi.dst = some d)
    (hw : Region.wanted oi (yielded ops a.tmps) = true) (hrun : (execOp a.eval oi).run P w = .ok (.enter f vals) w)
    (hc : Calls P f vals w fun e w' => ∃ v, e = .returned v ∧ S w' ∧ (S w' → wpAnyH P md ops Q S fuel (listed.setIfInBounds i true) ⟨a.tmps.setIfInBounds d v, a.defers⟩ w')) : wpOp P ops Q i (fun a' w' => S w' ∧ wpAnyH P md ops Q S fuel (listed.setIfInBounds i true) a' w') a w := by
  unfold wpOp
  simp only [hi, hw, if_true]
  left
  unfold Oper.wp
  rw [hrun, Oper.upon_enter]
  refine hc.mono (fun e w' ⟨v, he, hS, h⟩ => ?_)
  subst he
  refine ⟨hS, ?_⟩
  rw [hd]
  exact h hS
end
theorem came_ne {W : World} {A A' : Option Addr} {g : Nat} (h : Came W A A') (hn : some g ≠ blk A) (hl : g < W.heap.size) : some g ≠ blk A' := by
  rcases h with h | ⟨k, h, hk⟩
  · rw [h]; exact hn
  · rw [h]; intro e; injection e with e; omega
theorem own_ne {W : World} {base n c : Nat} {e : TypeId} {A : Option Addr} {xs : List Value} (h : Own W base e A n c xs) : some W.heap.size ≠ blk A := fun e => by have := (h.lt _ e.symm).2; omega
theorem box_seg {W : World} {g : Nat} {t : TypeId} {v : Value} (h : Box W g t #[v]) : Seg W W.heap.size (some ⟨g, 0, none⟩) 1 [v] := Seg.block h h.lt
theorem keepB {W w1 : World} {g base n c : Nat} {e t : TypeId} {cs : Array Value} {A : Option Addr} {xs : List Value} (hb : Box W g t cs) (ho : Own W base e A n c xs) (hne : e ≠ t) (hg : W.grownBy w1 (blk A)) : Box w1 g t cs := hb.grown hg (hb.own_ne ho hne)
theorem size_bd {c : Cat} (h : RightC c) : ∀ z ∈ c.v, ∀ m ∈ z.l, m.2 ≤ 32 := fun z hz m hm => by
  obtain ⟨k, hk, rfl⟩ := List.mem_iff_getElem.1 hm
  exact (((h.2.2.2.2.1.1 z hz).1 k) hk).2.1
/-- The first so many of three numbers. -/
def h3 (q0 q1 q2 : Nat) (k : Nat) : List Nat := if k = 0 then [] else if k = 1 then leB q0 2 else if k = 2 then leB q0 2 ++ leB q1 2 else leB q0 2 ++ leB q1 2 ++ leB q2 2
theorem one_snoc (X : List Nat) (n : Nat) (h : n ≤ 255) : X ++ leB n 1 = X ++ [n] := by rw [byteN n h]
theorem below_put {B base : Nat} {a W W' : World} {n c : Nat} {A : Option Addr} {xs : List Value} (hb : Below B a W) (hB : B ≤ base) (hbase : base ≤ W.heap.size) (h : Own W base 5 A n c xs) (hg : W.grownBy W' (blk A)) : Below B a W' := below_app hb hB hbase h hg

set_option maxRecDepth 100000 in
set_option maxHeartbeats 3200000 in
theorem put_no {w : World} {c : Cat} (h : CatOk w w.heap.size c) (hs : c.Short) (hr : ¬ RightC c) :
    Calls Try.prog 37 #[c.val] w fun e w' => e = .returned (.tuple #[.slice none 0 0, .int .i64 10]) ∧ Below w.heap.size w w' := by
  have HC := Lib.hid h
  have HSH := Lib.hid hs
  have HNR := Lib.hid hr
  clear h hs hr
  have HR := Lib.hid (fun W : World => fun hW : CatOk W W.heap.size c => right_any hW HSH.out)
  have HVAL := Lib.hid (show c.val = Value.agg c.cells from rfl)
  obtain ⟨nv, ng, nb, fl, vA, vn, vc, v, gA, gn, gc, g, bA, bn, bc, b, kA, kn, kc, kl, tA, tn, tc, t⟩ := c
  unfold Cat.val Cat.cells at *
  simp only at HR HVAL
  go_enter Try.func37, Try.ntmps37
  go_wp2_with fail
  have HB := Lib.hid ((Below.refl w.heap.size w).alloc (Nat.le_refl _) (.cells #[.int .i64 nv, .int .i64 ng, .int .i64 nb, .int .u64 (fl : Int), .slice vA vn vc, .slice gA gn gc, .slice bA bn bc, .slice kA kn kc, .slice tA tn tc] 68))
  refine (HR.out _ ((HC.out.below HB.out).more HB.out.size)).mono ?_
  rintro e w1 ⟨hsay, hb1⟩
  obtain ⟨bb, rfl, hsay⟩ := hsay
  have HSAY := Lib.hid hsay
  have HB1 := Lib.hid (nextB HB.out (Nat.le_refl _) hb1)
  clear hsay hb1
  cases bb with
  | true => exact absurd (HSAY.out.1 rfl) HNR.out
  | false =>
    go_wp2_with fail
    go_ret2
    exact ⟨rfl, HB1.out⟩

set_option maxRecDepth 100000 in
set_option maxHeartbeats 25600000 in
theorem put_yes {w : World} {c : Cat} (h : CatOk w w.heap.size c) (hr : RightC c) :
    Calls Try.prog 37 #[c.val] w fun e w' => ∃ A n c', e = .returned (.tuple #[.slice A n c', .int .i64 0]) ∧ n = (putC c).length ∧ Own w' w.heap.size 5 A n c' (bts (putC c)) ∧ Below w.heap.size w w' := by
  have HPC := Lib.hid (show putC c = headB c ++ cntB volB c.v ++ cntB grpB c.g ++ cntB bkB c.b ++ cntB n64 c.k ++ cntB timeB c.t from rfl)
  have HHD := Lib.hid (show headB c = n16 c.nv ++ n16 c.ng ++ n16 c.nb ++ leB c.floor 8 from rfl)
  have hsh : c.Short := by
    have h1 := right_short hr
    exact ⟨by rw [← h.v.len]; omega, by rw [← h.g.len]; omega, by rw [← h.b.len]; omega, by have := h.k.1; rw [us_len] at this; omega, by rw [← h.t.len]; omega, fun z hz => by have := h1.2.2.2.2.2.1 z hz; rw [(h.v.ok z hz).len] at this; omega, fun z hz => by have := h1.2.2.2.2.2.2.1 z hz; rw [(h.g.ok z hz).len] at this; omega, fun z hz => by have := h1.2.2.2.2.2.2.2 z hz; rw [(h.b.ok z hz).len] at this; omega⟩
  have HRA := Lib.hid (fun W : World => fun hW : CatOk W W.heap.size c => right_any hW hsh)
  have HRC := Lib.hid hr
  have HC := Lib.hid h
  have HR := Lib.hid (putOk hr)
  have HSB := Lib.hid (size_bd hr)
  clear h hr hsh
  obtain ⟨nv, ng, nb, fl, vA, vn, vc, v, gA, gn, gc, g, bA, bn, bc, b, kA, kn, kc, kl, tA, tn, tc, t⟩ := c
  obtain ⟨q0, hq0, b0⟩ := nat_of HR.out.nv
  obtain ⟨q1, hq1, b1⟩ := nat_of HR.out.ng
  obtain ⟨q2, hq2, b2⟩ := nat_of HR.out.nb
  simp only at hq0 hq1 hq2
  subst hq0 hq1 hq2
  simp only [n16_nat] at HHD
  generalize putC _ = PC at *
  generalize headB _ = HD at *
  have HV := Lib.hid HC.out.v
  have HG := Lib.hid HC.out.g
  have HK := Lib.hid HC.out.k
  have HT := Lib.hid HC.out.t
  have HBK := Lib.hid HC.out.b
  have HKU := Lib.hid HC.out.ku
  have HLV := Lib.hid HC.out.v.len
  have HLG := Lib.hid HC.out.g.len
  have HLB := Lib.hid HC.out.b.len
  have HLK := Lib.hid (show kl.length = kn by have := HC.out.k.1; rwa [us_len] at this)
  have HLT := Lib.hid HC.out.t.len
  have hsz := HR.out.sz
  simp only at HV HG HK HT HBK HKU HLV HLG HLB HLT hsz
  have z1 : vn ≤ 8 := by have := HLV.out; omega
  have z2 : gn ≤ 4 := by have := HLG.out; omega
  have z3 : bn ≤ 8 := by have := HLB.out; omega
  have z4 : kn ≤ 32 := by have := HLK.out; omega
  have z5 : tn ≤ 64 := by have := HLT.out; omega
  have HZ6 := Lib.hid hsz.2.2.2.2.2
  clear hsz
  have HW0 := Lib.hid ((Below.refl w.heap.size w).alloc (Nat.le_refl _) (.cells #[.int .i64 (q0 : Int), .int .i64 (q1 : Int), .int .i64 (q2 : Int), .int .u64 (fl : Int), .slice vA vn vc, .slice gA gn gc, .slice bA bn bc, .slice kA kn kc, .slice tA tn tc] 68))
  have HB0 := Lib.hid (Box.new w #[.int .i64 (q0 : Int), .int .i64 (q1 : Int), .int .i64 (q2 : Int), .int .u64 (fl : Int), .slice vA vn vc, .slice gA gn gc, .slice bA bn bc, .slice kA kn kc, .slice tA tn tc] 68)
  have HS0 := Lib.hid (show (w.alloc (.cells #[.int .i64 (q0 : Int), .int .i64 (q1 : Int), .int .i64 (q2 : Int), .int .u64 (fl : Int), .slice vA vn vc, .slice gA gn gc, .slice bA bn bc, .slice kA kn kc, .slice tA tn tc] 68)).heap.size = w.heap.size + 1 by simp)
  unfold Cat.val Cat.cells at *
  go_enter Try.func37, Try.ntmps37
  go_wp2_with fail
  refine (HRA.out _ ((HC.out.below HW0.out).more HW0.out.size)).mono ?_
  rintro e w2 ⟨hsay, hb2⟩
  obtain ⟨bb, rfl, hsay⟩ := hsay
  have HSAY := Lib.hid hsay
  have HW2 := Lib.hid (nextB HW0.out (Nat.le_refl _) hb2)
  have HX2 := Lib.hid (HB0.out.below hb2 HB0.out.lt)
  have hsz2 : w.heap.size < w2.heap.size := HX2.out.lt
  clear hsay hb2
  cases bb with
  | false => have := HSAY.out.2 HRC.out; cases this
  | true =>
    clear HSAY HRC HRA HC HW0 HB0 HS0
    have m0 : w2.cell? ⟨w.heap.size, 0, none⟩ = some (.int .i64 (q0 : Int)) := (HX2.out.cell 0).trans rfl
    have m1 : w2.cell? ⟨w.heap.size, 1, none⟩ = some (.int .i64 (q1 : Int)) := (HX2.out.cell 1).trans rfl
    have m2 : w2.cell? ⟨w.heap.size, 2, none⟩ = some (.int .i64 (q2 : Int)) := (HX2.out.cell 2).trans rfl
    go_wp2_with fail
    have HV2 := Lib.hid ((HV.out.below HW2.out).more HW2.out.size)
    have HG2 := Lib.hid ((HG.out.below HW2.out).more HW2.out.size)
    have HBK2 := Lib.hid ((HBK.out.below HW2.out).more HW2.out.size)
    have HK2 := Lib.hid ((HK.out.below HW2.out).more HW2.out.size)
    have HT2 := Lib.hid ((HT.out.below HW2.out).more HW2.out.size)
    clear HV HG HBK HK HT m0 m1 m2
    go_loopw [4, 29] (fun bv iv wr => ∃ k : Nat, ∃ A1 n1 c1, k ≤ 3 ∧ iv = .int .i64 (k : Int) ∧ bv = .slice A1 n1 c1 ∧ n1 = 2 * k ∧ Own wr w2.heap.size 5 A1 n1 c1 (bts (h3 q0 q1 q2 k)) ∧ Below w2.heap.size w2 wr) (fun _ iv _ => 3 - (intOf iv).toNat)
    case atStart => exact ⟨0, none, 0, 0, by omega, rfl, rfl, rfl, Own.nil _ _ _, Below.refl _ _⟩
    case round =>
      obtain ⟨k, A1, n1, c1, hk, rfl, rfl, hl1, hown, hb⟩ := hrel
      have HO1 := Lib.hid hown
      have HB1 := Lib.hid hb
      clear hown hb
      rcases (by omega : k = 0 ∨ k = 1 ∨ k = 2 ∨ k = 3) with rfl | rfl | rfl | rfl
      · have hl1' : n1 ≤ 4 := by omega
        clear hl1
        have hix : (Instr.index 97 (.agg #[.int .i64 (q0 : Int), .int .i64 (q1 : Int), .int .i64 (q2 : Int)]) (.int .i64 0)).run Try.prog wr = .ok (.int .i64 (q0 : Int)) wr := by kernel_rfl
        go_wp2_with fail
        refine (put_to q0 2 HO1.out (by omega) HB1.out.size (by omega)).mono ?_
        rintro e w3 ⟨A3, n3, c3, hn3, rfl, ho, hg, hcm⟩
        have HO3 := Lib.hid (show Own w3 w2.heap.size 5 A3 n3 c3 (bts (h3 q0 q1 q2 1)) from ho)
        have HB3 := Lib.hid (below_put HB1.out (Nat.le_refl _) HB1.out.size HO1.out hg)
        have HN3 := Lib.hid (show n3 = 2 * 1 by rw [hn3]; show (h3 q0 q1 q2 1).length = _; simp [h3, leB_len])
        clear ho hg hcm hn3 hix
        go_wp2_with fail
        go_roundw
        case rel => exact ⟨1, A3, n3, c3, by omega, rfl, rfl, HN3.out, HO3.out, HB3.out⟩
        case measure => simp [intOf]
      · have hl1' : n1 ≤ 4 := by omega
        clear hl1
        have hix : (Instr.index 97 (.agg #[.int .i64 (q0 : Int), .int .i64 (q1 : Int), .int .i64 (q2 : Int)]) (.int .i64 1)).run Try.prog wr = .ok (.int .i64 (q1 : Int)) wr := by kernel_rfl
        go_wp2_with fail
        refine (put_to q1 2 HO1.out (by omega) HB1.out.size (by omega)).mono ?_
        rintro e w3 ⟨A3, n3, c3, hn3, rfl, ho, hg, hcm⟩
        have HO3 := Lib.hid (show Own w3 w2.heap.size 5 A3 n3 c3 (bts (h3 q0 q1 q2 2)) from ho)
        have HB3 := Lib.hid (below_put HB1.out (Nat.le_refl _) HB1.out.size HO1.out hg)
        have HN3 := Lib.hid (show n3 = 2 * 2 by rw [hn3]; show (h3 q0 q1 q2 2).length = _; simp [h3, leB_len])
        clear ho hg hcm hn3 hix
        go_wp2_with fail
        go_roundw
        case rel => exact ⟨2, A3, n3, c3, by omega, rfl, rfl, HN3.out, HO3.out, HB3.out⟩
        case measure => simp [intOf]
      · have hl1' : n1 ≤ 4 := by omega
        clear hl1
        have hix : (Instr.index 97 (.agg #[.int .i64 (q0 : Int), .int .i64 (q1 : Int), .int .i64 (q2 : Int)]) (.int .i64 2)).run Try.prog wr = .ok (.int .i64 (q2 : Int)) wr := by kernel_rfl
        go_wp2_with fail
        refine (put_to q2 2 HO1.out (by omega) HB1.out.size (by omega)).mono ?_
        rintro e w3 ⟨A3, n3, c3, hn3, rfl, ho, hg, hcm⟩
        have HO3 := Lib.hid (show Own w3 w2.heap.size 5 A3 n3 c3 (bts (h3 q0 q1 q2 3)) from ho)
        have HB3 := Lib.hid (below_put HB1.out (Nat.le_refl _) HB1.out.size HO1.out hg)
        have HN3 := Lib.hid (show n3 = 2 * 3 by rw [hn3]; show (h3 q0 q1 q2 3).length = _; simp [h3, leB_len])
        clear ho hg hcm hn3 hix
        go_wp2_with fail
        go_roundw
        case rel => exact ⟨3, A3, n3, c3, by omega, rfl, rfl, HN3.out, HO3.out, HB3.out⟩
        case measure => simp [intOf]
      · have HO3 := Lib.hid (show Own wr w2.heap.size 5 A1 n1 c1 (bts (leB q0 2 ++ leB q1 2 ++ leB q2 2)) from HO1.out)
        have hl3 : n1 ≤ 6 := by omega
        clear hl1 HO1 hk
        generalize hwx : wr = w3 at *
        clear hwx
        have CELLS := Lib.hid (show ∀ W : World, Below w2.heap.size w2 W → (W.cell? ⟨w.heap.size, 3, none⟩ = some (.int .u64 (fl : Int)) ∧ W.cell? ⟨w.heap.size, 4, none⟩ = some (.slice vA vn vc)) from fun W hW => ⟨((HX2.out.below hW hsz2).cell 3).trans rfl, ((HX2.out.below hW hsz2).cell 4).trans rfl⟩)
        go_upto_region 9 with fail
        go_cut [4] (fun bv wx => ∃ A1 n1 c1, bv = .slice A1 n1 c1 ∧ n1 ≤ 200 ∧ Own wx w2.heap.size 5 A1 n1 c1 (bts (HD ++ leB vn 1)) ∧ Below w2.heap.size w2 wx)
        case first =>
          have HBa := Lib.hid (show Below w2.heap.size w2 w3.drew from HB1.out.drew)
          have HOa := Lib.hid HO3.out.drew
          have u0 : IntKind.u8.wrap (vn : Int) = (vn : Int) := IntWalk.u8_in _ (by omega)
          refine wp_region_held_drew (S := fun wx => wx.cell? ⟨w.heap.size, 3, none⟩ = some (.int .u64 (fl : Int)) ∧ wx.cell? ⟨w.heap.size, 4, none⟩ = some (.slice vA vn vc)) (by kernel_rfl) (CELLS.out _ HBa.out) (fun hHeld => ?_)
          refine takeH (i := 0) (d := 37) (v := .slice A1 n1 c1) rfl rfl (by kernel_rfl) (by kernel_rfl) (by kernel_rfl) (fun _ _ _ h => h) (by rfl) ?_ hHeld ?_
          · intro wz hSw
            (try dsimp only at hSw)
            go_simp
          simp only [List.setIfInBounds_toArray, List.set_cons_zero, List.set_cons_succ]
          refine takeH (i := 1) (d := 38) (v := .pointer (some ⟨w.heap.size, 3, none⟩)) rfl rfl (by kernel_rfl) (by kernel_rfl) (by kernel_rfl) (fun _ _ _ h => h) (by rfl) ?_ hHeld ?_
          · intro wz hSw
            (try dsimp only at hSw)
            go_simp
          simp only [List.setIfInBounds_toArray, List.set_cons_zero, List.set_cons_succ]
          refine takeH (i := 2) (d := 39) (v := .int .u64 (fl : Int)) rfl rfl (by kernel_rfl) (by kernel_rfl) (by kernel_rfl) (fun _ _ _ h => h) (by rfl) ?_ hHeld ?_
          · intro wz hSw
            (try dsimp only at hSw)
            go_simp
          simp only [List.setIfInBounds_toArray, List.set_cons_zero, List.set_cons_succ]
          refine takeH (i := 4) (d := 41) (v := .pointer (some ⟨w.heap.size, 4, none⟩)) rfl rfl (by kernel_rfl) (by kernel_rfl) (by kernel_rfl) (fun _ _ _ h => h) (by rfl) ?_ hHeld ?_
          · intro wz hSw
            (try dsimp only at hSw)
            go_simp
          simp only [List.setIfInBounds_toArray, List.set_cons_zero, List.set_cons_succ]
          refine takeH (i := 5) (d := 42) (v := .slice vA vn vc) rfl rfl (by kernel_rfl) (by kernel_rfl) (by kernel_rfl) (fun _ _ _ h => h) (by rfl) ?_ hHeld ?_
          · intro wz hSw
            (try dsimp only at hSw)
            go_simp
          simp only [List.setIfInBounds_toArray, List.set_cons_zero, List.set_cons_succ]
          refine takeH (i := 6) (d := 43) (v := .int .i64 (vn : Int)) rfl rfl (by kernel_rfl) (by kernel_rfl) (by kernel_rfl) (fun _ _ _ h => h) (by rfl) ?_ hHeld ?_
          · intro wz hSw
            (try dsimp only at hSw)
            go_simp
          simp only [List.setIfInBounds_toArray, List.set_cons_zero, List.set_cons_succ]
          refine takeH (i := 7) (d := 44) (v := .int .u8 (vn : Int)) rfl rfl (by kernel_rfl) (by kernel_rfl) (by kernel_rfl) (fun _ _ _ h => h) (by rfl) ?_ hHeld ?_
          · intro wz hSw
            (try dsimp only at hSw)
            go_simp
          simp only [List.setIfInBounds_toArray, List.set_cons_zero, List.set_cons_succ]
          refine twoH (i := 3) (j := 8) (by kernel_rfl) ?_ ?_
          · refine callOpH (d := 40) (f := 57) (vals := #[.slice A1 n1 c1, .int .u64 (fl : Int), .int .i64 8]) rfl rfl (by rfl) ?_ ?_
            · go_simp
            refine (put_to fl 8 HOa.out (by omega) HBa.out.size (by omega)).mono ?_
            rintro e wlp0 ⟨Alp0, nlp0, clp0, hnlp0, rfl, ho, hg, hcm⟩
            have hllp0 : nlp0 ≤ 14 := by
              rw [hnlp0, List.length_append, leB_len]
              have h9 := HOa.out.len
              rw [bts_len] at h9
              omega
            have HOlp0 := Lib.hid ho
            have HBlp0 := Lib.hid (below_put HBa.out (Nat.le_refl _) HBa.out.size HOa.out hg)
            clear ho hg hcm hnlp0
            have hcell : wlp0.cell? ⟨w.heap.size, 3, none⟩ = some (.int .u64 (fl : Int)) ∧ wlp0.cell? ⟨w.heap.size, 4, none⟩ = some (.slice vA vn vc) := CELLS.out _ HBlp0.out
            clear hHeld
            refine ⟨_, rfl, hcell, fun hHeld => ?_⟩
            simp only [List.setIfInBounds_toArray, List.set_cons_zero, List.set_cons_succ]
            clear hcell
            have HOlp0s := Lib.hid (HOlp0.out.alloc (Obj.cells #[.int .u8 (vn : Int)] 5))
            have HBlp0s := Lib.hid (HBlp0.out.alloc HBlp0.out.size (Obj.cells #[.int .u8 (vn : Int)] 5))
            have BXlp0s := Lib.hid (Box.new wlp0 #[.int .u8 (vn : Int)] 5)
            have HNlp0s := Lib.hid (own_ne HOlp0.out)
            have hcell : (wlp0.alloc (Obj.cells #[.int .u8 (vn : Int)] 5)).cell? ⟨w.heap.size, 3, none⟩ = some (.int .u64 (fl : Int)) ∧ (wlp0.alloc (Obj.cells #[.int .u8 (vn : Int)] 5)).cell? ⟨w.heap.size, 4, none⟩ = some (.slice vA vn vc) := CELLS.out _ HBlp0s.out
            refine stepH (i := 8) (d := 45) (v := .slice (some ⟨wlp0.heap.size, 0, none⟩) 1 1) (w' := (wlp0.alloc (Obj.cells #[.int .u8 (vn : Int)] 5))) rfl rfl (by kernel_rfl) (by rfl) ?_ hcell (fun hHeld => ?_)
            · go_simp
            simp only [List.setIfInBounds_toArray, List.set_cons_zero, List.set_cons_succ]
            clear hcell
            obtain ⟨Alp0sz, clp0sz, wlp0sz, hrun, hown, hg, hat⟩ := run_app (P := Try.prog) (wlp0.alloc (Obj.cells #[.int .u8 (vn : Int)] 5)) elemB 22 w2.heap.size HOlp0s.out 1 (box_seg BXlp0s.out) (one_u8 _) (by unfold maxLen; omega) (by omega) HBlp0s.out.size
            rw [← bts_snoc _ vn (vn : Int) rfl] at hown
            have HOlp0sz := Lib.hid hown
            have HBlp0sz := Lib.hid (below_put HBlp0s.out (Nat.le_refl _) HBlp0s.out.size HOlp0s.out hg)
            have HRUNlp0sz := Lib.hid hrun
            clear hown hg hat hrun
            have hcell : wlp0sz.cell? ⟨w.heap.size, 3, none⟩ = some (.int .u64 (fl : Int)) ∧ wlp0sz.cell? ⟨w.heap.size, 4, none⟩ = some (.slice vA vn vc) := CELLS.out _ HBlp0sz.out
            refine stepH (i := 9) (d := 46) (v := .slice Alp0sz (nlp0 + 1) clp0sz) (w' := wlp0sz) rfl rfl (by kernel_rfl) (by rfl) ?_ hcell (fun hHeld => ?_)
            · exact app_op (.tmp 40) (.tmp 45) rfl rfl rfl HRUNlp0sz.out
            simp only [List.setIfInBounds_toArray, List.set_cons_zero, List.set_cons_succ]
            clear hcell
            refine takeH (i := 10) (d := 4) (v := .slice Alp0sz (nlp0 + 1) clp0sz) rfl rfl (by kernel_rfl) (by kernel_rfl) (by kernel_rfl) (fun _ _ _ h => h) (by rfl) ?_ hHeld ?_
            · intro wz hSw
              (try dsimp only at hSw)
              go_simp
            simp only [List.setIfInBounds_toArray, List.set_cons_zero, List.set_cons_succ]
            refine wpAnyH_done (by kernel_rfl) ?_ _
            clear hHeld
            go_wp2_with fail
            go_meet
            case rel => exact ⟨Alp0sz, (nlp0 + 1), clp0sz, rfl, by omega, by rw [HHD.out, one_snoc _ _ (by omega)]; exact HOlp0sz.out, HBlp0sz.out⟩
          · have HOrs := Lib.hid (HOa.out.alloc (Obj.cells #[.int .u8 (vn : Int)] 5))
            have HBrs := Lib.hid (HBa.out.alloc HBa.out.size (Obj.cells #[.int .u8 (vn : Int)] 5))
            have BXrs := Lib.hid (Box.new w3.drew #[.int .u8 (vn : Int)] 5)
            have HNrs := Lib.hid (own_ne HOa.out)
            have hcell : (w3.drew.alloc (Obj.cells #[.int .u8 (vn : Int)] 5)).cell? ⟨w.heap.size, 3, none⟩ = some (.int .u64 (fl : Int)) ∧ (w3.drew.alloc (Obj.cells #[.int .u8 (vn : Int)] 5)).cell? ⟨w.heap.size, 4, none⟩ = some (.slice vA vn vc) := CELLS.out _ HBrs.out
            refine opH (d := 45) (v := .slice (some ⟨w3.drew.heap.size, 0, none⟩) 1 1) (w' := (w3.drew.alloc (Obj.cells #[.int .u8 (vn : Int)] 5))) rfl rfl (by rfl) ?_ hcell (fun hHeld => ?_)
            · go_simp
            simp only [List.setIfInBounds_toArray, List.set_cons_zero, List.set_cons_succ]
            clear hcell
            refine callH (i := 3) (d := 40) (f := 57) (vals := #[.slice A1 n1 c1, .int .u64 (fl : Int), .int .i64 8]) rfl rfl (by kernel_rfl) (by rfl) ?_ ?_
            · go_simp
            refine (put_to fl 8 HOrs.out (by omega) HBrs.out.size (by omega)).mono ?_
            rintro e wrsp0 ⟨Arsp0, nrsp0, crsp0, hnrsp0, rfl, ho, hg, hcm⟩
            have hlrsp0 : nrsp0 ≤ 14 := by
              rw [hnrsp0, List.length_append, leB_len]
              have h9 := HOrs.out.len
              rw [bts_len] at h9
              omega
            have HOrsp0 := Lib.hid ho
            have HBrsp0 := Lib.hid (below_put HBrs.out (Nat.le_refl _) HBrs.out.size HOrs.out hg)
            have HNrsp0 := Lib.hid (came_ne hcm HNrs.out BXrs.out.lt)
            have BXrsp0 := Lib.hid (BXrs.out.grown hg HNrs.out)
            clear ho hg hcm hnrsp0
            have hcell : wrsp0.cell? ⟨w.heap.size, 3, none⟩ = some (.int .u64 (fl : Int)) ∧ wrsp0.cell? ⟨w.heap.size, 4, none⟩ = some (.slice vA vn vc) := CELLS.out _ HBrsp0.out
            clear hHeld
            refine ⟨_, rfl, hcell, fun hHeld => ?_⟩
            simp only [List.setIfInBounds_toArray, List.set_cons_zero, List.set_cons_succ]
            clear hcell
            obtain ⟨Arsp0z, crsp0z, wrsp0z, hrun, hown, hg, hat⟩ := run_app (P := Try.prog) wrsp0 elemB 22 w2.heap.size HOrsp0.out 1 (box_seg BXrsp0.out) (one_u8 _) (by unfold maxLen; omega) (by omega) HBrsp0.out.size
            rw [← bts_snoc _ vn (vn : Int) rfl] at hown
            have HOrsp0z := Lib.hid hown
            have HBrsp0z := Lib.hid (below_put HBrsp0.out (Nat.le_refl _) HBrsp0.out.size HOrsp0.out hg)
            have HRUNrsp0z := Lib.hid hrun
            clear hown hg hat hrun
            have hcell : wrsp0z.cell? ⟨w.heap.size, 3, none⟩ = some (.int .u64 (fl : Int)) ∧ wrsp0z.cell? ⟨w.heap.size, 4, none⟩ = some (.slice vA vn vc) := CELLS.out _ HBrsp0z.out
            refine stepH (i := 9) (d := 46) (v := .slice Arsp0z (nrsp0 + 1) crsp0z) (w' := wrsp0z) rfl rfl (by kernel_rfl) (by rfl) ?_ hcell (fun hHeld => ?_)
            · exact app_op (.tmp 40) (.tmp 45) rfl rfl rfl HRUNrsp0z.out
            simp only [List.setIfInBounds_toArray, List.set_cons_zero, List.set_cons_succ]
            clear hcell
            refine takeH (i := 10) (d := 4) (v := .slice Arsp0z (nrsp0 + 1) crsp0z) rfl rfl (by kernel_rfl) (by kernel_rfl) (by kernel_rfl) (fun _ _ _ h => h) (by rfl) ?_ hHeld ?_
            · intro wz hSw
              (try dsimp only at hSw)
              go_simp
            simp only [List.setIfInBounds_toArray, List.set_cons_zero, List.set_cons_succ]
            refine wpAnyH_done (by kernel_rfl) ?_ _
            clear hHeld
            go_wp2_with fail
            go_meet
            case rel => exact ⟨Arsp0z, (nrsp0 + 1), crsp0z, rfl, by omega, by rw [HHD.out, one_snoc _ _ (by omega)]; exact HOrsp0z.out, HBrsp0z.out⟩
        case rest =>
          clear CELLS HO3 HB1 hl3
          obtain ⟨A1, n1, c1, rfl, hl1, hown, hb⟩ := hcut
          have HOv := Lib.hid hown
          have HBv := Lib.hid hb
          clear hown hb
          generalize wc = wv at *
          have m4 : wv.cell? ⟨w.heap.size, 4, none⟩ = some (.slice vA vn vc) := ((HX2.out.below HBv.out hsz2).cell 4).trans rfl
          go_wp2_with fail
          clear m4
          have Av := A1
          go_loopw [4, 50] (fun bv iv wr => ∃ k : Nat, ∃ A1 n1 c1, k ≤ vn ∧ iv = .int .i64 (k : Int) ∧ bv = .slice A1 n1 c1 ∧ n1 ≤ 200 + 300 * k ∧ Own wr w2.heap.size 5 A1 n1 c1 (bts (HD ++ leB vn 1 ++ (v.take k).flatMap volB)) ∧ Below w2.heap.size w2 wr) (fun _ iv _ => vn - (intOf iv).toNat)
          case atStart => exact ⟨0, A1, n1, c1, by omega, rfl, rfl, by omega, by simpa using HOv.out, HBv.out⟩
          case round =>
            clear HOv HBv
            obtain ⟨k, A1, n1, c1, hk, rfl, rfl, hl1, hown, hb⟩ := hrel
            have HO1 := Lib.hid hown
            have HB1 := Lib.hid hb
            clear hown hb
            have szr := HB1.out.size
            by_cases hlt : k < vn
            · have i0 : (0 : Int) ≤ (k : Int) := by omega
              have i1 : (k : Int) < (vn : Int) := by omega
              have i2 : ((k : Int)).toNat = k := by omega
              obtain ⟨bo, off, hkl, rfl, hbb, e0, e1, e2, hz⟩ := (HV2.out.below HB1.out).at_ hlt
              have HZW := Lib.hid ((HV2.out.ok _ (List.getElem_mem hkl)).seg)
              have HSN := Lib.hid (cnt_step volB v (HD ++ leB vn 1) hkl)
              have hzn : v[k].n ≤ 16 := by have := HZ6.out.1 _ (List.getElem_mem hkl); rw [hz.len] at this; exact this
              have HSZ := Lib.hid (HSB.out _ (List.getElem_mem hkl))
              obtain ⟨q, hq, hqb⟩ := nat_of (HR.out.vid _ (List.getElem_mem hkl))
              have HVZ := Lib.hid (show volB v[k] = leB v[k].id.toNat 2 ++ leB v[k].born 8 ++ (leB v[k].l.length 1 ++ v[k].l.flatMap sizeB) from rfl)
              have HLZ := Lib.hid hz.len
              clear hz
              (try simp only at hq)
              (try simp only at HSZ)
              rw [hq] at e0 HVZ
              rw [Int.toNat_natCast] at HVZ
              clear hq
              generalize volB v[k] = VB at *
              generalize v[k] = z at *
              obtain ⟨zi, zb, zA, zn, zc, zl⟩ := z
              simp only at e1 e2 hzn HVZ HLZ HSZ
              have HXV0 := Lib.hid (Box.new wr #[.int .i64 (q : Int), .int .u64 (zb : Int), .slice zA zn zc] 92)
              have HB4 := Lib.hid (HB1.out.alloc szr (.cells #[.int .i64 (q : Int), .int .u64 (zb : Int), .slice zA zn zc] 92))
              have HO4 := Lib.hid (HO1.out.alloc (.cells #[.int .i64 (q : Int), .int .u64 (zb : Int), .slice zA zn zc] 92))
              have hgs : w2.heap.size ≤ wr.heap.size := szr
              go_upto_region 13 with fail
              generalize hwx : (wr.alloc (.cells #[.int .i64 (q : Int), .int .u64 (zb : Int), .slice zA zn zc] 92)) = w5 at *
              generalize hgx : wr.heap.size = gv at *
              clear hwx hgx HO1 HB1 szr e0 e1 e2
              go_cut [4] (fun bv wx => ∃ A3 n3 c3, bv = .slice A3 n3 c3 ∧ n3 ≤ 211 + 300 * k ∧ Own wx w2.heap.size 5 A3 n3 c3 (bts (HD ++ leB vn 1 ++ (v.take k).flatMap volB ++ leB q 2 ++ leB zb 8 ++ leB zn 1)) ∧ Below w2.heap.size w2 wx ∧ Box wx gv 92 #[.int .i64 (q : Int), .int .u64 (zb : Int), .slice zA zn zc])
              case first =>
                have HBa := Lib.hid (show Below w2.heap.size w2 w5.drew from HB4.out.drew)
                have HOa := Lib.hid HO4.out.drew
                have XVa := Lib.hid (show Box w5.drew gv 92 #[.int .i64 (q : Int), .int .u64 (zb : Int), .slice zA zn zc] from HXV0.out)
                have u0 : IntKind.u64.wrap (q : Int) = (q : Int) := IntWalk.u64_in _ (by omega)
                have u1 : IntKind.u8.wrap (zn : Int) = (zn : Int) := IntWalk.u8_in _ (by omega)
                have hla : n1 ≤ 200 + 300 * k := hl1
                refine wp_region_held_drew (S := fun wx => wx.cell? ⟨gv, 0, none⟩ = some (.int .i64 (q : Int)) ∧ wx.cell? ⟨gv, 1, none⟩ = some (.int .u64 (zb : Int)) ∧ wx.cell? ⟨gv, 2, none⟩ = some (.slice zA zn zc)) (by kernel_rfl) ⟨(XVa.out.cell 0).trans rfl, (XVa.out.cell 1).trans rfl, (XVa.out.cell 2).trans rfl⟩ (fun hHeld => ?_)
                refine takeH (i := 0) (d := 54) (v := .slice A1 n1 c1) rfl rfl (by kernel_rfl) (by kernel_rfl) (by kernel_rfl) (fun _ _ _ h => h) (by rfl) ?_ hHeld ?_
                · intro wz hSw
                  (try dsimp only at hSw)
                  go_simp
                simp only [List.setIfInBounds_toArray, List.set_cons_zero, List.set_cons_succ]
                refine takeH (i := 1) (d := 55) (v := .pointer (some ⟨gv, 0, none⟩)) rfl rfl (by kernel_rfl) (by kernel_rfl) (by kernel_rfl) (fun _ _ _ h => h) (by rfl) ?_ hHeld ?_
                · intro wz hSw
                  (try dsimp only at hSw)
                  go_simp
                simp only [List.setIfInBounds_toArray, List.set_cons_zero, List.set_cons_succ]
                refine takeH (i := 2) (d := 56) (v := .int .i64 (q : Int)) rfl rfl (by kernel_rfl) (by kernel_rfl) (by kernel_rfl) (fun _ _ _ h => h) (by rfl) ?_ hHeld ?_
                · intro wz hSw
                  (try dsimp only at hSw)
                  go_simp
                simp only [List.setIfInBounds_toArray, List.set_cons_zero, List.set_cons_succ]
                refine takeH (i := 3) (d := 57) (v := .int .u64 (q : Int)) rfl rfl (by kernel_rfl) (by kernel_rfl) (by kernel_rfl) (fun _ _ _ h => h) (by rfl) ?_ hHeld ?_
                · intro wz hSw
                  (try dsimp only at hSw)
                  go_simp
                simp only [List.setIfInBounds_toArray, List.set_cons_zero, List.set_cons_succ]
                refine takeH (i := 5) (d := 59) (v := .pointer (some ⟨gv, 1, none⟩)) rfl rfl (by kernel_rfl) (by kernel_rfl) (by kernel_rfl) (fun _ _ _ h => h) (by rfl) ?_ hHeld ?_
                · intro wz hSw
                  (try dsimp only at hSw)
                  go_simp
                simp only [List.setIfInBounds_toArray, List.set_cons_zero, List.set_cons_succ]
                refine takeH (i := 6) (d := 60) (v := .int .u64 (zb : Int)) rfl rfl (by kernel_rfl) (by kernel_rfl) (by kernel_rfl) (fun _ _ _ h => h) (by rfl) ?_ hHeld ?_
                · intro wz hSw
                  (try dsimp only at hSw)
                  go_simp
                simp only [List.setIfInBounds_toArray, List.set_cons_zero, List.set_cons_succ]
                refine takeH (i := 8) (d := 62) (v := .pointer (some ⟨gv, 2, none⟩)) rfl rfl (by kernel_rfl) (by kernel_rfl) (by kernel_rfl) (fun _ _ _ h => h) (by rfl) ?_ hHeld ?_
                · intro wz hSw
                  (try dsimp only at hSw)
                  go_simp
                simp only [List.setIfInBounds_toArray, List.set_cons_zero, List.set_cons_succ]
                refine takeH (i := 9) (d := 63) (v := .slice zA zn zc) rfl rfl (by kernel_rfl) (by kernel_rfl) (by kernel_rfl) (fun _ _ _ h => h) (by rfl) ?_ hHeld ?_
                · intro wz hSw
                  (try dsimp only at hSw)
                  go_simp
                simp only [List.setIfInBounds_toArray, List.set_cons_zero, List.set_cons_succ]
                refine takeH (i := 10) (d := 64) (v := .int .i64 (zn : Int)) rfl rfl (by kernel_rfl) (by kernel_rfl) (by kernel_rfl) (fun _ _ _ h => h) (by rfl) ?_ hHeld ?_
                · intro wz hSw
                  (try dsimp only at hSw)
                  go_simp
                simp only [List.setIfInBounds_toArray, List.set_cons_zero, List.set_cons_succ]
                refine takeH (i := 11) (d := 65) (v := .int .u8 (zn : Int)) rfl rfl (by kernel_rfl) (by kernel_rfl) (by kernel_rfl) (fun _ _ _ h => h) (by rfl) ?_ hHeld ?_
                · intro wz hSw
                  (try dsimp only at hSw)
                  go_simp
                simp only [List.setIfInBounds_toArray, List.set_cons_zero, List.set_cons_succ]
                refine twoH (i := 4) (j := 12) (by kernel_rfl) ?_ ?_
                · refine callOpH (d := 58) (f := 57) (vals := #[.slice A1 n1 c1, .int .u64 (q : Int), .int .i64 2]) rfl rfl (by rfl) ?_ ?_
                  · go_simp
                  refine (put_to q 2 HOa.out (by omega) HBa.out.size (by omega)).mono ?_
                  rintro e wlp0 ⟨Alp0, nlp0, clp0, hnlp0, rfl, ho, hg, hcm⟩
                  have hllp0 : nlp0 ≤ 202 + 300 * k := by
                    rw [hnlp0, List.length_append, leB_len]
                    have h9 := HOa.out.len
                    rw [bts_len] at h9
                    omega
                  have HOlp0 := Lib.hid ho
                  have HBlp0 := Lib.hid (below_put HBa.out (Nat.le_refl _) HBa.out.size HOa.out hg)
                  have XVlp0 := Lib.hid (keepB XVa.out HOa.out (by decide) hg)
                  clear ho hg hcm hnlp0
                  have hcell : wlp0.cell? ⟨gv, 0, none⟩ = some (.int .i64 (q : Int)) ∧ wlp0.cell? ⟨gv, 1, none⟩ = some (.int .u64 (zb : Int)) ∧ wlp0.cell? ⟨gv, 2, none⟩ = some (.slice zA zn zc) := ⟨(XVlp0.out.cell 0).trans rfl, (XVlp0.out.cell 1).trans rfl, (XVlp0.out.cell 2).trans rfl⟩
                  clear hHeld
                  refine ⟨_, rfl, hcell, fun hHeld => ?_⟩
                  simp only [List.setIfInBounds_toArray, List.set_cons_zero, List.set_cons_succ]
                  clear hcell
                  refine twoH (i := 7) (j := 12) (by kernel_rfl) ?_ ?_
                  · refine callOpH (d := 61) (f := 57) (vals := #[.slice Alp0 nlp0 clp0, .int .u64 (zb : Int), .int .i64 8]) rfl rfl (by rfl) ?_ ?_
                    · go_simp
                    refine (put_to zb 8 HOlp0.out (by omega) HBlp0.out.size (by omega)).mono ?_
                    rintro e wlp0lp1 ⟨Alp0lp1, nlp0lp1, clp0lp1, hnlp0lp1, rfl, ho, hg, hcm⟩
                    have hllp0lp1 : nlp0lp1 ≤ 210 + 300 * k := by
                      rw [hnlp0lp1, List.length_append, leB_len]
                      have h9 := HOlp0.out.len
                      rw [bts_len] at h9
                      omega
                    have HOlp0lp1 := Lib.hid ho
                    have HBlp0lp1 := Lib.hid (below_put HBlp0.out (Nat.le_refl _) HBlp0.out.size HOlp0.out hg)
                    have XVlp0lp1 := Lib.hid (keepB XVlp0.out HOlp0.out (by decide) hg)
                    clear ho hg hcm hnlp0lp1
                    have hcell : wlp0lp1.cell? ⟨gv, 0, none⟩ = some (.int .i64 (q : Int)) ∧ wlp0lp1.cell? ⟨gv, 1, none⟩ = some (.int .u64 (zb : Int)) ∧ wlp0lp1.cell? ⟨gv, 2, none⟩ = some (.slice zA zn zc) := ⟨(XVlp0lp1.out.cell 0).trans rfl, (XVlp0lp1.out.cell 1).trans rfl, (XVlp0lp1.out.cell 2).trans rfl⟩
                    clear hHeld
                    refine ⟨_, rfl, hcell, fun hHeld => ?_⟩
                    simp only [List.setIfInBounds_toArray, List.set_cons_zero, List.set_cons_succ]
                    clear hcell
                    have HOlp0lp1s := Lib.hid (HOlp0lp1.out.alloc (Obj.cells #[.int .u8 (zn : Int)] 5))
                    have HBlp0lp1s := Lib.hid (HBlp0lp1.out.alloc HBlp0lp1.out.size (Obj.cells #[.int .u8 (zn : Int)] 5))
                    have BXlp0lp1s := Lib.hid (Box.new wlp0lp1 #[.int .u8 (zn : Int)] 5)
                    have HNlp0lp1s := Lib.hid (own_ne HOlp0lp1.out)
                    have XVlp0lp1s := Lib.hid (XVlp0lp1.out.alloc (Obj.cells #[.int .u8 (zn : Int)] 5))
                    have hcell : (wlp0lp1.alloc (Obj.cells #[.int .u8 (zn : Int)] 5)).cell? ⟨gv, 0, none⟩ = some (.int .i64 (q : Int)) ∧ (wlp0lp1.alloc (Obj.cells #[.int .u8 (zn : Int)] 5)).cell? ⟨gv, 1, none⟩ = some (.int .u64 (zb : Int)) ∧ (wlp0lp1.alloc (Obj.cells #[.int .u8 (zn : Int)] 5)).cell? ⟨gv, 2, none⟩ = some (.slice zA zn zc) := ⟨(XVlp0lp1s.out.cell 0).trans rfl, (XVlp0lp1s.out.cell 1).trans rfl, (XVlp0lp1s.out.cell 2).trans rfl⟩
                    refine stepH (i := 12) (d := 66) (v := .slice (some ⟨wlp0lp1.heap.size, 0, none⟩) 1 1) (w' := (wlp0lp1.alloc (Obj.cells #[.int .u8 (zn : Int)] 5))) rfl rfl (by kernel_rfl) (by rfl) ?_ hcell (fun hHeld => ?_)
                    · go_simp
                    simp only [List.setIfInBounds_toArray, List.set_cons_zero, List.set_cons_succ]
                    clear hcell
                    obtain ⟨Alp0lp1sz, clp0lp1sz, wlp0lp1sz, hrun, hown, hg, hat⟩ := run_app (P := Try.prog) (wlp0lp1.alloc (Obj.cells #[.int .u8 (zn : Int)] 5)) elemB 22 w2.heap.size HOlp0lp1s.out 1 (box_seg BXlp0lp1s.out) (one_u8 _) (by unfold maxLen; omega) (by omega) HBlp0lp1s.out.size
                    rw [← bts_snoc _ zn (zn : Int) rfl] at hown
                    have HOlp0lp1sz := Lib.hid hown
                    have HBlp0lp1sz := Lib.hid (below_put HBlp0lp1s.out (Nat.le_refl _) HBlp0lp1s.out.size HOlp0lp1s.out hg)
                    have XVlp0lp1sz := Lib.hid (keepB XVlp0lp1s.out HOlp0lp1s.out (by decide) hg)
                    have HRUNlp0lp1sz := Lib.hid hrun
                    clear hown hg hat hrun
                    have hcell : wlp0lp1sz.cell? ⟨gv, 0, none⟩ = some (.int .i64 (q : Int)) ∧ wlp0lp1sz.cell? ⟨gv, 1, none⟩ = some (.int .u64 (zb : Int)) ∧ wlp0lp1sz.cell? ⟨gv, 2, none⟩ = some (.slice zA zn zc) := ⟨(XVlp0lp1sz.out.cell 0).trans rfl, (XVlp0lp1sz.out.cell 1).trans rfl, (XVlp0lp1sz.out.cell 2).trans rfl⟩
                    refine stepH (i := 13) (d := 67) (v := .slice Alp0lp1sz (nlp0lp1 + 1) clp0lp1sz) (w' := wlp0lp1sz) rfl rfl (by kernel_rfl) (by rfl) ?_ hcell (fun hHeld => ?_)
                    · exact app_op (.tmp 61) (.tmp 66) rfl rfl rfl HRUNlp0lp1sz.out
                    simp only [List.setIfInBounds_toArray, List.set_cons_zero, List.set_cons_succ]
                    clear hcell
                    refine takeH (i := 14) (d := 4) (v := .slice Alp0lp1sz (nlp0lp1 + 1) clp0lp1sz) rfl rfl (by kernel_rfl) (by kernel_rfl) (by kernel_rfl) (fun _ _ _ h => h) (by rfl) ?_ hHeld ?_
                    · intro wz hSw
                      (try dsimp only at hSw)
                      go_simp
                    simp only [List.setIfInBounds_toArray, List.set_cons_zero, List.set_cons_succ]
                    refine wpAnyH_done (by kernel_rfl) ?_ _
                    clear hHeld
                    go_wp2_with fail
                    go_meet
                    case rel => exact ⟨Alp0lp1sz, (nlp0lp1 + 1), clp0lp1sz, rfl, by omega, by rw [one_snoc _ _ (by omega)]; exact HOlp0lp1sz.out, HBlp0lp1sz.out, XVlp0lp1sz.out⟩
                  · have HOlp0rs := Lib.hid (HOlp0.out.alloc (Obj.cells #[.int .u8 (zn : Int)] 5))
                    have HBlp0rs := Lib.hid (HBlp0.out.alloc HBlp0.out.size (Obj.cells #[.int .u8 (zn : Int)] 5))
                    have BXlp0rs := Lib.hid (Box.new wlp0 #[.int .u8 (zn : Int)] 5)
                    have HNlp0rs := Lib.hid (own_ne HOlp0.out)
                    have XVlp0rs := Lib.hid (XVlp0.out.alloc (Obj.cells #[.int .u8 (zn : Int)] 5))
                    have hcell : (wlp0.alloc (Obj.cells #[.int .u8 (zn : Int)] 5)).cell? ⟨gv, 0, none⟩ = some (.int .i64 (q : Int)) ∧ (wlp0.alloc (Obj.cells #[.int .u8 (zn : Int)] 5)).cell? ⟨gv, 1, none⟩ = some (.int .u64 (zb : Int)) ∧ (wlp0.alloc (Obj.cells #[.int .u8 (zn : Int)] 5)).cell? ⟨gv, 2, none⟩ = some (.slice zA zn zc) := ⟨(XVlp0rs.out.cell 0).trans rfl, (XVlp0rs.out.cell 1).trans rfl, (XVlp0rs.out.cell 2).trans rfl⟩
                    refine opH (d := 66) (v := .slice (some ⟨wlp0.heap.size, 0, none⟩) 1 1) (w' := (wlp0.alloc (Obj.cells #[.int .u8 (zn : Int)] 5))) rfl rfl (by rfl) ?_ hcell (fun hHeld => ?_)
                    · go_simp
                    simp only [List.setIfInBounds_toArray, List.set_cons_zero, List.set_cons_succ]
                    clear hcell
                    refine callH (i := 7) (d := 61) (f := 57) (vals := #[.slice Alp0 nlp0 clp0, .int .u64 (zb : Int), .int .i64 8]) rfl rfl (by kernel_rfl) (by rfl) ?_ ?_
                    · go_simp
                    refine (put_to zb 8 HOlp0rs.out (by omega) HBlp0rs.out.size (by omega)).mono ?_
                    rintro e wlp0rsp1 ⟨Alp0rsp1, nlp0rsp1, clp0rsp1, hnlp0rsp1, rfl, ho, hg, hcm⟩
                    have hllp0rsp1 : nlp0rsp1 ≤ 210 + 300 * k := by
                      rw [hnlp0rsp1, List.length_append, leB_len]
                      have h9 := HOlp0rs.out.len
                      rw [bts_len] at h9
                      omega
                    have HOlp0rsp1 := Lib.hid ho
                    have HBlp0rsp1 := Lib.hid (below_put HBlp0rs.out (Nat.le_refl _) HBlp0rs.out.size HOlp0rs.out hg)
                    have XVlp0rsp1 := Lib.hid (keepB XVlp0rs.out HOlp0rs.out (by decide) hg)
                    have HNlp0rsp1 := Lib.hid (came_ne hcm HNlp0rs.out BXlp0rs.out.lt)
                    have BXlp0rsp1 := Lib.hid (BXlp0rs.out.grown hg HNlp0rs.out)
                    clear ho hg hcm hnlp0rsp1
                    have hcell : wlp0rsp1.cell? ⟨gv, 0, none⟩ = some (.int .i64 (q : Int)) ∧ wlp0rsp1.cell? ⟨gv, 1, none⟩ = some (.int .u64 (zb : Int)) ∧ wlp0rsp1.cell? ⟨gv, 2, none⟩ = some (.slice zA zn zc) := ⟨(XVlp0rsp1.out.cell 0).trans rfl, (XVlp0rsp1.out.cell 1).trans rfl, (XVlp0rsp1.out.cell 2).trans rfl⟩
                    clear hHeld
                    refine ⟨_, rfl, hcell, fun hHeld => ?_⟩
                    simp only [List.setIfInBounds_toArray, List.set_cons_zero, List.set_cons_succ]
                    clear hcell
                    obtain ⟨Alp0rsp1z, clp0rsp1z, wlp0rsp1z, hrun, hown, hg, hat⟩ := run_app (P := Try.prog) wlp0rsp1 elemB 22 w2.heap.size HOlp0rsp1.out 1 (box_seg BXlp0rsp1.out) (one_u8 _) (by unfold maxLen; omega) (by omega) HBlp0rsp1.out.size
                    rw [← bts_snoc _ zn (zn : Int) rfl] at hown
                    have HOlp0rsp1z := Lib.hid hown
                    have HBlp0rsp1z := Lib.hid (below_put HBlp0rsp1.out (Nat.le_refl _) HBlp0rsp1.out.size HOlp0rsp1.out hg)
                    have XVlp0rsp1z := Lib.hid (keepB XVlp0rsp1.out HOlp0rsp1.out (by decide) hg)
                    have HRUNlp0rsp1z := Lib.hid hrun
                    clear hown hg hat hrun
                    have hcell : wlp0rsp1z.cell? ⟨gv, 0, none⟩ = some (.int .i64 (q : Int)) ∧ wlp0rsp1z.cell? ⟨gv, 1, none⟩ = some (.int .u64 (zb : Int)) ∧ wlp0rsp1z.cell? ⟨gv, 2, none⟩ = some (.slice zA zn zc) := ⟨(XVlp0rsp1z.out.cell 0).trans rfl, (XVlp0rsp1z.out.cell 1).trans rfl, (XVlp0rsp1z.out.cell 2).trans rfl⟩
                    refine stepH (i := 13) (d := 67) (v := .slice Alp0rsp1z (nlp0rsp1 + 1) clp0rsp1z) (w' := wlp0rsp1z) rfl rfl (by kernel_rfl) (by rfl) ?_ hcell (fun hHeld => ?_)
                    · exact app_op (.tmp 61) (.tmp 66) rfl rfl rfl HRUNlp0rsp1z.out
                    simp only [List.setIfInBounds_toArray, List.set_cons_zero, List.set_cons_succ]
                    clear hcell
                    refine takeH (i := 14) (d := 4) (v := .slice Alp0rsp1z (nlp0rsp1 + 1) clp0rsp1z) rfl rfl (by kernel_rfl) (by kernel_rfl) (by kernel_rfl) (fun _ _ _ h => h) (by rfl) ?_ hHeld ?_
                    · intro wz hSw
                      (try dsimp only at hSw)
                      go_simp
                    simp only [List.setIfInBounds_toArray, List.set_cons_zero, List.set_cons_succ]
                    refine wpAnyH_done (by kernel_rfl) ?_ _
                    clear hHeld
                    go_wp2_with fail
                    go_meet
                    case rel => exact ⟨Alp0rsp1z, (nlp0rsp1 + 1), clp0rsp1z, rfl, by omega, by rw [one_snoc _ _ (by omega)]; exact HOlp0rsp1z.out, HBlp0rsp1z.out, XVlp0rsp1z.out⟩
                · have HOrs := Lib.hid (HOa.out.alloc (Obj.cells #[.int .u8 (zn : Int)] 5))
                  have HBrs := Lib.hid (HBa.out.alloc HBa.out.size (Obj.cells #[.int .u8 (zn : Int)] 5))
                  have BXrs := Lib.hid (Box.new w5.drew #[.int .u8 (zn : Int)] 5)
                  have HNrs := Lib.hid (own_ne HOa.out)
                  have XVrs := Lib.hid (XVa.out.alloc (Obj.cells #[.int .u8 (zn : Int)] 5))
                  have hcell : (w5.drew.alloc (Obj.cells #[.int .u8 (zn : Int)] 5)).cell? ⟨gv, 0, none⟩ = some (.int .i64 (q : Int)) ∧ (w5.drew.alloc (Obj.cells #[.int .u8 (zn : Int)] 5)).cell? ⟨gv, 1, none⟩ = some (.int .u64 (zb : Int)) ∧ (w5.drew.alloc (Obj.cells #[.int .u8 (zn : Int)] 5)).cell? ⟨gv, 2, none⟩ = some (.slice zA zn zc) := ⟨(XVrs.out.cell 0).trans rfl, (XVrs.out.cell 1).trans rfl, (XVrs.out.cell 2).trans rfl⟩
                  refine opH (d := 66) (v := .slice (some ⟨w5.drew.heap.size, 0, none⟩) 1 1) (w' := (w5.drew.alloc (Obj.cells #[.int .u8 (zn : Int)] 5))) rfl rfl (by rfl) ?_ hcell (fun hHeld => ?_)
                  · go_simp
                  simp only [List.setIfInBounds_toArray, List.set_cons_zero, List.set_cons_succ]
                  clear hcell
                  refine callH (i := 4) (d := 58) (f := 57) (vals := #[.slice A1 n1 c1, .int .u64 (q : Int), .int .i64 2]) rfl rfl (by kernel_rfl) (by rfl) ?_ ?_
                  · go_simp
                  refine (put_to q 2 HOrs.out (by omega) HBrs.out.size (by omega)).mono ?_
                  rintro e wrsp0 ⟨Arsp0, nrsp0, crsp0, hnrsp0, rfl, ho, hg, hcm⟩
                  have hlrsp0 : nrsp0 ≤ 202 + 300 * k := by
                    rw [hnrsp0, List.length_append, leB_len]
                    have h9 := HOrs.out.len
                    rw [bts_len] at h9
                    omega
                  have HOrsp0 := Lib.hid ho
                  have HBrsp0 := Lib.hid (below_put HBrs.out (Nat.le_refl _) HBrs.out.size HOrs.out hg)
                  have XVrsp0 := Lib.hid (keepB XVrs.out HOrs.out (by decide) hg)
                  have HNrsp0 := Lib.hid (came_ne hcm HNrs.out BXrs.out.lt)
                  have BXrsp0 := Lib.hid (BXrs.out.grown hg HNrs.out)
                  clear ho hg hcm hnrsp0
                  have hcell : wrsp0.cell? ⟨gv, 0, none⟩ = some (.int .i64 (q : Int)) ∧ wrsp0.cell? ⟨gv, 1, none⟩ = some (.int .u64 (zb : Int)) ∧ wrsp0.cell? ⟨gv, 2, none⟩ = some (.slice zA zn zc) := ⟨(XVrsp0.out.cell 0).trans rfl, (XVrsp0.out.cell 1).trans rfl, (XVrsp0.out.cell 2).trans rfl⟩
                  clear hHeld
                  refine ⟨_, rfl, hcell, fun hHeld => ?_⟩
                  simp only [List.setIfInBounds_toArray, List.set_cons_zero, List.set_cons_succ]
                  clear hcell
                  refine callH (i := 7) (d := 61) (f := 57) (vals := #[.slice Arsp0 nrsp0 crsp0, .int .u64 (zb : Int), .int .i64 8]) rfl rfl (by kernel_rfl) (by rfl) ?_ ?_
                  · go_simp
                  refine (put_to zb 8 HOrsp0.out (by omega) HBrsp0.out.size (by omega)).mono ?_
                  rintro e wrsp0p1 ⟨Arsp0p1, nrsp0p1, crsp0p1, hnrsp0p1, rfl, ho, hg, hcm⟩
                  have hlrsp0p1 : nrsp0p1 ≤ 210 + 300 * k := by
                    rw [hnrsp0p1, List.length_append, leB_len]
                    have h9 := HOrsp0.out.len
                    rw [bts_len] at h9
                    omega
                  have HOrsp0p1 := Lib.hid ho
                  have HBrsp0p1 := Lib.hid (below_put HBrsp0.out (Nat.le_refl _) HBrsp0.out.size HOrsp0.out hg)
                  have XVrsp0p1 := Lib.hid (keepB XVrsp0.out HOrsp0.out (by decide) hg)
                  have HNrsp0p1 := Lib.hid (came_ne hcm HNrsp0.out BXrsp0.out.lt)
                  have BXrsp0p1 := Lib.hid (BXrsp0.out.grown hg HNrsp0.out)
                  clear ho hg hcm hnrsp0p1
                  have hcell : wrsp0p1.cell? ⟨gv, 0, none⟩ = some (.int .i64 (q : Int)) ∧ wrsp0p1.cell? ⟨gv, 1, none⟩ = some (.int .u64 (zb : Int)) ∧ wrsp0p1.cell? ⟨gv, 2, none⟩ = some (.slice zA zn zc) := ⟨(XVrsp0p1.out.cell 0).trans rfl, (XVrsp0p1.out.cell 1).trans rfl, (XVrsp0p1.out.cell 2).trans rfl⟩
                  clear hHeld
                  refine ⟨_, rfl, hcell, fun hHeld => ?_⟩
                  simp only [List.setIfInBounds_toArray, List.set_cons_zero, List.set_cons_succ]
                  clear hcell
                  obtain ⟨Arsp0p1z, crsp0p1z, wrsp0p1z, hrun, hown, hg, hat⟩ := run_app (P := Try.prog) wrsp0p1 elemB 22 w2.heap.size HOrsp0p1.out 1 (box_seg BXrsp0p1.out) (one_u8 _) (by unfold maxLen; omega) (by omega) HBrsp0p1.out.size
                  rw [← bts_snoc _ zn (zn : Int) rfl] at hown
                  have HOrsp0p1z := Lib.hid hown
                  have HBrsp0p1z := Lib.hid (below_put HBrsp0p1.out (Nat.le_refl _) HBrsp0p1.out.size HOrsp0p1.out hg)
                  have XVrsp0p1z := Lib.hid (keepB XVrsp0p1.out HOrsp0p1.out (by decide) hg)
                  have HRUNrsp0p1z := Lib.hid hrun
                  clear hown hg hat hrun
                  have hcell : wrsp0p1z.cell? ⟨gv, 0, none⟩ = some (.int .i64 (q : Int)) ∧ wrsp0p1z.cell? ⟨gv, 1, none⟩ = some (.int .u64 (zb : Int)) ∧ wrsp0p1z.cell? ⟨gv, 2, none⟩ = some (.slice zA zn zc) := ⟨(XVrsp0p1z.out.cell 0).trans rfl, (XVrsp0p1z.out.cell 1).trans rfl, (XVrsp0p1z.out.cell 2).trans rfl⟩
                  refine stepH (i := 13) (d := 67) (v := .slice Arsp0p1z (nrsp0p1 + 1) crsp0p1z) (w' := wrsp0p1z) rfl rfl (by kernel_rfl) (by rfl) ?_ hcell (fun hHeld => ?_)
                  · exact app_op (.tmp 61) (.tmp 66) rfl rfl rfl HRUNrsp0p1z.out
                  simp only [List.setIfInBounds_toArray, List.set_cons_zero, List.set_cons_succ]
                  clear hcell
                  refine takeH (i := 14) (d := 4) (v := .slice Arsp0p1z (nrsp0p1 + 1) crsp0p1z) rfl rfl (by kernel_rfl) (by kernel_rfl) (by kernel_rfl) (fun _ _ _ h => h) (by rfl) ?_ hHeld ?_
                  · intro wz hSw
                    (try dsimp only at hSw)
                    go_simp
                  simp only [List.setIfInBounds_toArray, List.set_cons_zero, List.set_cons_succ]
                  refine wpAnyH_done (by kernel_rfl) ?_ _
                  clear hHeld
                  go_wp2_with fail
                  go_meet
                  case rel => exact ⟨Arsp0p1z, (nrsp0p1 + 1), crsp0p1z, rfl, by omega, by rw [one_snoc _ _ (by omega)]; exact HOrsp0p1z.out, HBrsp0p1z.out, XVrsp0p1z.out⟩
              case rest =>
                obtain ⟨Ad, nd, cd, rfl, hld, hown, hb, hbx⟩ := hcut
                have HOd := Lib.hid hown
                have HBd := Lib.hid hb
                have x2 : wc.cell? ⟨gv, 2, none⟩ = some (.slice zA zn zc) := (hbx.cell 2).trans rfl
                clear hown hb hbx HO4 HB4 HXV0
                have HMZ := Lib.hid (show VB = leB q 2 ++ leB zb 8 ++ (leB zn 1 ++ zl.flatMap sizeB) by rw [HVZ.out, HLZ.out])
                clear HVZ
                generalize wc = wd at *
                go_wp2_with fail
                clear x2
                go_loopw [4, 71] (fun bv iv wr => ∃ j : Nat, ∃ A3 n3 c3, j ≤ zn ∧ iv = .int .i64 (j : Int) ∧ bv = .slice A3 n3 c3 ∧ n3 ≤ 211 + 300 * k + 9 * j ∧ Own wr w2.heap.size 5 A3 n3 c3 (bts (HD ++ leB vn 1 ++ (v.take k).flatMap volB ++ leB q 2 ++ leB zb 8 ++ leB zn 1 ++ (zl.take j).flatMap sizeB)) ∧ Below w2.heap.size w2 wr) (fun _ iv _ => zn - (intOf iv).toNat)
                case atStart => exact ⟨0, Ad, nd, cd, by omega, rfl, rfl, by omega, by simpa using HOd.out, HBd.out⟩
                case round =>
                  clear HOd HBd hld
                  obtain ⟨j, A3, n3, c3, hj, rfl, rfl, hl3, hown, hb⟩ := hrel
                  have HO3 := Lib.hid hown
                  have HB3 := Lib.hid hb
                  clear hown hb
                  have szs := HB3.out.size
                  by_cases hjt : j < zn
                  · obtain ⟨bm, om, hjl, x, y, rfl, hbm, hxy, x0, x1, xb, yb⟩ := mk_at (HZW.out.below HB3.out) hjt
                    have HSM := Lib.hid (cnt_step sizeB zl (HD ++ leB vn 1 ++ (v.take k).flatMap volB ++ leB q 2 ++ leB zb 8 ++ leB zn 1) hjl)
                    have hy := HSZ.out _ (List.getElem_mem hjl)
                    rw [hxy] at HSM hy
                    simp only at hy
                    clear hxy
                    have j0 : (0 : Int) ≤ (j : Int) := by omega
                    have j1 : (j : Int) < (zn : Int) := by omega
                    have j2 : ((j : Int)).toNat = j := by omega
                    have XM0 := Lib.hid (Box.new wr #[.int .u64 (x : Int), .int .u64 (y : Int)] 100)
                    have HBm := Lib.hid (HB3.out.alloc szs (.cells #[.int .u64 (x : Int), .int .u64 (y : Int)] 100))
                    have HOm := Lib.hid (HO3.out.alloc (.cells #[.int .u64 (x : Int), .int .u64 (y : Int)] 100))
                    go_wp2_with fail
                    generalize hwx : (wr.alloc (.cells #[.int .u64 (x : Int), .int .u64 (y : Int)] 100)) = w6 at *
                    generalize hgx : wr.heap.size = gm at *
                    clear hwx hgx HO3 HB3 szs x0 x1
                    have HBa := Lib.hid (show Below w2.heap.size w2 w6.drew from HBm.out.drew)
                    have HOa := Lib.hid HOm.out.drew
                    have XMa := Lib.hid (show Box w6.drew gm 100 #[.int .u64 (x : Int), .int .u64 (y : Int)] from XM0.out)
                    have u1 : IntKind.u8.wrap (y : Int) = (y : Int) := IntWalk.u8_in _ (by omega)
                    refine wp_region_held_drew (S := fun wx => wx.cell? ⟨gm, 0, none⟩ = some (.int .u64 (x : Int)) ∧ wx.cell? ⟨gm, 1, none⟩ = some (.int .u64 (y : Int))) (by kernel_rfl) ⟨(XMa.out.cell 0).trans rfl, (XMa.out.cell 1).trans rfl⟩ (fun hHeld => ?_)
                    refine takeH (i := 0) (d := 75) (v := .slice A3 n3 c3) rfl rfl (by kernel_rfl) (by kernel_rfl) (by kernel_rfl) (fun _ _ _ h => h) (by rfl) ?_ hHeld ?_
                    · intro wz hSw
                      (try dsimp only at hSw)
                      go_simp
                    simp only [List.setIfInBounds_toArray, List.set_cons_zero, List.set_cons_succ]
                    refine takeH (i := 1) (d := 76) (v := .pointer (some ⟨gm, 0, none⟩)) rfl rfl (by kernel_rfl) (by kernel_rfl) (by kernel_rfl) (fun _ _ _ h => h) (by rfl) ?_ hHeld ?_
                    · intro wz hSw
                      (try dsimp only at hSw)
                      go_simp
                    simp only [List.setIfInBounds_toArray, List.set_cons_zero, List.set_cons_succ]
                    refine takeH (i := 2) (d := 77) (v := .int .u64 (x : Int)) rfl rfl (by kernel_rfl) (by kernel_rfl) (by kernel_rfl) (fun _ _ _ h => h) (by rfl) ?_ hHeld ?_
                    · intro wz hSw
                      (try dsimp only at hSw)
                      go_simp
                    simp only [List.setIfInBounds_toArray, List.set_cons_zero, List.set_cons_succ]
                    refine takeH (i := 4) (d := 79) (v := .pointer (some ⟨gm, 1, none⟩)) rfl rfl (by kernel_rfl) (by kernel_rfl) (by kernel_rfl) (fun _ _ _ h => h) (by rfl) ?_ hHeld ?_
                    · intro wz hSw
                      (try dsimp only at hSw)
                      go_simp
                    simp only [List.setIfInBounds_toArray, List.set_cons_zero, List.set_cons_succ]
                    refine takeH (i := 5) (d := 80) (v := .int .u64 (y : Int)) rfl rfl (by kernel_rfl) (by kernel_rfl) (by kernel_rfl) (fun _ _ _ h => h) (by rfl) ?_ hHeld ?_
                    · intro wz hSw
                      (try dsimp only at hSw)
                      go_simp
                    simp only [List.setIfInBounds_toArray, List.set_cons_zero, List.set_cons_succ]
                    refine takeH (i := 6) (d := 81) (v := .int .u8 (y : Int)) rfl rfl (by kernel_rfl) (by kernel_rfl) (by kernel_rfl) (fun _ _ _ h => h) (by rfl) ?_ hHeld ?_
                    · intro wz hSw
                      (try dsimp only at hSw)
                      go_simp
                    simp only [List.setIfInBounds_toArray, List.set_cons_zero, List.set_cons_succ]
                    refine twoH (i := 3) (j := 7) (by kernel_rfl) ?_ ?_
                    · refine callOpH (d := 78) (f := 57) (vals := #[.slice A3 n3 c3, .int .u64 (x : Int), .int .i64 8]) rfl rfl (by rfl) ?_ ?_
                      · go_simp
                      refine (put_to x 8 HOa.out (by omega) HBa.out.size (by omega)).mono ?_
                      rintro e wilp0 ⟨Ailp0, nilp0, cilp0, hnilp0, rfl, ho, hg, hcm⟩
                      have hlilp0 : nilp0 ≤ 219 + 300 * k + 9 * j := by
                        rw [hnilp0, List.length_append, leB_len]
                        have h9 := HOa.out.len
                        rw [bts_len] at h9
                        omega
                      have HOilp0 := Lib.hid ho
                      have HBilp0 := Lib.hid (below_put HBa.out (Nat.le_refl _) HBa.out.size HOa.out hg)
                      have XMilp0 := Lib.hid (keepB XMa.out HOa.out (by decide) hg)
                      clear ho hg hcm hnilp0
                      have hcell : wilp0.cell? ⟨gm, 0, none⟩ = some (.int .u64 (x : Int)) ∧ wilp0.cell? ⟨gm, 1, none⟩ = some (.int .u64 (y : Int)) := ⟨(XMilp0.out.cell 0).trans rfl, (XMilp0.out.cell 1).trans rfl⟩
                      clear hHeld
                      refine ⟨_, rfl, hcell, fun hHeld => ?_⟩
                      simp only [List.setIfInBounds_toArray, List.set_cons_zero, List.set_cons_succ]
                      clear hcell
                      have HOilp0s := Lib.hid (HOilp0.out.alloc (Obj.cells #[.int .u8 (y : Int)] 5))
                      have HBilp0s := Lib.hid (HBilp0.out.alloc HBilp0.out.size (Obj.cells #[.int .u8 (y : Int)] 5))
                      have BXilp0s := Lib.hid (Box.new wilp0 #[.int .u8 (y : Int)] 5)
                      have HNilp0s := Lib.hid (own_ne HOilp0.out)
                      have XMilp0s := Lib.hid (XMilp0.out.alloc (Obj.cells #[.int .u8 (y : Int)] 5))
                      have hcell : (wilp0.alloc (Obj.cells #[.int .u8 (y : Int)] 5)).cell? ⟨gm, 0, none⟩ = some (.int .u64 (x : Int)) ∧ (wilp0.alloc (Obj.cells #[.int .u8 (y : Int)] 5)).cell? ⟨gm, 1, none⟩ = some (.int .u64 (y : Int)) := ⟨(XMilp0s.out.cell 0).trans rfl, (XMilp0s.out.cell 1).trans rfl⟩
                      refine stepH (i := 7) (d := 82) (v := .slice (some ⟨wilp0.heap.size, 0, none⟩) 1 1) (w' := (wilp0.alloc (Obj.cells #[.int .u8 (y : Int)] 5))) rfl rfl (by kernel_rfl) (by rfl) ?_ hcell (fun hHeld => ?_)
                      · go_simp
                      simp only [List.setIfInBounds_toArray, List.set_cons_zero, List.set_cons_succ]
                      clear hcell
                      obtain ⟨Ailp0sz, cilp0sz, wilp0sz, hrun, hown, hg, hat⟩ := run_app (P := Try.prog) (wilp0.alloc (Obj.cells #[.int .u8 (y : Int)] 5)) elemB 22 w2.heap.size HOilp0s.out 1 (box_seg BXilp0s.out) (one_u8 _) (by unfold maxLen; omega) (by omega) HBilp0s.out.size
                      rw [← bts_snoc _ y (y : Int) rfl] at hown
                      have HOilp0sz := Lib.hid hown
                      have HBilp0sz := Lib.hid (below_put HBilp0s.out (Nat.le_refl _) HBilp0s.out.size HOilp0s.out hg)
                      have XMilp0sz := Lib.hid (keepB XMilp0s.out HOilp0s.out (by decide) hg)
                      have HRUNilp0sz := Lib.hid hrun
                      clear hown hg hat hrun
                      have hcell : wilp0sz.cell? ⟨gm, 0, none⟩ = some (.int .u64 (x : Int)) ∧ wilp0sz.cell? ⟨gm, 1, none⟩ = some (.int .u64 (y : Int)) := ⟨(XMilp0sz.out.cell 0).trans rfl, (XMilp0sz.out.cell 1).trans rfl⟩
                      refine stepH (i := 8) (d := 83) (v := .slice Ailp0sz (nilp0 + 1) cilp0sz) (w' := wilp0sz) rfl rfl (by kernel_rfl) (by rfl) ?_ hcell (fun hHeld => ?_)
                      · exact app_op (.tmp 78) (.tmp 82) rfl rfl rfl HRUNilp0sz.out
                      simp only [List.setIfInBounds_toArray, List.set_cons_zero, List.set_cons_succ]
                      clear hcell
                      refine takeH (i := 9) (d := 4) (v := .slice Ailp0sz (nilp0 + 1) cilp0sz) rfl rfl (by kernel_rfl) (by kernel_rfl) (by kernel_rfl) (fun _ _ _ h => h) (by rfl) ?_ hHeld ?_
                      · intro wz hSw
                        (try dsimp only at hSw)
                        go_simp
                      simp only [List.setIfInBounds_toArray, List.set_cons_zero, List.set_cons_succ]
                      refine wpAnyH_done (by kernel_rfl) ?_ _
                      clear hHeld
                      go_wp2_with fail
                      go_roundw
                      case rel => exact ⟨j + 1, Ailp0sz, (nilp0 + 1), cilp0sz, by omega, by go_num, rfl, by omega, by rw [HSM.out, ← sizeB_snoc _ (x, y), one_snoc _ _ (by omega)]; exact HOilp0sz.out, HBilp0sz.out⟩
                      case measure => simp [intOf]; omega
                    · have HOirs := Lib.hid (HOa.out.alloc (Obj.cells #[.int .u8 (y : Int)] 5))
                      have HBirs := Lib.hid (HBa.out.alloc HBa.out.size (Obj.cells #[.int .u8 (y : Int)] 5))
                      have BXirs := Lib.hid (Box.new w6.drew #[.int .u8 (y : Int)] 5)
                      have HNirs := Lib.hid (own_ne HOa.out)
                      have XMirs := Lib.hid (XMa.out.alloc (Obj.cells #[.int .u8 (y : Int)] 5))
                      have hcell : (w6.drew.alloc (Obj.cells #[.int .u8 (y : Int)] 5)).cell? ⟨gm, 0, none⟩ = some (.int .u64 (x : Int)) ∧ (w6.drew.alloc (Obj.cells #[.int .u8 (y : Int)] 5)).cell? ⟨gm, 1, none⟩ = some (.int .u64 (y : Int)) := ⟨(XMirs.out.cell 0).trans rfl, (XMirs.out.cell 1).trans rfl⟩
                      refine opH (d := 82) (v := .slice (some ⟨w6.drew.heap.size, 0, none⟩) 1 1) (w' := (w6.drew.alloc (Obj.cells #[.int .u8 (y : Int)] 5))) rfl rfl (by rfl) ?_ hcell (fun hHeld => ?_)
                      · go_simp
                      simp only [List.setIfInBounds_toArray, List.set_cons_zero, List.set_cons_succ]
                      clear hcell
                      refine callH (i := 3) (d := 78) (f := 57) (vals := #[.slice A3 n3 c3, .int .u64 (x : Int), .int .i64 8]) rfl rfl (by kernel_rfl) (by rfl) ?_ ?_
                      · go_simp
                      refine (put_to x 8 HOirs.out (by omega) HBirs.out.size (by omega)).mono ?_
                      rintro e wirsp0 ⟨Airsp0, nirsp0, cirsp0, hnirsp0, rfl, ho, hg, hcm⟩
                      have hlirsp0 : nirsp0 ≤ 219 + 300 * k + 9 * j := by
                        rw [hnirsp0, List.length_append, leB_len]
                        have h9 := HOirs.out.len
                        rw [bts_len] at h9
                        omega
                      have HOirsp0 := Lib.hid ho
                      have HBirsp0 := Lib.hid (below_put HBirs.out (Nat.le_refl _) HBirs.out.size HOirs.out hg)
                      have XMirsp0 := Lib.hid (keepB XMirs.out HOirs.out (by decide) hg)
                      have HNirsp0 := Lib.hid (came_ne hcm HNirs.out BXirs.out.lt)
                      have BXirsp0 := Lib.hid (BXirs.out.grown hg HNirs.out)
                      clear ho hg hcm hnirsp0
                      have hcell : wirsp0.cell? ⟨gm, 0, none⟩ = some (.int .u64 (x : Int)) ∧ wirsp0.cell? ⟨gm, 1, none⟩ = some (.int .u64 (y : Int)) := ⟨(XMirsp0.out.cell 0).trans rfl, (XMirsp0.out.cell 1).trans rfl⟩
                      clear hHeld
                      refine ⟨_, rfl, hcell, fun hHeld => ?_⟩
                      simp only [List.setIfInBounds_toArray, List.set_cons_zero, List.set_cons_succ]
                      clear hcell
                      obtain ⟨Airsp0z, cirsp0z, wirsp0z, hrun, hown, hg, hat⟩ := run_app (P := Try.prog) wirsp0 elemB 22 w2.heap.size HOirsp0.out 1 (box_seg BXirsp0.out) (one_u8 _) (by unfold maxLen; omega) (by omega) HBirsp0.out.size
                      rw [← bts_snoc _ y (y : Int) rfl] at hown
                      have HOirsp0z := Lib.hid hown
                      have HBirsp0z := Lib.hid (below_put HBirsp0.out (Nat.le_refl _) HBirsp0.out.size HOirsp0.out hg)
                      have XMirsp0z := Lib.hid (keepB XMirsp0.out HOirsp0.out (by decide) hg)
                      have HRUNirsp0z := Lib.hid hrun
                      clear hown hg hat hrun
                      have hcell : wirsp0z.cell? ⟨gm, 0, none⟩ = some (.int .u64 (x : Int)) ∧ wirsp0z.cell? ⟨gm, 1, none⟩ = some (.int .u64 (y : Int)) := ⟨(XMirsp0z.out.cell 0).trans rfl, (XMirsp0z.out.cell 1).trans rfl⟩
                      refine stepH (i := 8) (d := 83) (v := .slice Airsp0z (nirsp0 + 1) cirsp0z) (w' := wirsp0z) rfl rfl (by kernel_rfl) (by rfl) ?_ hcell (fun hHeld => ?_)
                      · exact app_op (.tmp 78) (.tmp 82) rfl rfl rfl HRUNirsp0z.out
                      simp only [List.setIfInBounds_toArray, List.set_cons_zero, List.set_cons_succ]
                      clear hcell
                      refine takeH (i := 9) (d := 4) (v := .slice Airsp0z (nirsp0 + 1) cirsp0z) rfl rfl (by kernel_rfl) (by kernel_rfl) (by kernel_rfl) (fun _ _ _ h => h) (by rfl) ?_ hHeld ?_
                      · intro wz hSw
                        (try dsimp only at hSw)
                        go_simp
                      simp only [List.setIfInBounds_toArray, List.set_cons_zero, List.set_cons_succ]
                      refine wpAnyH_done (by kernel_rfl) ?_ _
                      clear hHeld
                      go_wp2_with fail
                      go_roundw
                      case rel => exact ⟨j + 1, Airsp0z, (nirsp0 + 1), cirsp0z, by omega, by go_num, rfl, by omega, by rw [HSM.out, ← sizeB_snoc _ (x, y), one_snoc _ _ (by omega)]; exact HOirsp0z.out, HBirsp0z.out⟩
                      case measure => simp [intOf]; omega
                  · obtain rfl : zn = j := by omega
                    have HOF := Lib.hid (show Own wr w2.heap.size 5 A3 n3 c3 (bts (HD ++ leB vn 1 ++ (v.take (k + 1)).flatMap volB)) by
                      have h5 := HO3.out
                      rw [cnt_end sizeB zl (HD ++ leB vn 1 ++ (v.take k).flatMap volB ++ leB q 2 ++ leB zb 8) HLZ.out] at h5
                      rw [HSN.out, HMZ.out]
                      unfold cntB at h5
                      rw [HLZ.out] at h5
                      simpa only [List.append_assoc] using h5)
                    clear HO3
                    go_wp2_with fail
                    go_roundw
                    case rel => (repeat apply Exists.intro); exact ⟨⟨k + 1, A3, n3, c3, by omega, by go_num, rfl, by omega, HOF.out, HB3.out⟩, rfl⟩
                    case measure => simp [intOf]; omega
            · obtain rfl : vn = k := by omega
              have hlE : n1 ≤ 200 + 300 * vn := hl1
              have HOE := Lib.hid (show Own wr w2.heap.size 5 A1 n1 c1 (bts (HD ++ cntB volB v)) by rw [← cnt_end volB v (HD) HLV.out]; exact HO1.out)
              clear HO1 hl1 hlt hk
              have m5 : wr.cell? ⟨w.heap.size, 5, none⟩ = some (.slice gA gn gc) := ((HX2.out.below HB1.out hsz2).cell 5).trans rfl
              go_wp2_with ((at_builtin; refine wpList_app _ rfl (.tmp 86) (.tmp 91) elemB rfl w2.heap.size rfl (HOE.out.alloc _) _ rfl (Seg.one wr _ _) (one_u8 _) (by unfold maxLen; omega) (by omega) (by simp; omega) ?_; intro A2 c2 w4 hown1 hg1 hat1; rw [← bts_snoc _ gn (gn : Int) rfl, ← one_snoc _ _ (by omega)] at hown1; have HO2 := Lib.hid hown1; have HB2 := Lib.hid (below_put (HB1.out.alloc szr _) (Nat.le_refl _) (by simp; omega) (HOE.out.alloc _) hg1); have mB : w4.cell? ⟨w.heap.size, 5, none⟩ = some (.slice gA gn gc) := ((HX2.out.below HB2.out hsz2).cell 5).trans rfl; clear hown1 hg1 hat1))
              clear mB m5 HOE HB1 szr
              have HBz5 := HB2
              have HOz5 := HO2
              clear HB2 HO2
              have hlz5 : n1 + 1 ≤ 200 + 300 * vn + 1 := by omega
              clear hlE
              go_loopw [4, 96] (fun bv iv wr => ∃ k : Nat, ∃ A1 n1 c1, k ≤ gn ∧ iv = .int .i64 (k : Int) ∧ bv = .slice A1 n1 c1 ∧ n1 ≤ 2700 + 100 * k ∧ Own wr w2.heap.size 5 A1 n1 c1 (bts (HD ++ cntB volB v ++ leB gn 1 ++ (g.take k).flatMap grpB)) ∧ Below w2.heap.size w2 wr) (fun _ iv _ => gn - (intOf iv).toNat)
              case atStart => exact ⟨0, A2, (n1 + 1), c2, by omega, rfl, rfl, by omega, by simpa using HOz5.out, HBz5.out⟩
              case round =>
                clear HOz5 HBz5
                obtain ⟨k, A1, n1, c1, hk, rfl, rfl, hl1, hown, hb⟩ := hrel
                have HO1 := Lib.hid hown
                have HB1 := Lib.hid hb
                clear hown hb
                have szr := HB1.out.size
                by_cases hlt : k < gn
                · have i0 : (0 : Int) ≤ (k : Int) := by omega
                  have i1 : (k : Int) < (gn : Int) := by omega
                  have i2 : ((k : Int)).toNat = k := by omega
                  obtain ⟨bo, off, hkl, rfl, hbb, e0, e1, hz⟩ := (HG2.out.below HB1.out).at_ hlt
                  have HZW := Lib.hid ((HG2.out.ok _ (List.getElem_mem hkl)).seg.1)
                  have HSN := Lib.hid (cnt_step grpB g (HD ++ cntB volB v ++ leB gn 1) hkl)
                  have hzn : g[k].n ≤ 8 := by have := HZ6.out.2.1 _ (List.getElem_mem hkl); rw [hz.len] at this; exact this
                  obtain ⟨q, hq, hqb⟩ := nat_of (HR.out.gid _ (List.getElem_mem hkl))
                  have HSMM := Lib.hid (HR.out.gm _ (List.getElem_mem hkl))
                  have HVZ := Lib.hid (show grpB g[k] = leB g[k].id.toNat 2 ++ cntB n16 g[k].l from rfl)
                  clear hz
                  (try simp only at hq)
                  (try simp only at HSMM)
                  rw [hq] at e0 HVZ
                  rw [Int.toNat_natCast] at HVZ
                  clear hq
                  generalize grpB g[k] = VB at *
                  generalize g[k] = z at *
                  obtain ⟨zi, zA, zn, zc, zl⟩ := z
                  simp only at e0 e1 hzn HVZ HSMM
                  have HCL := Lib.hid (show (cntB n16 zl).length ≤ 17 by have h7 := cnt_len (f := n16) zl 2 8 (fun m _ => by simp [n16, leB_len]) (by have h6 : zl.length = zn := (nums_len zl).symm.trans HZW.out.1; omega); omega)
                  have HXV0 := Lib.hid (Box.new wr #[.int .i64 (q : Int), .slice zA zn zc] 94)
                  have HB4 := Lib.hid (HB1.out.alloc szr (.cells #[.int .i64 (q : Int), .slice zA zn zc] 94))
                  have HO4 := Lib.hid (HO1.out.alloc (.cells #[.int .i64 (q : Int), .slice zA zn zc] 94))
                  go_wp2_with fail
                  generalize hwx : (wr.alloc (.cells #[.int .i64 (q : Int), .slice zA zn zc] 94)) = w5 at *
                  generalize hgx : wr.heap.size = gv at *
                  clear hwx hgx HO1 HB1 szr e0 e1
                  have HBa := Lib.hid (show Below w2.heap.size w2 w5.drew from HB4.out.drew)
                  have HOa := Lib.hid HO4.out.drew
                  have XVa := Lib.hid (show Box w5.drew gv 94 #[.int .i64 (q : Int), .slice zA zn zc] from HXV0.out)
                  have u0 : IntKind.u64.wrap (q : Int) = (q : Int) := IntWalk.u64_in _ (by omega)
                  have hla : n1 ≤ 2700 + 100 * k := hl1
                  clear hl1
                  refine wp_region_held_drew (S := fun wx => wx.cell? ⟨gv, 0, none⟩ = some (.int .i64 (q : Int)) ∧ wx.cell? ⟨gv, 1, none⟩ = some (.slice zA zn zc)) (by kernel_rfl) ⟨(XVa.out.cell 0).trans rfl, (XVa.out.cell 1).trans rfl⟩ (fun hHeld => ?_)
                  refine takeH (i := 0) (d := 100) (v := .slice A1 n1 c1) rfl rfl (by kernel_rfl) (by kernel_rfl) (by kernel_rfl) (fun _ _ _ h => h) (by rfl) ?_ hHeld ?_
                  · intro wz hSw
                    (try dsimp only at hSw)
                    go_simp
                  simp only [List.setIfInBounds_toArray, List.set_cons_zero, List.set_cons_succ]
                  refine takeH (i := 1) (d := 101) (v := .pointer (some ⟨gv, 0, none⟩)) rfl rfl (by kernel_rfl) (by kernel_rfl) (by kernel_rfl) (fun _ _ _ h => h) (by rfl) ?_ hHeld ?_
                  · intro wz hSw
                    (try dsimp only at hSw)
                    go_simp
                  simp only [List.setIfInBounds_toArray, List.set_cons_zero, List.set_cons_succ]
                  refine takeH (i := 2) (d := 102) (v := .int .i64 (q : Int)) rfl rfl (by kernel_rfl) (by kernel_rfl) (by kernel_rfl) (fun _ _ _ h => h) (by rfl) ?_ hHeld ?_
                  · intro wz hSw
                    (try dsimp only at hSw)
                    go_simp
                  simp only [List.setIfInBounds_toArray, List.set_cons_zero, List.set_cons_succ]
                  refine takeH (i := 3) (d := 103) (v := .int .u64 (q : Int)) rfl rfl (by kernel_rfl) (by kernel_rfl) (by kernel_rfl) (fun _ _ _ h => h) (by rfl) ?_ hHeld ?_
                  · intro wz hSw
                    (try dsimp only at hSw)
                    go_simp
                  simp only [List.setIfInBounds_toArray, List.set_cons_zero, List.set_cons_succ]
                  refine takeH (i := 5) (d := 105) (v := .pointer (some ⟨gv, 1, none⟩)) rfl rfl (by kernel_rfl) (by kernel_rfl) (by kernel_rfl) (fun _ _ _ h => h) (by rfl) ?_ hHeld ?_
                  · intro wz hSw
                    (try dsimp only at hSw)
                    go_simp
                  simp only [List.setIfInBounds_toArray, List.set_cons_zero, List.set_cons_succ]
                  refine takeH (i := 6) (d := 106) (v := .slice zA zn zc) rfl rfl (by kernel_rfl) (by kernel_rfl) (by kernel_rfl) (fun _ _ _ h => h) (by rfl) ?_ hHeld ?_
                  · intro wz hSw
                    (try dsimp only at hSw)
                    go_simp
                  simp only [List.setIfInBounds_toArray, List.set_cons_zero, List.set_cons_succ]
                  refine callH (i := 4) (d := 104) (f := 57) (vals := #[.slice A1 n1 c1, .int .u64 (q : Int), .int .i64 2]) rfl rfl (by kernel_rfl) (by rfl) ?_ ?_
                  · go_simp
                  refine (put_to q 2 HOa.out (by omega) HBa.out.size (by omega)).mono ?_
                  rintro e wp0 ⟨Ap0, np0, cp0, hnp0, rfl, ho, hg, hcm⟩
                  have hlp0 : np0 ≤ 2700 + 2 + 100 * k := by
                    rw [hnp0, List.length_append, leB_len]
                    have h9 := HOa.out.len
                    rw [bts_len] at h9
                    omega
                  have HOp0 := Lib.hid ho
                  have HBp0 := Lib.hid (below_put HBa.out (Nat.le_refl _) HBa.out.size HOa.out hg)
                  have XVp0 := Lib.hid (keepB XVa.out HOa.out (by decide) hg)
                  clear ho hg hcm hnp0
                  have hcell : wp0.cell? ⟨gv, 0, none⟩ = some (.int .i64 (q : Int)) ∧ wp0.cell? ⟨gv, 1, none⟩ = some (.slice zA zn zc) := ⟨(XVp0.out.cell 0).trans rfl, (XVp0.out.cell 1).trans rfl⟩
                  clear hHeld
                  refine ⟨_, rfl, hcell, fun hHeld => ?_⟩
                  simp only [List.setIfInBounds_toArray, List.set_cons_zero, List.set_cons_succ]
                  clear hcell
                  refine callH (i := 7) (d := 107) (f := 58) (vals := #[.slice Ap0 np0 cp0, .slice zA zn zc]) rfl rfl (by kernel_rfl) (by rfl) ?_ ?_
                  · go_simp
                  refine (putmem_any HOp0.out ((HZW.out.below HBp0.out)) HBp0.out.size HSMM.out (by omega) (by omega)).mono ?_
                  rintro e wp0p1 ⟨Ap0p1, np0p1, cp0p1, hnp0p1, rfl, ho, hg, hcm⟩
                  have hlp0p1 : np0p1 ≤ 2700 + 100 * (k + 1) := by
                    rw [hnp0p1, List.length_append]
                    have h9 := HOp0.out.len
                    have h8 := HCL.out
                    rw [bts_len] at h9
                    omega
                  have HOp0p1 := Lib.hid ho
                  have HBp0p1 := Lib.hid (below_put HBp0.out (Nat.le_refl _) HBp0.out.size HOp0.out hg)
                  have XVp0p1 := Lib.hid (keepB XVp0.out HOp0.out (by decide) hg)
                  clear ho hg hcm hnp0p1
                  have hcell : wp0p1.cell? ⟨gv, 0, none⟩ = some (.int .i64 (q : Int)) ∧ wp0p1.cell? ⟨gv, 1, none⟩ = some (.slice zA zn zc) := ⟨(XVp0p1.out.cell 0).trans rfl, (XVp0p1.out.cell 1).trans rfl⟩
                  clear hHeld
                  refine ⟨_, rfl, hcell, fun hHeld => ?_⟩
                  simp only [List.setIfInBounds_toArray, List.set_cons_zero, List.set_cons_succ]
                  clear hcell
                  refine takeH (i := 8) (d := 4) (v := .slice Ap0p1 np0p1 cp0p1) rfl rfl (by kernel_rfl) (by kernel_rfl) (by kernel_rfl) (fun _ _ _ h => h) (by rfl) ?_ hHeld ?_
                  · intro wz hSw
                    (try dsimp only at hSw)
                    go_simp
                  simp only [List.setIfInBounds_toArray, List.set_cons_zero, List.set_cons_succ]
                  refine wpAnyH_done (by kernel_rfl) ?_ _
                  clear hHeld
                  have HOF := Lib.hid (show Own wp0p1 w2.heap.size 5 Ap0p1 np0p1 cp0p1 (bts (HD ++ cntB volB v ++ leB gn 1 ++ (g.take (k + 1)).flatMap grpB)) by
                    rw [HSN.out, HVZ.out]
                    simpa only [List.append_assoc] using HOp0p1.out)
                  go_wp2_with fail
                  go_roundw
                  case rel => exact ⟨k + 1, Ap0p1, np0p1, cp0p1, by omega, by go_num, rfl, by omega, HOF.out, HBp0p1.out⟩
                  case measure => simp [intOf]; omega
                · obtain rfl : gn = k := by omega
                  have hlE : n1 ≤ 2700 + 100 * gn := hl1
                  have HOE := Lib.hid (show Own wr w2.heap.size 5 A1 n1 c1 (bts (HD ++ cntB volB v ++ cntB grpB g)) by rw [← cnt_end grpB g (HD ++ cntB volB v) HLG.out]; exact HO1.out)
                  clear HO1 hl1 hlt hk
                  have m6 : wr.cell? ⟨w.heap.size, 6, none⟩ = some (.slice bA bn bc) := ((HX2.out.below HB1.out hsz2).cell 6).trans rfl
                  go_wp2_with ((at_builtin; refine wpList_app _ rfl (.tmp 109) (.tmp 114) elemB rfl w2.heap.size rfl (HOE.out.alloc _) _ rfl (Seg.one wr _ _) (one_u8 _) (by unfold maxLen; omega) (by omega) (by simp; omega) ?_; intro A2 c2 w4 hown1 hg1 hat1; rw [← bts_snoc _ bn (bn : Int) rfl, ← one_snoc _ _ (by omega)] at hown1; have HO2 := Lib.hid hown1; have HB2 := Lib.hid (below_put (HB1.out.alloc szr _) (Nat.le_refl _) (by simp; omega) (HOE.out.alloc _) hg1); have mB : w4.cell? ⟨w.heap.size, 6, none⟩ = some (.slice bA bn bc) := ((HX2.out.below HB2.out hsz2).cell 6).trans rfl; clear hown1 hg1 hat1))
                  clear mB m6 HOE HB1 szr
                  have HBz6 := HB2
                  have HOz6 := HO2
                  clear HB2 HO2
                  have hlz6 : n1 + 1 ≤ 2700 + 100 * gn + 1 := by omega
                  clear hlE
                  go_loopw [4, 119] (fun bv iv wr => ∃ k : Nat, ∃ A1 n1 c1, k ≤ bn ∧ iv = .int .i64 (k : Int) ∧ bv = .slice A1 n1 c1 ∧ n1 ≤ 3200 + 100 * k ∧ Own wr w2.heap.size 5 A1 n1 c1 (bts (HD ++ cntB volB v ++ cntB grpB g ++ leB bn 1 ++ (b.take k).flatMap bkB)) ∧ Below w2.heap.size w2 wr) (fun _ iv _ => bn - (intOf iv).toNat)
                  case atStart => exact ⟨0, A2, (n1 + 1), c2, by omega, rfl, rfl, by omega, by simpa using HOz6.out, HBz6.out⟩
                  case round =>
                    clear HOz6 HBz6
                    obtain ⟨k, A1, n1, c1, hk, rfl, rfl, hl1, hown, hb⟩ := hrel
                    have HO1 := Lib.hid hown
                    have HB1 := Lib.hid hb
                    clear hown hb
                    have szr := HB1.out.size
                    by_cases hlt : k < bn
                    · have i0 : (0 : Int) ≤ (k : Int) := by omega
                      have i1 : (k : Int) < (bn : Int) := by omega
                      have i2 : ((k : Int)).toNat = k := by omega
                      obtain ⟨bo, off, hkl, rfl, hbb, e0, e1, e2, hz⟩ := (HBK2.out.below HB1.out).at_ hlt
                      have HZW := Lib.hid ((HBK2.out.ok _ (List.getElem_mem hkl)).seg.1)
                      have HSN := Lib.hid (cnt_step bkB b (HD ++ cntB volB v ++ cntB grpB g ++ leB bn 1) hkl)
                      have hzn : b[k].n ≤ 8 := by have := HZ6.out.2.2 _ (List.getElem_mem hkl); rw [hz.len] at this; exact this
                      obtain ⟨q, hq, hqb⟩ := nat_of (HR.out.bid _ (List.getElem_mem hkl))
                      have HSMM := Lib.hid (HR.out.bm _ (List.getElem_mem hkl))
                      have HVZ := Lib.hid (show bkB b[k] = leB b[k].id.toNat 2 ++ leB b[k].seq 8 ++ cntB n16 b[k].l from rfl)
                      clear hz
                      (try simp only at hq)
                      (try simp only at HSMM)
                      rw [hq] at e0 HVZ
                      rw [Int.toNat_natCast] at HVZ
                      clear hq
                      generalize bkB b[k] = VB at *
                      generalize b[k] = z at *
                      obtain ⟨zi, zs, zA, zn, zc, zl⟩ := z
                      simp only at e0 e1 e2 hzn HVZ HSMM
                      have HCL := Lib.hid (show (cntB n16 zl).length ≤ 17 by have h7 := cnt_len (f := n16) zl 2 8 (fun m _ => by simp [n16, leB_len]) (by have h6 : zl.length = zn := (nums_len zl).symm.trans HZW.out.1; omega); omega)
                      have HXV0 := Lib.hid (Box.new wr #[.int .i64 (q : Int), .int .u64 (zs : Int), .slice zA zn zc] 96)
                      have HB4 := Lib.hid (HB1.out.alloc szr (.cells #[.int .i64 (q : Int), .int .u64 (zs : Int), .slice zA zn zc] 96))
                      have HO4 := Lib.hid (HO1.out.alloc (.cells #[.int .i64 (q : Int), .int .u64 (zs : Int), .slice zA zn zc] 96))
                      go_wp2_with fail
                      generalize hwx : (wr.alloc (.cells #[.int .i64 (q : Int), .int .u64 (zs : Int), .slice zA zn zc] 96)) = w5 at *
                      generalize hgx : wr.heap.size = gv at *
                      clear hwx hgx HO1 HB1 szr e0 e1 e2
                      have HBa := Lib.hid (show Below w2.heap.size w2 w5.drew from HB4.out.drew)
                      have HOa := Lib.hid HO4.out.drew
                      have XVa := Lib.hid (show Box w5.drew gv 96 #[.int .i64 (q : Int), .int .u64 (zs : Int), .slice zA zn zc] from HXV0.out)
                      have u0 : IntKind.u64.wrap (q : Int) = (q : Int) := IntWalk.u64_in _ (by omega)
                      have hla : n1 ≤ 3200 + 100 * k := hl1
                      clear hl1
                      refine wp_region_held_drew (S := fun wx => wx.cell? ⟨gv, 0, none⟩ = some (.int .i64 (q : Int)) ∧ wx.cell? ⟨gv, 1, none⟩ = some (.int .u64 (zs : Int)) ∧ wx.cell? ⟨gv, 2, none⟩ = some (.slice zA zn zc)) (by kernel_rfl) ⟨(XVa.out.cell 0).trans rfl, (XVa.out.cell 1).trans rfl, (XVa.out.cell 2).trans rfl⟩ (fun hHeld => ?_)
                      refine takeH (i := 0) (d := 123) (v := .slice A1 n1 c1) rfl rfl (by kernel_rfl) (by kernel_rfl) (by kernel_rfl) (fun _ _ _ h => h) (by rfl) ?_ hHeld ?_
                      · intro wz hSw
                        (try dsimp only at hSw)
                        go_simp
                      simp only [List.setIfInBounds_toArray, List.set_cons_zero, List.set_cons_succ]
                      refine takeH (i := 1) (d := 124) (v := .pointer (some ⟨gv, 0, none⟩)) rfl rfl (by kernel_rfl) (by kernel_rfl) (by kernel_rfl) (fun _ _ _ h => h) (by rfl) ?_ hHeld ?_
                      · intro wz hSw
                        (try dsimp only at hSw)
                        go_simp
                      simp only [List.setIfInBounds_toArray, List.set_cons_zero, List.set_cons_succ]
                      refine takeH (i := 2) (d := 125) (v := .int .i64 (q : Int)) rfl rfl (by kernel_rfl) (by kernel_rfl) (by kernel_rfl) (fun _ _ _ h => h) (by rfl) ?_ hHeld ?_
                      · intro wz hSw
                        (try dsimp only at hSw)
                        go_simp
                      simp only [List.setIfInBounds_toArray, List.set_cons_zero, List.set_cons_succ]
                      refine takeH (i := 3) (d := 126) (v := .int .u64 (q : Int)) rfl rfl (by kernel_rfl) (by kernel_rfl) (by kernel_rfl) (fun _ _ _ h => h) (by rfl) ?_ hHeld ?_
                      · intro wz hSw
                        (try dsimp only at hSw)
                        go_simp
                      simp only [List.setIfInBounds_toArray, List.set_cons_zero, List.set_cons_succ]
                      refine takeH (i := 5) (d := 128) (v := .pointer (some ⟨gv, 1, none⟩)) rfl rfl (by kernel_rfl) (by kernel_rfl) (by kernel_rfl) (fun _ _ _ h => h) (by rfl) ?_ hHeld ?_
                      · intro wz hSw
                        (try dsimp only at hSw)
                        go_simp
                      simp only [List.setIfInBounds_toArray, List.set_cons_zero, List.set_cons_succ]
                      refine takeH (i := 6) (d := 129) (v := .int .u64 (zs : Int)) rfl rfl (by kernel_rfl) (by kernel_rfl) (by kernel_rfl) (fun _ _ _ h => h) (by rfl) ?_ hHeld ?_
                      · intro wz hSw
                        (try dsimp only at hSw)
                        go_simp
                      simp only [List.setIfInBounds_toArray, List.set_cons_zero, List.set_cons_succ]
                      refine takeH (i := 8) (d := 131) (v := .pointer (some ⟨gv, 2, none⟩)) rfl rfl (by kernel_rfl) (by kernel_rfl) (by kernel_rfl) (fun _ _ _ h => h) (by rfl) ?_ hHeld ?_
                      · intro wz hSw
                        (try dsimp only at hSw)
                        go_simp
                      simp only [List.setIfInBounds_toArray, List.set_cons_zero, List.set_cons_succ]
                      refine takeH (i := 9) (d := 132) (v := .slice zA zn zc) rfl rfl (by kernel_rfl) (by kernel_rfl) (by kernel_rfl) (fun _ _ _ h => h) (by rfl) ?_ hHeld ?_
                      · intro wz hSw
                        (try dsimp only at hSw)
                        go_simp
                      simp only [List.setIfInBounds_toArray, List.set_cons_zero, List.set_cons_succ]
                      refine callH (i := 4) (d := 127) (f := 57) (vals := #[.slice A1 n1 c1, .int .u64 (q : Int), .int .i64 2]) rfl rfl (by kernel_rfl) (by rfl) ?_ ?_
                      · go_simp
                      refine (put_to q 2 HOa.out (by omega) HBa.out.size (by omega)).mono ?_
                      rintro e wp0 ⟨Ap0, np0, cp0, hnp0, rfl, ho, hg, hcm⟩
                      have hlp0 : np0 ≤ 3200 + 2 + 100 * k := by
                        rw [hnp0, List.length_append, leB_len]
                        have h9 := HOa.out.len
                        rw [bts_len] at h9
                        omega
                      have HOp0 := Lib.hid ho
                      have HBp0 := Lib.hid (below_put HBa.out (Nat.le_refl _) HBa.out.size HOa.out hg)
                      have XVp0 := Lib.hid (keepB XVa.out HOa.out (by decide) hg)
                      clear ho hg hcm hnp0
                      have hcell : wp0.cell? ⟨gv, 0, none⟩ = some (.int .i64 (q : Int)) ∧ wp0.cell? ⟨gv, 1, none⟩ = some (.int .u64 (zs : Int)) ∧ wp0.cell? ⟨gv, 2, none⟩ = some (.slice zA zn zc) := ⟨(XVp0.out.cell 0).trans rfl, (XVp0.out.cell 1).trans rfl, (XVp0.out.cell 2).trans rfl⟩
                      clear hHeld
                      refine ⟨_, rfl, hcell, fun hHeld => ?_⟩
                      simp only [List.setIfInBounds_toArray, List.set_cons_zero, List.set_cons_succ]
                      clear hcell
                      refine callH (i := 7) (d := 130) (f := 57) (vals := #[.slice Ap0 np0 cp0, .int .u64 (zs : Int), .int .i64 8]) rfl rfl (by kernel_rfl) (by rfl) ?_ ?_
                      · go_simp
                      refine (put_to zs 8 HOp0.out (by omega) HBp0.out.size (by omega)).mono ?_
                      rintro e wp0p1 ⟨Ap0p1, np0p1, cp0p1, hnp0p1, rfl, ho, hg, hcm⟩
                      have hlp0p1 : np0p1 ≤ 3200 + 10 + 100 * k := by
                        rw [hnp0p1, List.length_append, leB_len]
                        have h9 := HOp0.out.len
                        rw [bts_len] at h9
                        omega
                      have HOp0p1 := Lib.hid ho
                      have HBp0p1 := Lib.hid (below_put HBp0.out (Nat.le_refl _) HBp0.out.size HOp0.out hg)
                      have XVp0p1 := Lib.hid (keepB XVp0.out HOp0.out (by decide) hg)
                      clear ho hg hcm hnp0p1
                      have hcell : wp0p1.cell? ⟨gv, 0, none⟩ = some (.int .i64 (q : Int)) ∧ wp0p1.cell? ⟨gv, 1, none⟩ = some (.int .u64 (zs : Int)) ∧ wp0p1.cell? ⟨gv, 2, none⟩ = some (.slice zA zn zc) := ⟨(XVp0p1.out.cell 0).trans rfl, (XVp0p1.out.cell 1).trans rfl, (XVp0p1.out.cell 2).trans rfl⟩
                      clear hHeld
                      refine ⟨_, rfl, hcell, fun hHeld => ?_⟩
                      simp only [List.setIfInBounds_toArray, List.set_cons_zero, List.set_cons_succ]
                      clear hcell
                      refine callH (i := 10) (d := 133) (f := 58) (vals := #[.slice Ap0p1 np0p1 cp0p1, .slice zA zn zc]) rfl rfl (by kernel_rfl) (by rfl) ?_ ?_
                      · go_simp
                      refine (putmem_any HOp0p1.out ((HZW.out.below HBp0p1.out)) HBp0p1.out.size HSMM.out (by omega) (by omega)).mono ?_
                      rintro e wp0p1p2 ⟨Ap0p1p2, np0p1p2, cp0p1p2, hnp0p1p2, rfl, ho, hg, hcm⟩
                      have hlp0p1p2 : np0p1p2 ≤ 3200 + 100 * (k + 1) := by
                        rw [hnp0p1p2, List.length_append]
                        have h9 := HOp0p1.out.len
                        have h8 := HCL.out
                        rw [bts_len] at h9
                        omega
                      have HOp0p1p2 := Lib.hid ho
                      have HBp0p1p2 := Lib.hid (below_put HBp0p1.out (Nat.le_refl _) HBp0p1.out.size HOp0p1.out hg)
                      have XVp0p1p2 := Lib.hid (keepB XVp0p1.out HOp0p1.out (by decide) hg)
                      clear ho hg hcm hnp0p1p2
                      have hcell : wp0p1p2.cell? ⟨gv, 0, none⟩ = some (.int .i64 (q : Int)) ∧ wp0p1p2.cell? ⟨gv, 1, none⟩ = some (.int .u64 (zs : Int)) ∧ wp0p1p2.cell? ⟨gv, 2, none⟩ = some (.slice zA zn zc) := ⟨(XVp0p1p2.out.cell 0).trans rfl, (XVp0p1p2.out.cell 1).trans rfl, (XVp0p1p2.out.cell 2).trans rfl⟩
                      clear hHeld
                      refine ⟨_, rfl, hcell, fun hHeld => ?_⟩
                      simp only [List.setIfInBounds_toArray, List.set_cons_zero, List.set_cons_succ]
                      clear hcell
                      refine takeH (i := 11) (d := 4) (v := .slice Ap0p1p2 np0p1p2 cp0p1p2) rfl rfl (by kernel_rfl) (by kernel_rfl) (by kernel_rfl) (fun _ _ _ h => h) (by rfl) ?_ hHeld ?_
                      · intro wz hSw
                        (try dsimp only at hSw)
                        go_simp
                      simp only [List.setIfInBounds_toArray, List.set_cons_zero, List.set_cons_succ]
                      refine wpAnyH_done (by kernel_rfl) ?_ _
                      clear hHeld
                      have HOF := Lib.hid (show Own wp0p1p2 w2.heap.size 5 Ap0p1p2 np0p1p2 cp0p1p2 (bts (HD ++ cntB volB v ++ cntB grpB g ++ leB bn 1 ++ (b.take (k + 1)).flatMap bkB)) by
                        rw [HSN.out, HVZ.out]
                        simpa only [List.append_assoc] using HOp0p1p2.out)
                      go_wp2_with fail
                      go_roundw
                      case rel => exact ⟨k + 1, Ap0p1p2, np0p1p2, cp0p1p2, by omega, by go_num, rfl, by omega, HOF.out, HBp0p1p2.out⟩
                      case measure => simp [intOf]; omega
                    · obtain rfl : bn = k := by omega
                      have hlE : n1 ≤ 3200 + 100 * bn := hl1
                      have HOE := Lib.hid (show Own wr w2.heap.size 5 A1 n1 c1 (bts (HD ++ cntB volB v ++ cntB grpB g ++ cntB bkB b)) by rw [← cnt_end bkB b (HD ++ cntB volB v ++ cntB grpB g) HLB.out]; exact HO1.out)
                      clear HO1 hl1 hlt hk
                      have m7 : wr.cell? ⟨w.heap.size, 7, none⟩ = some (.slice kA kn kc) := ((HX2.out.below HB1.out hsz2).cell 7).trans rfl
                      go_wp2_with ((at_builtin; refine wpList_app _ rfl (.tmp 135) (.tmp 140) elemB rfl w2.heap.size rfl (HOE.out.alloc _) _ rfl (Seg.one wr _ _) (one_u8 _) (by unfold maxLen; omega) (by omega) (by simp; omega) ?_; intro A2 c2 w4 hown1 hg1 hat1; rw [← bts_snoc _ kn (kn : Int) rfl, ← one_snoc _ _ (by omega)] at hown1; have HO2 := Lib.hid hown1; have HB2 := Lib.hid (below_put (HB1.out.alloc szr _) (Nat.le_refl _) (by simp; omega) (HOE.out.alloc _) hg1); have mB : w4.cell? ⟨w.heap.size, 7, none⟩ = some (.slice kA kn kc) := ((HX2.out.below HB2.out hsz2).cell 7).trans rfl; clear hown1 hg1 hat1))
                      clear mB m7 HOE HB1 szr
                      have HBz7 := HB2
                      have HOz7 := HO2
                      clear HB2 HO2
                      have hlz7 : n1 + 1 ≤ 3200 + 100 * bn + 1 := by omega
                      clear hlE
                      go_loopw [4, 145] (fun bv iv wr => ∃ k : Nat, ∃ A1 n1 c1, k ≤ kn ∧ iv = .int .i64 (k : Int) ∧ bv = .slice A1 n1 c1 ∧ n1 ≤ 4200 + 10 * k ∧ Own wr w2.heap.size 5 A1 n1 c1 (bts (HD ++ cntB volB v ++ cntB grpB g ++ cntB bkB b ++ leB kn 1 ++ (kl.take k).flatMap n64)) ∧ Below w2.heap.size w2 wr) (fun _ iv _ => kn - (intOf iv).toNat)
                      case atStart => exact ⟨0, A2, (n1 + 1), c2, by omega, rfl, rfl, by omega, by simpa using HOz7.out, HBz7.out⟩
                      case round =>
                        clear HOz7 HBz7
                        obtain ⟨k, A1, n1, c1, hk, rfl, rfl, hl1, hown, hb⟩ := hrel
                        have HO1 := Lib.hid hown
                        have HB1 := Lib.hid hb
                        clear hown hb
                        have szr := HB1.out.size
                        by_cases hlt : k < kn
                        · have i0 : (0 : Int) ≤ (k : Int) := by omega
                          have i1 : (k : Int) < (kn : Int) := by omega
                          have i2 : ((k : Int)).toNat = k := by omega
                          obtain ⟨bo, off, hkl, rfl, hbb, e0, _⟩ := Seg.us (HK2.out.below HB1.out) hlt
                          have HSN := Lib.hid (cnt_step n64 kl (HD ++ cntB volB v ++ cntB grpB g ++ cntB bkB b ++ leB kn 1) hkl)
                          generalize kl[k] = x at *
                          go_wp2_with fail
                          refine (put_to x 8 HO1.out (by omega) szr (by omega)).mono ?_
                          rintro e wb ⟨Ab, nb', cb, hnb, rfl, ho, hg, hcm⟩
                          have hlb : nb' ≤ 4200 + 10 * (k + 1) := by
                            rw [hnb, List.length_append, leB_len]
                            have h9 := HO1.out.len
                            rw [bts_len] at h9
                            omega
                          have HOb := Lib.hid ho
                          have HBb := Lib.hid (below_put HB1.out (Nat.le_refl _) szr HO1.out hg)
                          clear ho hg hcm hnb e0
                          go_wp2_with fail
                          go_roundw
                          case rel => exact ⟨k + 1, Ab, nb', cb, by omega, by go_num, rfl, hlb, by rw [HSN.out]; exact HOb.out, HBb.out⟩
                          case measure => simp [intOf]; omega
                        · obtain rfl : kn = k := by omega
                          have hlE : n1 ≤ 4200 + 10 * kn := hl1
                          have HOE := Lib.hid (show Own wr w2.heap.size 5 A1 n1 c1 (bts (HD ++ cntB volB v ++ cntB grpB g ++ cntB bkB b ++ cntB n64 kl)) by rw [← cnt_end n64 kl (HD ++ cntB volB v ++ cntB grpB g ++ cntB bkB b) HLK.out]; exact HO1.out)
                          clear HO1 hl1 hlt hk
                          have m8 : wr.cell? ⟨w.heap.size, 8, none⟩ = some (.slice tA tn tc) := ((HX2.out.below HB1.out hsz2).cell 8).trans rfl
                          go_wp2_with ((at_builtin; refine wpList_app _ rfl (.tmp 153) (.tmp 158) elemB rfl w2.heap.size rfl (HOE.out.alloc _) _ rfl (Seg.one wr _ _) (one_u8 _) (by unfold maxLen; omega) (by omega) (by simp; omega) ?_; intro A2 c2 w4 hown1 hg1 hat1; rw [← bts_snoc _ tn (tn : Int) rfl, ← one_snoc _ _ (by omega)] at hown1; have HO2 := Lib.hid hown1; have HB2 := Lib.hid (below_put (HB1.out.alloc szr _) (Nat.le_refl _) (by simp; omega) (HOE.out.alloc _) hg1); have mB : w4.cell? ⟨w.heap.size, 8, none⟩ = some (.slice tA tn tc) := ((HX2.out.below HB2.out hsz2).cell 8).trans rfl; clear hown1 hg1 hat1))
                          clear mB m8 HOE HB1 szr
                          have HBz8 := HB2
                          have HOz8 := HO2
                          clear HB2 HO2
                          have hlz8 : n1 + 1 ≤ 4200 + 10 * kn + 1 := by omega
                          clear hlE
                          go_loopw [4, 163] (fun bv iv wr => ∃ k : Nat, ∃ A1 n1 c1, k ≤ tn ∧ iv = .int .i64 (k : Int) ∧ bv = .slice A1 n1 c1 ∧ n1 ≤ 4600 + 20 * k ∧ Own wr w2.heap.size 5 A1 n1 c1 (bts (HD ++ cntB volB v ++ cntB grpB g ++ cntB bkB b ++ cntB n64 kl ++ leB tn 1 ++ (t.take k).flatMap timeB)) ∧ Below w2.heap.size w2 wr) (fun _ iv _ => tn - (intOf iv).toNat)
                          case atStart => exact ⟨0, A2, (n1 + 1), c2, by omega, rfl, rfl, by omega, by simpa using HOz8.out, HBz8.out⟩
                          case round =>
                            clear HOz8 HBz8
                            obtain ⟨k, A1, n1, c1, hk, rfl, rfl, hl1, hown, hb⟩ := hrel
                            have HO1 := Lib.hid hown
                            have HB1 := Lib.hid hb
                            clear hown hb
                            have szr := HB1.out.size
                            by_cases hlt : k < tn
                            · have i0 : (0 : Int) ≤ (k : Int) := by omega
                              have i1 : (k : Int) < (tn : Int) := by omega
                              have i2 : ((k : Int)).toNat = k := by omega
                              obtain ⟨bo, off, hkl, x, y, rfl, hbb, hxy, e0, e1, xb, yb⟩ := mk_at (HT2.out.below HB1.out) hlt
                              have HSN := Lib.hid (cnt_step timeB t (HD ++ cntB volB v ++ cntB grpB g ++ cntB bkB b ++ cntB n64 kl ++ leB tn 1) hkl)
                              rw [hxy] at HSN
                              clear hxy
                              have XM0 := Lib.hid (Box.new wr #[.int .u64 (x : Int), .int .u64 (y : Int)] 100)
                              have HBm := Lib.hid (HB1.out.alloc szr (.cells #[.int .u64 (x : Int), .int .u64 (y : Int)] 100))
                              have HOm := Lib.hid (HO1.out.alloc (.cells #[.int .u64 (x : Int), .int .u64 (y : Int)] 100))
                              go_wp2_with fail
                              generalize hwx : (wr.alloc (.cells #[.int .u64 (x : Int), .int .u64 (y : Int)] 100)) = w6 at *
                              generalize hgx : wr.heap.size = gm at *
                              clear hwx hgx HO1 HB1 szr e0 e1
                              have HBa := Lib.hid (show Below w2.heap.size w2 w6.drew from HBm.out.drew)
                              have HOa := Lib.hid HOm.out.drew
                              have XMa := Lib.hid (show Box w6.drew gm 100 #[.int .u64 (x : Int), .int .u64 (y : Int)] from XM0.out)
                              have hla : n1 ≤ 4600 + 20 * k := hl1
                              clear hl1
                              refine wp_region_held_drew (S := fun wx => wx.cell? ⟨gm, 0, none⟩ = some (.int .u64 (x : Int)) ∧ wx.cell? ⟨gm, 1, none⟩ = some (.int .u64 (y : Int))) (by kernel_rfl) ⟨(XMa.out.cell 0).trans rfl, (XMa.out.cell 1).trans rfl⟩ (fun hHeld => ?_)
                              refine takeH (i := 0) (d := 167) (v := .slice A1 n1 c1) rfl rfl (by kernel_rfl) (by kernel_rfl) (by kernel_rfl) (fun _ _ _ h => h) (by rfl) ?_ hHeld ?_
                              · intro wz hSw
                                (try dsimp only at hSw)
                                go_simp
                              simp only [List.setIfInBounds_toArray, List.set_cons_zero, List.set_cons_succ]
                              refine takeH (i := 1) (d := 168) (v := .pointer (some ⟨gm, 0, none⟩)) rfl rfl (by kernel_rfl) (by kernel_rfl) (by kernel_rfl) (fun _ _ _ h => h) (by rfl) ?_ hHeld ?_
                              · intro wz hSw
                                (try dsimp only at hSw)
                                go_simp
                              simp only [List.setIfInBounds_toArray, List.set_cons_zero, List.set_cons_succ]
                              refine takeH (i := 2) (d := 169) (v := .int .u64 (x : Int)) rfl rfl (by kernel_rfl) (by kernel_rfl) (by kernel_rfl) (fun _ _ _ h => h) (by rfl) ?_ hHeld ?_
                              · intro wz hSw
                                (try dsimp only at hSw)
                                go_simp
                              simp only [List.setIfInBounds_toArray, List.set_cons_zero, List.set_cons_succ]
                              refine takeH (i := 4) (d := 171) (v := .pointer (some ⟨gm, 1, none⟩)) rfl rfl (by kernel_rfl) (by kernel_rfl) (by kernel_rfl) (fun _ _ _ h => h) (by rfl) ?_ hHeld ?_
                              · intro wz hSw
                                (try dsimp only at hSw)
                                go_simp
                              simp only [List.setIfInBounds_toArray, List.set_cons_zero, List.set_cons_succ]
                              refine takeH (i := 5) (d := 172) (v := .int .u64 (y : Int)) rfl rfl (by kernel_rfl) (by kernel_rfl) (by kernel_rfl) (fun _ _ _ h => h) (by rfl) ?_ hHeld ?_
                              · intro wz hSw
                                (try dsimp only at hSw)
                                go_simp
                              simp only [List.setIfInBounds_toArray, List.set_cons_zero, List.set_cons_succ]
                              refine callH (i := 3) (d := 170) (f := 57) (vals := #[.slice A1 n1 c1, .int .u64 (x : Int), .int .i64 8]) rfl rfl (by kernel_rfl) (by rfl) ?_ ?_
                              · go_simp
                              refine (put_to x 8 HOa.out (by omega) HBa.out.size (by omega)).mono ?_
                              rintro e wp0 ⟨Ap0, np0, cp0, hnp0, rfl, ho, hg, hcm⟩
                              have hlp0 : np0 ≤ 4608 + 20 * k := by
                                rw [hnp0, List.length_append, leB_len]
                                have h9 := HOa.out.len
                                rw [bts_len] at h9
                                omega
                              have HOp0 := Lib.hid ho
                              have HBp0 := Lib.hid (below_put HBa.out (Nat.le_refl _) HBa.out.size HOa.out hg)
                              have XMp0 := Lib.hid (keepB XMa.out HOa.out (by decide) hg)
                              clear ho hg hcm hnp0
                              have hcell : wp0.cell? ⟨gm, 0, none⟩ = some (.int .u64 (x : Int)) ∧ wp0.cell? ⟨gm, 1, none⟩ = some (.int .u64 (y : Int)) := ⟨(XMp0.out.cell 0).trans rfl, (XMp0.out.cell 1).trans rfl⟩
                              clear hHeld
                              refine ⟨_, rfl, hcell, fun hHeld => ?_⟩
                              simp only [List.setIfInBounds_toArray, List.set_cons_zero, List.set_cons_succ]
                              clear hcell
                              refine callH (i := 6) (d := 173) (f := 57) (vals := #[.slice Ap0 np0 cp0, .int .u64 (y : Int), .int .i64 8]) rfl rfl (by kernel_rfl) (by rfl) ?_ ?_
                              · go_simp
                              refine (put_to y 8 HOp0.out (by omega) HBp0.out.size (by omega)).mono ?_
                              rintro e wp0p1 ⟨Ap0p1, np0p1, cp0p1, hnp0p1, rfl, ho, hg, hcm⟩
                              have hlp0p1 : np0p1 ≤ 4616 + 20 * k := by
                                rw [hnp0p1, List.length_append, leB_len]
                                have h9 := HOp0.out.len
                                rw [bts_len] at h9
                                omega
                              have HOp0p1 := Lib.hid ho
                              have HBp0p1 := Lib.hid (below_put HBp0.out (Nat.le_refl _) HBp0.out.size HOp0.out hg)
                              have XMp0p1 := Lib.hid (keepB XMp0.out HOp0.out (by decide) hg)
                              clear ho hg hcm hnp0p1
                              have hcell : wp0p1.cell? ⟨gm, 0, none⟩ = some (.int .u64 (x : Int)) ∧ wp0p1.cell? ⟨gm, 1, none⟩ = some (.int .u64 (y : Int)) := ⟨(XMp0p1.out.cell 0).trans rfl, (XMp0p1.out.cell 1).trans rfl⟩
                              clear hHeld
                              refine ⟨_, rfl, hcell, fun hHeld => ?_⟩
                              simp only [List.setIfInBounds_toArray, List.set_cons_zero, List.set_cons_succ]
                              clear hcell
                              refine takeH (i := 7) (d := 4) (v := .slice Ap0p1 np0p1 cp0p1) rfl rfl (by kernel_rfl) (by kernel_rfl) (by kernel_rfl) (fun _ _ _ h => h) (by rfl) ?_ hHeld ?_
                              · intro wz hSw
                                (try dsimp only at hSw)
                                go_simp
                              simp only [List.setIfInBounds_toArray, List.set_cons_zero, List.set_cons_succ]
                              refine wpAnyH_done (by kernel_rfl) ?_ _
                              clear hHeld
                              go_wp2_with fail
                              go_roundw
                              case rel => exact ⟨k + 1, Ap0p1, np0p1, cp0p1, by omega, by go_num, rfl, by omega, by rw [HSN.out, ← timeB_snoc _ (x, y)]; exact HOp0p1.out, HBp0p1.out⟩
                              case measure => simp [intOf]; omega
                            · obtain rfl : tn = k := by omega
                              have hlE : n1 ≤ 4600 + 20 * tn := hl1
                              have HOE := Lib.hid (show Own wr w2.heap.size 5 A1 n1 c1 (bts (HD ++ cntB volB v ++ cntB grpB g ++ cntB bkB b ++ cntB n64 kl ++ cntB timeB t)) by rw [← cnt_end timeB t (HD ++ cntB volB v ++ cntB grpB g ++ cntB bkB b ++ cntB n64 kl) HLT.out]; exact HO1.out)
                              clear HO1 hl1 hlt hk
                              have HN := Lib.hid (show n1 = PC.length ∧ Own wr w.heap.size 5 A1 n1 c1 (bts PC) ∧ Below w.heap.size w wr from ⟨by have h9 := HOE.out.len; rw [bts_len] at h9; rw [HPC.out]; exact h9.symm, by rw [HPC.out]; exact Own.less HOE.out (by omega), bcut HW2.out HB1.out (by omega)⟩)
                              go_wp2_with fail
                              go_ret2
                              exact ⟨A1, n1, c1, rfl, HN.out⟩
end Go.Proofs.Ytaagfmaboggbhaa.cat
