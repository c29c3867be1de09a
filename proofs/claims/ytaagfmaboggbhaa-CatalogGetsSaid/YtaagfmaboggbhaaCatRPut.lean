/-
  The walk of the document's Put.
-/
import Derived.Test.YtaagfmaboggbhaaCatNum
import Derived.Test.YtaagfmaboggbhaaCatRef
import Derived.Test.YtaagfmaboggbhaaDrawn
namespace Go.Proofs.Ytaagfmaboggbhaa.cat
open Go.RowKit
set_option linter.unusedVariables false
open fix (leB leB_len leB_isB leB_snoc bts_snoc one_u8 Came)

theorem nat_of {x : Int} (h : 0 ≤ x ∧ x ≤ 65535) : ∃ q : Nat, x = (q : Int) ∧ q ≤ 65535 := ⟨x.toNat, (Int.toNat_of_nonneg h.1).symm, by have := h.2; omega⟩
theorem cnt_step {α : Type} (f : α → List Nat) (L : List α) (H : List Nat) {k : Nat} (h : k < L.length) : H ++ (L.take (k + 1)).flatMap f = H ++ (L.take k).flatMap f ++ f L[k] := by rw [flat_snoc f L h, List.append_assoc]
theorem cnt_end {α : Type} (f : α → List Nat) (L : List α) (H : List Nat) {n : Nat} (hn : L.length = n) : H ++ leB n 1 ++ (L.take n).flatMap f = H ++ cntB f L := by
  rw [List.take_of_length_le (by omega), List.append_assoc]; unfold cntB; rw [hn]
theorem n16_nat (q : Nat) : n16 (q : Int) = leB q 2 := by unfold n16; rw [Int.toNat_natCast]
theorem rise_sm {l : List Int} {m : Int} (h : Rise l m) (hm : m ≤ 65535) : ∀ x ∈ l, Sm x := rise_bd h hm
structure PutOk (c : Cat) : Prop where
  nv : Sm c.nv
  ng : Sm c.ng
  nb : Sm c.nb
  vid : ∀ z ∈ c.v, Sm z.id
  gid : ∀ z ∈ c.g, Sm z.id
  bid : ∀ z ∈ c.b, Sm z.id
  gm : ∀ z ∈ c.g, ∀ x ∈ z.l, Sm x
  bm : ∀ z ∈ c.b, ∀ x ∈ z.l, Sm x
  sz : c.v.length ≤ 8 ∧ c.g.length ≤ 4 ∧ c.b.length ≤ 8 ∧ c.k.length ≤ 32 ∧ c.t.length ≤ 64 ∧ (∀ z ∈ c.v, z.l.length ≤ 16) ∧ (∀ z ∈ c.g, z.l.length ≤ 8) ∧ ∀ z ∈ c.b, z.l.length ≤ 8
theorem putOk {c : Cat} (h : RightC c) : PutOk c :=
  ⟨h.1, h.2.1, h.2.2.1,
    fun z hz => rise_sm h.2.2.2.2.1.2.1 h.1.2 _ (List.mem_map_of_mem hz), fun z hz => rise_sm h.2.2.2.2.2.1.2.2.1 h.2.1.2 _ (List.mem_map_of_mem hz), fun z hz => rise_sm h.2.2.2.2.2.1.2.2.2.1 h.2.2.1.2 _ (List.mem_map_of_mem hz),
    fun z hz => rise_sm (h.2.2.2.2.2.1.1 z hz).2.2 (by omega), fun z hz => rise_sm (h.2.2.2.2.2.1.2.1 z hz).2.2 (by omega), right_short h⟩
theorem sizeB_snoc (X : List Nat) (m : Nat × Nat) : X ++ leB m.1 8 ++ leB m.2 1 = X ++ sizeB m := by unfold sizeB; rw [List.append_assoc]
theorem timeB_snoc (X : List Nat) (m : Nat × Nat) : X ++ leB m.1 8 ++ leB m.2 8 = X ++ timeB m := by unfold timeB; rw [List.append_assoc]
theorem mk_at {w : World} {B n : Nat} {A : Option Addr} {M : List (Nat × Nat)} (h : MkSeg w B A n M) {k : Nat} (hk : k < n) : ∃ b off, ∃ hl : k < M.length, ∃ x y : Nat, A = some ⟨b, off, none⟩ ∧ b < B ∧ M[k] = (x, y) ∧ w.cell? ⟨b, off + k * 2, none⟩ = some (.int .u64 (x : Int)) ∧ w.cell? ⟨b, off + k * 2 + 1, none⟩ = some (.int .u64 (y : Int)) ∧ x < 18446744073709551616 ∧ y < 18446744073709551616 := by
  obtain ⟨b, off, hl, e, hb, h0, h1, _⟩ := h.at_ hk
  exact ⟨b, off, hl, M[k].1, M[k].2, e, hb, rfl, h0, h1, h.bd _ (List.getElem_mem hl)⟩

set_option maxRecDepth 100000 in
set_option maxHeartbeats 25600000 in
theorem rput_any {w : World} {c : Cat} (h : CatOk w w.heap.size c) (hr : PutOk c) :
    Calls Try.prog 43 #[c.val] w (NewTo w (putC c)) := by
  have HPC := Lib.hid (show putC c = headB c ++ cntB volB c.v ++ cntB grpB c.g ++ cntB bkB c.b ++ cntB n64 c.k ++ cntB timeB c.t from rfl)
  have HHD := Lib.hid (show headB c = n16 c.nv ++ n16 c.ng ++ n16 c.nb ++ leB c.floor 8 from rfl)
  have HC := Lib.hid h
  have HR := Lib.hid hr
  clear h hr
  obtain ⟨nv, ng, nb, fl, vA, vn, vc, v, gA, gn, gc, g, bA, bn, bc, b, kA, kn, kc, kl, tA, tn, tc, t⟩ := c
  obtain ⟨q0, hq0, b0⟩ := nat_of HR.out.nv
  obtain ⟨q1, hq1, b1⟩ := nat_of HR.out.ng
  obtain ⟨q2, hq2, b2⟩ := nat_of HR.out.nb
  simp only at hq0 hq1 hq2
  subst hq0 hq1 hq2
  simp only [n16_nat] at HHD
  generalize putC _ = PC at *
  generalize headB _ = HD at *
  have HV := Lib.hid HC.out.v
  have HG := Lib.hid HC.out.g
  have HK := Lib.hid HC.out.k
  have HKU := Lib.hid HC.out.ku
  have HT := Lib.hid HC.out.t
  have HBK := Lib.hid HC.out.b
  have HLV := Lib.hid HC.out.v.len
  have HLG := Lib.hid HC.out.g.len
  have HLB := Lib.hid HC.out.b.len
  have HLK := Lib.hid (show kl.length = kn by have := HC.out.k.1; rwa [us_len] at this)
  have HLT := Lib.hid HC.out.t.len
  have hsz := HR.out.sz
  simp only at HV HG HK HKU HT HBK HLV HLG HLB HLT hsz
  have z1 : vn ≤ 8 := by have := HLV.out; omega
  have z2 : gn ≤ 4 := by have := HLG.out; omega
  have z3 : bn ≤ 8 := by have := HLB.out; omega
  have z4 : kn ≤ 32 := by have := HLK.out; omega
  have z5 : tn ≤ 64 := by have := HLT.out; omega
  have HZ6 := Lib.hid hsz.2.2.2.2.2
  have bfl : fl < 18446744073709551616 := HC.out.floor
  clear hsz HC
  have HW0 := Lib.hid ((Below.refl w.heap.size w).alloc (Nat.le_refl _) (.cells #[.int .i64 (q0 : Int), .int .i64 (q1 : Int), .int .i64 (q2 : Int), .int .u64 (fl : Int), .slice vA vn vc, .slice gA gn gc, .slice bA bn bc, .slice kA kn kc, .slice tA tn tc] 68))
  have HB0 := Lib.hid (Box.new w #[.int .i64 (q0 : Int), .int .i64 (q1 : Int), .int .i64 (q2 : Int), .int .u64 (fl : Int), .slice vA vn vc, .slice gA gn gc, .slice bA bn bc, .slice kA kn kc, .slice tA tn tc] 68)
  have HS0 := Lib.hid (show (w.alloc (.cells #[.int .i64 (q0 : Int), .int .i64 (q1 : Int), .int .i64 (q2 : Int), .int .u64 (fl : Int), .slice vA vn vc, .slice gA gn gc, .slice bA bn bc, .slice kA kn kc, .slice tA tn tc] 68)).heap.size = w.heap.size + 1 by simp)
  unfold Cat.val Cat.cells
  go_enter Try.func43, Try.ntmps43
  go_wp2_with fail
  generalize hwA : w.alloc (.cells #[.int .i64 (q0 : Int), .int .i64 (q1 : Int), .int .i64 (q2 : Int), .int .u64 (fl : Int), .slice vA vn vc, .slice gA gn gc, .slice bA bn bc, .slice kA kn kc, .slice tA tn tc] 68) = wA at *
  clear hwA
  have hA1 : wA.heap.size = w.heap.size + 1 := HS0.out
  have HVA := Lib.hid ((HV.out.below HW0.out).more HW0.out.size)
  have HGA := Lib.hid ((HG.out.below HW0.out).more HW0.out.size)
  have HBA := Lib.hid ((HBK.out.below HW0.out).more HW0.out.size)
  have HKA := Lib.hid ((HK.out.below HW0.out).more HW0.out.size)
  have HTA := Lib.hid ((HT.out.below HW0.out).more HW0.out.size)
  clear HV HG HBK HK HT
  have HB9 := Lib.hid (show Below wA.heap.size wA wA.drew from (Below.refl _ _).drew)
  have HO9 := Lib.hid (show Own wA.drew wA.heap.size 5 none 0 0 (bts []) from Own.nil wA.drew wA.heap.size 5)
  have u0 : IntKind.u64.wrap (q0 : Int) = (q0 : Int) := IntWalk.u64_in _ (by omega)
  have u1 : IntKind.u64.wrap (q1 : Int) = (q1 : Int) := IntWalk.u64_in _ (by omega)
  have u2 : IntKind.u64.wrap (q2 : Int) = (q2 : Int) := IntWalk.u64_in _ (by omega)
  have hl9 : 0 ≤ 0 := Nat.le_refl 0
  have HX := Lib.hid (HB0.out.below HB9.out (by omega))
  refine wp_region_held_drew (S := fun wx => wx.cell? ⟨w.heap.size, 0, none⟩ = some (.int .i64 (q0 : Int)) ∧ wx.cell? ⟨w.heap.size, 1, none⟩ = some (.int .i64 (q1 : Int)) ∧ wx.cell? ⟨w.heap.size, 2, none⟩ = some (.int .i64 (q2 : Int)) ∧ wx.cell? ⟨w.heap.size, 3, none⟩ = some (.int .u64 (fl : Int))) (by kernel_rfl) ⟨(HX.out.cell 0).trans rfl, (HX.out.cell 1).trans rfl, (HX.out.cell 2).trans rfl, (HX.out.cell 3).trans rfl⟩ (fun hHeld => ?_)
  refine takeH (i := 0) (d := 11) (v := .pointer (some ⟨w.heap.size, 0, none⟩)) rfl rfl (by kernel_rfl) (by kernel_rfl) (by kernel_rfl) (fun _ _ _ h => h) (by rfl) ?_ hHeld ?_
  · intro wz hSw
    (try dsimp only at hSw)
    go_simp
  simp only [List.setIfInBounds_toArray, List.set_cons_zero, List.set_cons_succ]
  refine takeH (i := 1) (d := 12) (v := .int .i64 (q0 : Int)) rfl rfl (by kernel_rfl) (by kernel_rfl) (by kernel_rfl) (fun _ _ _ h => h) (by rfl) ?_ hHeld ?_
  · intro wz hSw
    (try dsimp only at hSw)
    go_simp
  simp only [List.setIfInBounds_toArray, List.set_cons_zero, List.set_cons_succ]
  refine takeH (i := 2) (d := 13) (v := .int .u64 (q0 : Int)) rfl rfl (by kernel_rfl) (by kernel_rfl) (by kernel_rfl) (fun _ _ _ h => h) (by rfl) ?_ hHeld ?_
  · intro wz hSw
    (try dsimp only at hSw)
    go_simp
  simp only [List.setIfInBounds_toArray, List.set_cons_zero, List.set_cons_succ]
  refine takeH (i := 4) (d := 15) (v := .pointer (some ⟨w.heap.size, 1, none⟩)) rfl rfl (by kernel_rfl) (by kernel_rfl) (by kernel_rfl) (fun _ _ _ h => h) (by rfl) ?_ hHeld ?_
  · intro wz hSw
    (try dsimp only at hSw)
    go_simp
  simp only [List.setIfInBounds_toArray, List.set_cons_zero, List.set_cons_succ]
  refine takeH (i := 5) (d := 16) (v := .int .i64 (q1 : Int)) rfl rfl (by kernel_rfl) (by kernel_rfl) (by kernel_rfl) (fun _ _ _ h => h) (by rfl) ?_ hHeld ?_
  · intro wz hSw
    (try dsimp only at hSw)
    go_simp
  simp only [List.setIfInBounds_toArray, List.set_cons_zero, List.set_cons_succ]
  refine takeH (i := 6) (d := 17) (v := .int .u64 (q1 : Int)) rfl rfl (by kernel_rfl) (by kernel_rfl) (by kernel_rfl) (fun _ _ _ h => h) (by rfl) ?_ hHeld ?_
  · intro wz hSw
    (try dsimp only at hSw)
    go_simp
  simp only [List.setIfInBounds_toArray, List.set_cons_zero, List.set_cons_succ]
  refine takeH (i := 8) (d := 19) (v := .pointer (some ⟨w.heap.size, 2, none⟩)) rfl rfl (by kernel_rfl) (by kernel_rfl) (by kernel_rfl) (fun _ _ _ h => h) (by rfl) ?_ hHeld ?_
  · intro wz hSw
    (try dsimp only at hSw)
    go_simp
  simp only [List.setIfInBounds_toArray, List.set_cons_zero, List.set_cons_succ]
  refine takeH (i := 9) (d := 20) (v := .int .i64 (q2 : Int)) rfl rfl (by kernel_rfl) (by kernel_rfl) (by kernel_rfl) (fun _ _ _ h => h) (by rfl) ?_ hHeld ?_
  · intro wz hSw
    (try dsimp only at hSw)
    go_simp
  simp only [List.setIfInBounds_toArray, List.set_cons_zero, List.set_cons_succ]
  refine takeH (i := 10) (d := 21) (v := .int .u64 (q2 : Int)) rfl rfl (by kernel_rfl) (by kernel_rfl) (by kernel_rfl) (fun _ _ _ h => h) (by rfl) ?_ hHeld ?_
  · intro wz hSw
    (try dsimp only at hSw)
    go_simp
  simp only [List.setIfInBounds_toArray, List.set_cons_zero, List.set_cons_succ]
  refine takeH (i := 12) (d := 23) (v := .pointer (some ⟨w.heap.size, 3, none⟩)) rfl rfl (by kernel_rfl) (by kernel_rfl) (by kernel_rfl) (fun _ _ _ h => h) (by rfl) ?_ hHeld ?_
  · intro wz hSw
    (try dsimp only at hSw)
    go_simp
  simp only [List.setIfInBounds_toArray, List.set_cons_zero, List.set_cons_succ]
  refine takeH (i := 13) (d := 24) (v := .int .u64 (fl : Int)) rfl rfl (by kernel_rfl) (by kernel_rfl) (by kernel_rfl) (fun _ _ _ h => h) (by rfl) ?_ hHeld ?_
  · intro wz hSw
    (try dsimp only at hSw)
    go_simp
  simp only [List.setIfInBounds_toArray, List.set_cons_zero, List.set_cons_succ]
  refine callH (i := 3) (d := 14) (f := 79) (vals := #[.slice none 0 0, .int .u64 (q0 : Int), .int .i64 2]) rfl rfl (by kernel_rfl) (by rfl) ?_ ?_
  · go_simp
  refine (num_any q0 2 HO9.out.seg (by omega) (by omega) (by omega)).mono ?_
  rintro e wa ⟨Aa, na, ca, hna, rfl, ho, hb⟩
  have hla : na ≤ 2 := by
    rw [hna, List.length_append, leB_len]
    have h9 := HO9.out.len
    rw [bts_len] at h9
    omega
  have HOa := Lib.hid (Own.less ho HB9.out.size)
  have HBa := Lib.hid (nextB HB9.out (Nat.le_refl _) hb)
  clear ho hb hna
  clear HX
  have HX := Lib.hid (HB0.out.below HBa.out (by omega))
  have hcell := (show wa.cell? ⟨w.heap.size, 0, none⟩ = some (.int .i64 (q0 : Int)) ∧ wa.cell? ⟨w.heap.size, 1, none⟩ = some (.int .i64 (q1 : Int)) ∧ wa.cell? ⟨w.heap.size, 2, none⟩ = some (.int .i64 (q2 : Int)) ∧ wa.cell? ⟨w.heap.size, 3, none⟩ = some (.int .u64 (fl : Int)) from ⟨(HX.out.cell 0).trans rfl, (HX.out.cell 1).trans rfl, (HX.out.cell 2).trans rfl, (HX.out.cell 3).trans rfl⟩)
  clear hHeld
  refine ⟨_, rfl, hcell, fun hHeld => ?_⟩
  simp only [List.setIfInBounds_toArray, List.set_cons_zero, List.set_cons_succ]
  clear hcell
  refine callH (i := 7) (d := 18) (f := 79) (vals := #[.slice Aa na ca, .int .u64 (q1 : Int), .int .i64 2]) rfl rfl (by kernel_rfl) (by rfl) ?_ ?_
  · go_simp
  refine (num_any q1 2 HOa.out.seg (by omega) (by omega) (by omega)).mono ?_
  rintro e wb ⟨Ab, nb, cb, hnb, rfl, ho, hb⟩
  have hlb : nb ≤ 4 := by
    rw [hnb, List.length_append, leB_len]
    have h9 := HOa.out.len
    rw [bts_len] at h9
    omega
  have HOb := Lib.hid (Own.less ho HBa.out.size)
  have HBb := Lib.hid (nextB HBa.out (Nat.le_refl _) hb)
  clear ho hb hnb
  clear HX
  have HX := Lib.hid (HB0.out.below HBb.out (by omega))
  have hcell := (show wb.cell? ⟨w.heap.size, 0, none⟩ = some (.int .i64 (q0 : Int)) ∧ wb.cell? ⟨w.heap.size, 1, none⟩ = some (.int .i64 (q1 : Int)) ∧ wb.cell? ⟨w.heap.size, 2, none⟩ = some (.int .i64 (q2 : Int)) ∧ wb.cell? ⟨w.heap.size, 3, none⟩ = some (.int .u64 (fl : Int)) from ⟨(HX.out.cell 0).trans rfl, (HX.out.cell 1).trans rfl, (HX.out.cell 2).trans rfl, (HX.out.cell 3).trans rfl⟩)
  clear hHeld
  refine ⟨_, rfl, hcell, fun hHeld => ?_⟩
  simp only [List.setIfInBounds_toArray, List.set_cons_zero, List.set_cons_succ]
  clear hcell
  refine callH (i := 11) (d := 22) (f := 79) (vals := #[.slice Ab nb cb, .int .u64 (q2 : Int), .int .i64 2]) rfl rfl (by kernel_rfl) (by rfl) ?_ ?_
  · go_simp
  refine (num_any q2 2 HOb.out.seg (by omega) (by omega) (by omega)).mono ?_
  rintro e wc ⟨Ac, nc, cc, hnc, rfl, ho, hb⟩
  have hlc : nc ≤ 6 := by
    rw [hnc, List.length_append, leB_len]
    have h9 := HOb.out.len
    rw [bts_len] at h9
    omega
  have HOc := Lib.hid (Own.less ho HBb.out.size)
  have HBc := Lib.hid (nextB HBb.out (Nat.le_refl _) hb)
  clear ho hb hnc
  clear HX
  have HX := Lib.hid (HB0.out.below HBc.out (by omega))
  have hcell := (show wc.cell? ⟨w.heap.size, 0, none⟩ = some (.int .i64 (q0 : Int)) ∧ wc.cell? ⟨w.heap.size, 1, none⟩ = some (.int .i64 (q1 : Int)) ∧ wc.cell? ⟨w.heap.size, 2, none⟩ = some (.int .i64 (q2 : Int)) ∧ wc.cell? ⟨w.heap.size, 3, none⟩ = some (.int .u64 (fl : Int)) from ⟨(HX.out.cell 0).trans rfl, (HX.out.cell 1).trans rfl, (HX.out.cell 2).trans rfl, (HX.out.cell 3).trans rfl⟩)
  clear hHeld
  refine ⟨_, rfl, hcell, fun hHeld => ?_⟩
  simp only [List.setIfInBounds_toArray, List.set_cons_zero, List.set_cons_succ]
  clear hcell
  refine callH (i := 14) (d := 25) (f := 79) (vals := #[.slice Ac nc cc, .int .u64 (fl : Int), .int .i64 8]) rfl rfl (by kernel_rfl) (by rfl) ?_ ?_
  · go_simp
  refine (num_any fl 8 HOc.out.seg (by omega) (by omega) (by omega)).mono ?_
  rintro e wd ⟨Ad, nd, cd, hnd, rfl, ho, hb⟩
  have hld : nd ≤ 14 := by
    rw [hnd, List.length_append, leB_len]
    have h9 := HOc.out.len
    rw [bts_len] at h9
    omega
  have HOd := Lib.hid (Own.less ho HBc.out.size)
  have HBd := Lib.hid (nextB HBc.out (Nat.le_refl _) hb)
  clear ho hb hnd
  clear HX
  have HX := Lib.hid (HB0.out.below HBd.out (by omega))
  have hcell := (show wd.cell? ⟨w.heap.size, 0, none⟩ = some (.int .i64 (q0 : Int)) ∧ wd.cell? ⟨w.heap.size, 1, none⟩ = some (.int .i64 (q1 : Int)) ∧ wd.cell? ⟨w.heap.size, 2, none⟩ = some (.int .i64 (q2 : Int)) ∧ wd.cell? ⟨w.heap.size, 3, none⟩ = some (.int .u64 (fl : Int)) from ⟨(HX.out.cell 0).trans rfl, (HX.out.cell 1).trans rfl, (HX.out.cell 2).trans rfl, (HX.out.cell 3).trans rfl⟩)
  clear hHeld
  refine ⟨_, rfl, hcell, fun hHeld => ?_⟩
  simp only [List.setIfInBounds_toArray, List.set_cons_zero, List.set_cons_succ]
  clear hcell
  refine takeH (i := 15) (d := 3) (v := .slice Ad nd cd) rfl rfl (by kernel_rfl) (by kernel_rfl) (by kernel_rfl) (fun _ _ _ h => h) (by rfl) ?_ hHeld ?_
  · intro wz hSw
    (try dsimp only at hSw)
    go_simp
  simp only [List.setIfInBounds_toArray, List.set_cons_zero, List.set_cons_succ]
  refine wpAnyH_done (by kernel_rfl) ?_ _
  clear hHeld
  have HOE := Lib.hid (show Own wd wA.heap.size 5 Ad nd cd (bts HD) by rw [HHD.out]; simpa using HOd.out)
  clear HOa HOb HOc HOd HBa HBb HBc HO9 HB9 hla hlb hlc hl9 u0 u1 u2
  have HXq := Lib.hid (HB0.out.below HBd.out (by omega))
  have mq : wd.cell? ⟨w.heap.size, 4, none⟩ = some (.slice vA vn vc) := (HXq.out.cell 4).trans rfl
  clear HXq
  go_wp2_with fail
  refine (num_any vn 1 HOE.out.seg (by omega) (by omega) (by omega)).mono ?_
  rintro e wv ⟨Av, nv, cv, hnv, rfl, ho, hb⟩
  have hlv : nv ≤ 200 := by
    rw [hnv, List.length_append, leB_len]
    have h9 := HOE.out.len
    rw [bts_len] at h9
    omega
  have HOv := Lib.hid (Own.less ho HBd.out.size)
  have HBv := Lib.hid (nextB HBd.out (Nat.le_refl _) hb)
  clear ho hb hnv
  clear mq
  go_wp2_with fail
  go_loopw [3, 4] (fun bv iv wr => ∃ k : Nat, ∃ A1 n1 c1, k ≤ vn ∧ iv = .int .i64 (k : Int) ∧ bv = .slice A1 n1 c1 ∧ n1 ≤ 200 + 300 * k ∧ Own wr wA.heap.size 5 A1 n1 c1 (bts (HD ++ leB vn 1 ++ (v.take k).flatMap volB)) ∧ Below wA.heap.size wA wr) (fun _ iv _ => vn - (intOf iv).toNat)
  case atStart => exact ⟨0, Av, nv, cv, by omega, rfl, rfl, by omega, by simpa using HOv.out, HBv.out⟩
  case round =>
    clear HOv HBv HOE hlv
    obtain ⟨k, A1, n1, c1, hk, rfl, rfl, hl1, hown, hb⟩ := hrel
    have HO1 := Lib.hid hown
    have HB1 := Lib.hid hb
    clear hown hb
    have HX := Lib.hid (HB0.out.below HB1.out (by omega))
    by_cases hlt : k < vn
    · have mf : wr.cell? ⟨w.heap.size, 4, none⟩ = some (.slice vA vn vc) := (HX.out.cell 4).trans rfl
      have i0 : (0 : Int) ≤ (k : Int) := by omega
      have i1 : (k : Int) < (vn : Int) := by omega
      have i2 : ((k : Int)).toNat = k := by omega
      obtain ⟨bo, off, hkl, rfl, hbb, e0, e1, e2, hz⟩ := (HVA.out.below HB1.out).at_ hlt
      have HZW := Lib.hid ((HVA.out.ok _ (List.getElem_mem hkl)).seg)
      have HSN := Lib.hid (cnt_step volB v (HD ++ leB vn 1) hkl)
      have hbn := hz.bborn
      have hzn : v[k].n ≤ 16 := by have := HZ6.out.1 _ (List.getElem_mem hkl); rw [hz.len] at this; exact this
      obtain ⟨q, hq, hqb⟩ := nat_of (HR.out.vid _ (List.getElem_mem hkl))
      have HVZ := Lib.hid (show volB v[k] = leB v[k].id.toNat 2 ++ leB v[k].born 8 ++ (leB v[k].l.length 1 ++ v[k].l.flatMap sizeB) from rfl)
      have HLZ := Lib.hid hz.len
      clear hz
      (try simp only at hq)
      rw [hq] at e0 HVZ
      rw [Int.toNat_natCast] at HVZ
      clear hq
      generalize volB v[k] = VB at *
      generalize v[k] = z at *
      obtain ⟨zi, zb, zA, zn, zc, zl⟩ := z
      simp only at e1 e2 hzn HVZ hbn HLZ
      have hbn1 : zb < 18446744073709551616 := hbn
      clear hbn
      go_wp2_with fail
      have HXV0 := Lib.hid (Box.new wr #[.int .i64 (q : Int), .int .u64 (zb : Int), .slice zA zn zc] 92)
      have HBa := Lib.hid (show Below wA.heap.size wA (wr.alloc (.cells #[.int .i64 (q : Int), .int .u64 (zb : Int), .slice zA zn zc] 92)).drew from ((HB1.out.alloc HB1.out.size _).drew))
      have HOa := Lib.hid (HO1.out.alloc (.cells #[.int .i64 (q : Int), .int .u64 (zb : Int), .slice zA zn zc] 92)).drew
      have HXV := Lib.hid (show Box (wr.alloc (.cells #[.int .i64 (q : Int), .int .u64 (zb : Int), .slice zA zn zc] 92)).drew wr.heap.size 92 #[.int .i64 (q : Int), .int .u64 (zb : Int), .slice zA zn zc] from HXV0.out)
      have hgv : wA.heap.size ≤ wr.heap.size := HB1.out.size
      have hgs : wr.heap.size < (wr.alloc (.cells #[.int .i64 (q : Int), .int .u64 (zb : Int), .slice zA zn zc] 92)).drew.heap.size := HXV.out.lt
      clear HXV0 mf e0 e1 e2
      have hla : n1 ≤ 200 + 300 * k := hl1
      clear hl1
      have u0 : IntKind.u64.wrap (q : Int) = (q : Int) := IntWalk.u64_in _ (by omega)
      have u1 : IntKind.u64.wrap (zn : Int) = (zn : Int) := IntWalk.u64_in _ (by omega)
      generalize hwx : (wr.alloc (.cells #[.int .i64 (q : Int), .int .u64 (zb : Int), .slice zA zn zc] 92)) = wx0 at *
      generalize wr.heap.size = gv at *
      refine wp_region_held_drew (S := fun wx => wx.cell? ⟨gv, 0, none⟩ = some (.int .i64 (q : Int)) ∧ wx.cell? ⟨gv, 1, none⟩ = some (.int .u64 (zb : Int)) ∧ wx.cell? ⟨gv, 2, none⟩ = some (.slice zA zn zc)) (by kernel_rfl) ⟨(HXV.out.cell 0).trans rfl, (HXV.out.cell 1).trans rfl, (HXV.out.cell 2).trans rfl⟩ (fun hHeld => ?_)
      refine takeH (i := 0) (d := 44) (v := .slice A1 n1 c1) rfl rfl (by kernel_rfl) (by kernel_rfl) (by kernel_rfl) (fun _ _ _ h => h) (by rfl) ?_ hHeld ?_
      · intro wz hSw
        (try dsimp only at hSw)
        go_simp
      simp only [List.setIfInBounds_toArray, List.set_cons_zero, List.set_cons_succ]
      refine takeH (i := 1) (d := 45) (v := .pointer (some ⟨gv, 0, none⟩)) rfl rfl (by kernel_rfl) (by kernel_rfl) (by kernel_rfl) (fun _ _ _ h => h) (by rfl) ?_ hHeld ?_
      · intro wz hSw
        (try dsimp only at hSw)
        go_simp
      simp only [List.setIfInBounds_toArray, List.set_cons_zero, List.set_cons_succ]
      refine takeH (i := 2) (d := 46) (v := .int .i64 (q : Int)) rfl rfl (by kernel_rfl) (by kernel_rfl) (by kernel_rfl) (fun _ _ _ h => h) (by rfl) ?_ hHeld ?_
      · intro wz hSw
        (try dsimp only at hSw)
        go_simp
      simp only [List.setIfInBounds_toArray, List.set_cons_zero, List.set_cons_succ]
      refine takeH (i := 3) (d := 47) (v := .int .u64 (q : Int)) rfl rfl (by kernel_rfl) (by kernel_rfl) (by kernel_rfl) (fun _ _ _ h => h) (by rfl) ?_ hHeld ?_
      · intro wz hSw
        (try dsimp only at hSw)
        go_simp
      simp only [List.setIfInBounds_toArray, List.set_cons_zero, List.set_cons_succ]
      refine takeH (i := 5) (d := 49) (v := .pointer (some ⟨gv, 1, none⟩)) rfl rfl (by kernel_rfl) (by kernel_rfl) (by kernel_rfl) (fun _ _ _ h => h) (by rfl) ?_ hHeld ?_
      · intro wz hSw
        (try dsimp only at hSw)
        go_simp
      simp only [List.setIfInBounds_toArray, List.set_cons_zero, List.set_cons_succ]
      refine takeH (i := 6) (d := 50) (v := .int .u64 (zb : Int)) rfl rfl (by kernel_rfl) (by kernel_rfl) (by kernel_rfl) (fun _ _ _ h => h) (by rfl) ?_ hHeld ?_
      · intro wz hSw
        (try dsimp only at hSw)
        go_simp
      simp only [List.setIfInBounds_toArray, List.set_cons_zero, List.set_cons_succ]
      refine takeH (i := 8) (d := 52) (v := .pointer (some ⟨gv, 2, none⟩)) rfl rfl (by kernel_rfl) (by kernel_rfl) (by kernel_rfl) (fun _ _ _ h => h) (by rfl) ?_ hHeld ?_
      · intro wz hSw
        (try dsimp only at hSw)
        go_simp
      simp only [List.setIfInBounds_toArray, List.set_cons_zero, List.set_cons_succ]
      refine takeH (i := 9) (d := 53) (v := .slice zA zn zc) rfl rfl (by kernel_rfl) (by kernel_rfl) (by kernel_rfl) (fun _ _ _ h => h) (by rfl) ?_ hHeld ?_
      · intro wz hSw
        (try dsimp only at hSw)
        go_simp
      simp only [List.setIfInBounds_toArray, List.set_cons_zero, List.set_cons_succ]
      refine takeH (i := 10) (d := 54) (v := .int .i64 (zn : Int)) rfl rfl (by kernel_rfl) (by kernel_rfl) (by kernel_rfl) (fun _ _ _ h => h) (by rfl) ?_ hHeld ?_
      · intro wz hSw
        (try dsimp only at hSw)
        go_simp
      simp only [List.setIfInBounds_toArray, List.set_cons_zero, List.set_cons_succ]
      refine takeH (i := 11) (d := 55) (v := .int .u64 (zn : Int)) rfl rfl (by kernel_rfl) (by kernel_rfl) (by kernel_rfl) (fun _ _ _ h => h) (by rfl) ?_ hHeld ?_
      · intro wz hSw
        (try dsimp only at hSw)
        go_simp
      simp only [List.setIfInBounds_toArray, List.set_cons_zero, List.set_cons_succ]
      refine callH (i := 4) (d := 48) (f := 79) (vals := #[.slice A1 n1 c1, .int .u64 (q : Int), .int .i64 2]) rfl rfl (by kernel_rfl) (by rfl) ?_ ?_
      · go_simp
      refine (num_any q 2 HOa.out.seg (by omega) (by omega) (by omega)).mono ?_
      rintro e wb ⟨Ab, nb, cb, hnb, rfl, ho, hb⟩
      have hlb : nb ≤ 202 + 300 * k := by
        rw [hnb, List.length_append, leB_len]
        have h9 := HOa.out.len
        rw [bts_len] at h9
        omega
      have HOb := Lib.hid (Own.less ho HBa.out.size)
      have HBb := Lib.hid (nextB HBa.out (Nat.le_refl _) hb)
      have hbx := hb
      clear ho hb hnb
      have HXVb := Lib.hid (HXV.out.below hbx (HXV.out.lt))
      clear hbx
      have hcell : wb.cell? ⟨gv, 0, none⟩ = some (.int .i64 (q : Int)) ∧ wb.cell? ⟨gv, 1, none⟩ = some (.int .u64 (zb : Int)) ∧ wb.cell? ⟨gv, 2, none⟩ = some (.slice zA zn zc) := ⟨(HXVb.out.cell 0).trans rfl, (HXVb.out.cell 1).trans rfl, (HXVb.out.cell 2).trans rfl⟩
      clear hHeld
      refine ⟨_, rfl, hcell, fun hHeld => ?_⟩
      simp only [List.setIfInBounds_toArray, List.set_cons_zero, List.set_cons_succ]
      clear hcell
      refine callH (i := 7) (d := 51) (f := 79) (vals := #[.slice Ab nb cb, .int .u64 (zb : Int), .int .i64 8]) rfl rfl (by kernel_rfl) (by rfl) ?_ ?_
      · go_simp
      refine (num_any zb 8 HOb.out.seg (by omega) (by omega) (by omega)).mono ?_
      rintro e wc ⟨Ac, nc, cc, hnc, rfl, ho, hb⟩
      have hlc : nc ≤ 210 + 300 * k := by
        rw [hnc, List.length_append, leB_len]
        have h9 := HOb.out.len
        rw [bts_len] at h9
        omega
      have HOc := Lib.hid (Own.less ho HBb.out.size)
      have HBc := Lib.hid (nextB HBb.out (Nat.le_refl _) hb)
      have hbx := hb
      clear ho hb hnc
      have HXVc := Lib.hid (HXVb.out.below hbx (HXVb.out.lt))
      clear hbx
      have hcell : wc.cell? ⟨gv, 0, none⟩ = some (.int .i64 (q : Int)) ∧ wc.cell? ⟨gv, 1, none⟩ = some (.int .u64 (zb : Int)) ∧ wc.cell? ⟨gv, 2, none⟩ = some (.slice zA zn zc) := ⟨(HXVc.out.cell 0).trans rfl, (HXVc.out.cell 1).trans rfl, (HXVc.out.cell 2).trans rfl⟩
      clear hHeld
      refine ⟨_, rfl, hcell, fun hHeld => ?_⟩
      simp only [List.setIfInBounds_toArray, List.set_cons_zero, List.set_cons_succ]
      clear hcell
      refine callH (i := 12) (d := 56) (f := 79) (vals := #[.slice Ac nc cc, .int .u64 (zn : Int), .int .i64 1]) rfl rfl (by kernel_rfl) (by rfl) ?_ ?_
      · go_simp
      refine (num_any zn 1 HOc.out.seg (by omega) (by omega) (by omega)).mono ?_
      rintro e wd ⟨Ad, nd, cd, hnd, rfl, ho, hb⟩
      have hld : nd ≤ 211 + 300 * k := by
        rw [hnd, List.length_append, leB_len]
        have h9 := HOc.out.len
        rw [bts_len] at h9
        omega
      have HOd := Lib.hid (Own.less ho HBc.out.size)
      have HBd := Lib.hid (nextB HBc.out (Nat.le_refl _) hb)
      have hbx := hb
      clear ho hb hnd
      have HXVd := Lib.hid (HXVc.out.below hbx (HXVc.out.lt))
      clear hbx
      have hcell : wd.cell? ⟨gv, 0, none⟩ = some (.int .i64 (q : Int)) ∧ wd.cell? ⟨gv, 1, none⟩ = some (.int .u64 (zb : Int)) ∧ wd.cell? ⟨gv, 2, none⟩ = some (.slice zA zn zc) := ⟨(HXVd.out.cell 0).trans rfl, (HXVd.out.cell 1).trans rfl, (HXVd.out.cell 2).trans rfl⟩
      clear hHeld
      refine ⟨_, rfl, hcell, fun hHeld => ?_⟩
      simp only [List.setIfInBounds_toArray, List.set_cons_zero, List.set_cons_succ]
      clear hcell
      refine takeH (i := 13) (d := 3) (v := .slice Ad nd cd) rfl rfl (by kernel_rfl) (by kernel_rfl) (by kernel_rfl) (fun _ _ _ h => h) (by rfl) ?_ hHeld ?_
      · intro wz hSw
        (try dsimp only at hSw)
        go_simp
      simp only [List.setIfInBounds_toArray, List.set_cons_zero, List.set_cons_succ]
      refine wpAnyH_done (by kernel_rfl) ?_ _
      clear hHeld
      clear HOa HOb HOc HBa HBb HBc hla hlb hlc HXV HXVb HXVc u0 u1
      have HMD := Lib.hid (HZW.out.below HBd.out)
      have HXD := HXVd
      have HMZ := Lib.hid (show VB = leB q 2 ++ leB zb 8 ++ (leB zn 1 ++ zl.flatMap sizeB) by rw [HVZ.out, HLZ.out])
      have hgw : gv < wd.heap.size := HXVd.out.lt
      clear HXVd HVZ hwx HZW
      go_wp2_with fail
      obtain ⟨wo, rfl⟩ : ∃ wo : World, wo = wr := ⟨_, rfl⟩
      go_loopw [3, 6] (fun bv iv ws => ∃ j : Nat, ∃ A3 n3 c3, j ≤ zn ∧ iv = .int .i64 (j : Int) ∧ bv = .slice A3 n3 c3 ∧ n3 ≤ 211 + 300 * k + 9 * j ∧ Own ws wA.heap.size 5 A3 n3 c3 (bts ((HD ++ leB vn 1 ++ (v.take k).flatMap volB ++ leB q 2 ++ leB zb 8) ++ leB zn 1 ++ (zl.take j).flatMap sizeB)) ∧ Below wd.heap.size wd ws) (fun _ iv _ => zn - (intOf iv).toNat)
      case atStart => exact ⟨0, Ad, nd, cd, by omega, rfl, rfl, by omega, by simpa using HOd.out, Below.refl _ _⟩
      case round =>
        clear HOd hld
        obtain ⟨j, A3, n3, c3, hj, rfl, rfl, hl3, hown, hb⟩ := hrel
        have HO3 := Lib.hid hown
        have HW3 := Lib.hid hb
        clear hown hb
        have HBs := Lib.hid (nextB HBd.out (Nat.le_refl _) HW3.out)
        have HXS := Lib.hid (HXD.out.below HW3.out (by omega))
        by_cases hjt : j < zn
        · obtain ⟨bm, om, hjl, x, y, rfl, hbm, hxy, x0, x1, xb, yb⟩ := mk_at (HMD.out.below (HW3.out.mono HBd.out.size)) hjt
          have HSM := Lib.hid (cnt_step sizeB zl ((HD ++ leB vn 1 ++ (v.take k).flatMap volB ++ leB q 2 ++ leB zb 8) ++ leB zn 1) hjl)
          rw [hxy] at HSM
          clear hxy
          have j0 : (0 : Int) ≤ (j : Int) := by omega
          have j1 : (j : Int) < (zn : Int) := by omega
          have j2 : ((j : Int)).toNat = j := by omega
          have y2 : wr.cell? ⟨gv, 2, none⟩ = some (.slice (some ⟨bm, om, none⟩) zn zc) := (HXS.out.cell 2).trans rfl
          go_wp2_with fail
          have HBa := Lib.hid (show Below wA.heap.size wA wr.drew from HBs.out.drew)
          have HOa := Lib.hid HO3.out.drew
          have hla : n3 ≤ 211 + 300 * k + 9 * j := hl3
          clear hl3
          have HX0 := Lib.hid (And.intro x0 x1)
          refine wp_region_held_drew (S := fun wx => wx.cell? ⟨gv, 2, none⟩ = some (.slice (some ⟨bm, om, none⟩) zn zc) ∧ wx.cell? ⟨bm, om + j * 2, none⟩ = some (.int .u64 (x : Int)) ∧ wx.cell? ⟨bm, om + j * 2 + 1, none⟩ = some (.int .u64 (y : Int))) (by kernel_rfl) ⟨y2, x0, x1⟩ (fun hHeld => ?_)
          refine takeH (i := 0) (d := 64) (v := .slice A3 n3 c3) rfl rfl (by kernel_rfl) (by kernel_rfl) (by kernel_rfl) (fun _ _ _ h => h) (by rfl) ?_ hHeld ?_
          · intro wz hSw
            (try dsimp only at hSw)
            go_simp
          simp only [List.setIfInBounds_toArray, List.set_cons_zero, List.set_cons_succ]
          refine takeH (i := 1) (d := 65) (v := .pointer (some ⟨gv, 2, none⟩)) rfl rfl (by kernel_rfl) (by kernel_rfl) (by kernel_rfl) (fun _ _ _ h => h) (by rfl) ?_ hHeld ?_
          · intro wz hSw
            (try dsimp only at hSw)
            go_simp
          simp only [List.setIfInBounds_toArray, List.set_cons_zero, List.set_cons_succ]
          refine takeH (i := 2) (d := 66) (v := .slice (some ⟨bm, om, none⟩) zn zc) rfl rfl (by kernel_rfl) (by kernel_rfl) (by kernel_rfl) (fun _ _ _ h => h) (by rfl) ?_ hHeld ?_
          · intro wz hSw
            (try dsimp only at hSw)
            go_simp
          simp only [List.setIfInBounds_toArray, List.set_cons_zero, List.set_cons_succ]
          refine takeH (i := 3) (d := 67) (v := .int .i64 (j : Int)) rfl rfl (by kernel_rfl) (by kernel_rfl) (by kernel_rfl) (fun _ _ _ h => h) (by rfl) ?_ hHeld ?_
          · intro wz hSw
            (try dsimp only at hSw)
            go_simp
          simp only [List.setIfInBounds_toArray, List.set_cons_zero, List.set_cons_succ]
          refine takeH (i := 4) (d := 68) (v := .pointer (some ⟨bm, om + j * 2, none⟩)) rfl rfl (by kernel_rfl) (by kernel_rfl) (by kernel_rfl) (fun _ _ _ h => h) (by rfl) ?_ hHeld ?_
          · intro wz hSw
            (try dsimp only at hSw)
            go_simp
          simp only [List.setIfInBounds_toArray, List.set_cons_zero, List.set_cons_succ]
          refine takeH (i := 5) (d := 69) (v := .pointer (some ⟨bm, om + j * 2, none⟩)) rfl rfl (by kernel_rfl) (by kernel_rfl) (by kernel_rfl) (fun _ _ _ h => h) (by rfl) ?_ hHeld ?_
          · intro wz hSw
            (try dsimp only at hSw)
            go_simp
          simp only [List.setIfInBounds_toArray, List.set_cons_zero, List.set_cons_succ]
          refine takeH (i := 6) (d := 70) (v := .int .u64 (x : Int)) rfl rfl (by kernel_rfl) (by kernel_rfl) (by kernel_rfl) (fun _ _ _ h => h) (by rfl) ?_ hHeld ?_
          · intro wz hSw
            (try dsimp only at hSw)
            go_simp
          simp only [List.setIfInBounds_toArray, List.set_cons_zero, List.set_cons_succ]
          refine takeH (i := 8) (d := 72) (v := .pointer (some ⟨gv, 2, none⟩)) rfl rfl (by kernel_rfl) (by kernel_rfl) (by kernel_rfl) (fun _ _ _ h => h) (by rfl) ?_ hHeld ?_
          · intro wz hSw
            (try dsimp only at hSw)
            go_simp
          simp only [List.setIfInBounds_toArray, List.set_cons_zero, List.set_cons_succ]
          refine takeH (i := 9) (d := 73) (v := .slice (some ⟨bm, om, none⟩) zn zc) rfl rfl (by kernel_rfl) (by kernel_rfl) (by kernel_rfl) (fun _ _ _ h => h) (by rfl) ?_ hHeld ?_
          · intro wz hSw
            (try dsimp only at hSw)
            go_simp
          simp only [List.setIfInBounds_toArray, List.set_cons_zero, List.set_cons_succ]
          refine takeH (i := 10) (d := 74) (v := .int .i64 (j : Int)) rfl rfl (by kernel_rfl) (by kernel_rfl) (by kernel_rfl) (fun _ _ _ h => h) (by rfl) ?_ hHeld ?_
          · intro wz hSw
            (try dsimp only at hSw)
            go_simp
          simp only [List.setIfInBounds_toArray, List.set_cons_zero, List.set_cons_succ]
          refine takeH (i := 11) (d := 75) (v := .pointer (some ⟨bm, om + j * 2, none⟩)) rfl rfl (by kernel_rfl) (by kernel_rfl) (by kernel_rfl) (fun _ _ _ h => h) (by rfl) ?_ hHeld ?_
          · intro wz hSw
            (try dsimp only at hSw)
            go_simp
          simp only [List.setIfInBounds_toArray, List.set_cons_zero, List.set_cons_succ]
          refine takeH (i := 12) (d := 76) (v := .pointer (some ⟨bm, om + j * 2 + 1, none⟩)) rfl rfl (by kernel_rfl) (by kernel_rfl) (by kernel_rfl) (fun _ _ _ h => h) (by rfl) ?_ hHeld ?_
          · intro wz hSw
            (try dsimp only at hSw)
            go_simp
          simp only [List.setIfInBounds_toArray, List.set_cons_zero, List.set_cons_succ]
          refine takeH (i := 13) (d := 77) (v := .int .u64 (y : Int)) rfl rfl (by kernel_rfl) (by kernel_rfl) (by kernel_rfl) (fun _ _ _ h => h) (by rfl) ?_ hHeld ?_
          · intro wz hSw
            (try dsimp only at hSw)
            go_simp
          simp only [List.setIfInBounds_toArray, List.set_cons_zero, List.set_cons_succ]
          refine callH (i := 7) (d := 71) (f := 79) (vals := #[.slice A3 n3 c3, .int .u64 (x : Int), .int .i64 8]) rfl rfl (by kernel_rfl) (by rfl) ?_ ?_
          · go_simp
          refine (num_any x 8 HOa.out.seg (by omega) (by omega) (by omega)).mono ?_
          rintro e wb ⟨Ab, nb, cb, hnb, rfl, ho, hb⟩
          have hlb : nb ≤ 219 + 300 * k + 9 * j := by
            rw [hnb, List.length_append, leB_len]
            have h9 := HOa.out.len
            rw [bts_len] at h9
            omega
          have HOb := Lib.hid (Own.less ho HBa.out.size)
          have HBb := Lib.hid (nextB HBa.out (Nat.le_refl _) hb)
          have HCb := Lib.hid (nextB (show Below wd.heap.size wd wr.drew from HW3.out.drew) (Nat.le_refl _) hb)
          clear ho hb hnb
          have hcell : wb.cell? ⟨gv, 2, none⟩ = some (.slice (some ⟨bm, om, none⟩) zn zc) ∧ wb.cell? ⟨bm, om + j * 2, none⟩ = some (.int .u64 (x : Int)) ∧ wb.cell? ⟨bm, om + j * 2 + 1, none⟩ = some (.int .u64 (y : Int)) := ⟨((HXD.out.below HCb.out (by omega)).cell 2).trans rfl, (HCb.out.cell (p := ⟨bm, _, none⟩) (by have := HBd.out.size; show bm < wd.heap.size; omega)).trans ((HW3.out.cell (p := ⟨bm, _, none⟩) (by have := HBd.out.size; show bm < wd.heap.size; omega)).symm.trans HX0.out.1), (HCb.out.cell (p := ⟨bm, _, none⟩) (by have := HBd.out.size; show bm < wd.heap.size; omega)).trans ((HW3.out.cell (p := ⟨bm, _, none⟩) (by have := HBd.out.size; show bm < wd.heap.size; omega)).symm.trans HX0.out.2)⟩
          clear hHeld
          refine ⟨_, rfl, hcell, fun hHeld => ?_⟩
          simp only [List.setIfInBounds_toArray, List.set_cons_zero, List.set_cons_succ]
          clear hcell
          refine callH (i := 14) (d := 78) (f := 79) (vals := #[.slice Ab nb cb, .int .u64 (y : Int), .int .i64 1]) rfl rfl (by kernel_rfl) (by rfl) ?_ ?_
          · go_simp
          refine (num_any y 1 HOb.out.seg (by omega) (by omega) (by omega)).mono ?_
          rintro e wf ⟨Af, nf, cf, hnf, rfl, ho, hb⟩
          have hlf : nf ≤ 220 + 300 * k + 9 * j := by
            rw [hnf, List.length_append, leB_len]
            have h9 := HOb.out.len
            rw [bts_len] at h9
            omega
          have HOf := Lib.hid (Own.less ho HBb.out.size)
          have HBf := Lib.hid (nextB HBb.out (Nat.le_refl _) hb)
          have HCf := Lib.hid (nextB HCb.out (Nat.le_refl _) hb)
          clear ho hb hnf
          have hcell : wf.cell? ⟨gv, 2, none⟩ = some (.slice (some ⟨bm, om, none⟩) zn zc) ∧ wf.cell? ⟨bm, om + j * 2, none⟩ = some (.int .u64 (x : Int)) ∧ wf.cell? ⟨bm, om + j * 2 + 1, none⟩ = some (.int .u64 (y : Int)) := ⟨((HXD.out.below HCf.out (by omega)).cell 2).trans rfl, (HCf.out.cell (p := ⟨bm, _, none⟩) (by have := HBd.out.size; show bm < wd.heap.size; omega)).trans ((HW3.out.cell (p := ⟨bm, _, none⟩) (by have := HBd.out.size; show bm < wd.heap.size; omega)).symm.trans HX0.out.1), (HCf.out.cell (p := ⟨bm, _, none⟩) (by have := HBd.out.size; show bm < wd.heap.size; omega)).trans ((HW3.out.cell (p := ⟨bm, _, none⟩) (by have := HBd.out.size; show bm < wd.heap.size; omega)).symm.trans HX0.out.2)⟩
          clear hHeld
          refine ⟨_, rfl, hcell, fun hHeld => ?_⟩
          simp only [List.setIfInBounds_toArray, List.set_cons_zero, List.set_cons_succ]
          clear hcell
          refine takeH (i := 15) (d := 3) (v := .slice Af nf cf) rfl rfl (by kernel_rfl) (by kernel_rfl) (by kernel_rfl) (fun _ _ _ h => h) (by rfl) ?_ hHeld ?_
          · intro wz hSw
            (try dsimp only at hSw)
            go_simp
          simp only [List.setIfInBounds_toArray, List.set_cons_zero, List.set_cons_succ]
          refine wpAnyH_done (by kernel_rfl) ?_ _
          clear hHeld
          go_wp2_with fail
          go_roundw
          case rel => exact ⟨j + 1, Af, nf, cf, by omega, by go_num, rfl, by omega, by rw [HSM.out, ← sizeB_snoc _ (x, y)]; exact HOf.out, HCf.out⟩
          case measure => simp [intOf]; omega
        · obtain rfl : zn = j := by omega
          have y2 : wr.cell? ⟨gv, 2, none⟩ = some (.slice zA zn zc) := (HXS.out.cell 2).trans rfl
          have HOF := Lib.hid (show Own wr wA.heap.size 5 A3 n3 c3 (bts (HD ++ leB vn 1 ++ (v.take (k + 1)).flatMap volB)) by
            have h5 := HO3.out
            rw [cnt_end sizeB zl (HD ++ leB vn 1 ++ (v.take k).flatMap volB ++ leB q 2 ++ leB zb 8) HLZ.out] at h5
            rw [HSN.out, HMZ.out]
            unfold cntB at h5
            rw [HLZ.out] at h5
            simpa only [List.append_assoc] using h5)
          clear HO3
          go_wp2_with fail
          go_roundw
          case rel => exact ⟨k + 1, A3, n3, c3, by omega, by go_num, rfl, by omega, HOF.out, HBs.out⟩
          case measure => simp [intOf]; omega
    · obtain rfl : vn = k := by omega
      have mf : wr.cell? ⟨w.heap.size, 4, none⟩ = some (.slice vA vn vc) := (HX.out.cell 4).trans rfl
      have mq : wr.cell? ⟨w.heap.size, 5, none⟩ = some (.slice gA gn gc) := (HX.out.cell 5).trans rfl
      go_wp2_with fail
      have HOE := Lib.hid (show Own wr wA.heap.size 5 A1 n1 c1 (bts (HD ++ cntB volB v)) by rw [← cnt_end volB v (HD) HLV.out]; exact HO1.out)
      clear mf HX HO1 hlt hk mq
      have hlE : n1 ≤ 200 + 300 * vn := hl1
      clear hl1
      generalize wr = wvz at *
      generalize A1 = Avz at *
      generalize n1 = nvz at *
      generalize c1 = cvz at *
      have HBvz := HB1
      clear HB1
      refine (num_any gn 1 HOE.out.seg (by omega) (by omega) (by omega)).mono ?_
      rintro e wg ⟨Ag, ng, cg, hng, rfl, ho, hb⟩
      have hlg : ng ≤ 2700 := by
        rw [hng, List.length_append, leB_len]
        have h9 := HOE.out.len
        rw [bts_len] at h9
        omega
      have HOg := Lib.hid (Own.less ho HBvz.out.size)
      have HBg := Lib.hid (nextB HBvz.out (Nat.le_refl _) hb)
      clear ho hb hng
      go_wp2_with fail
      go_loopw [3, 7] (fun bv iv wr => ∃ k : Nat, ∃ A1 n1 c1, k ≤ gn ∧ iv = .int .i64 (k : Int) ∧ bv = .slice A1 n1 c1 ∧ n1 ≤ 2700 + 100 * k ∧ Own wr wA.heap.size 5 A1 n1 c1 (bts (HD ++ cntB volB v ++ leB gn 1 ++ (g.take k).flatMap grpB)) ∧ Below wA.heap.size wA wr) (fun _ iv _ => gn - (intOf iv).toNat)
      case atStart => exact ⟨0, Ag, ng, cg, by omega, rfl, rfl, by omega, by simpa using HOg.out, HBg.out⟩
      case round =>
        clear HOg HBg HOE hlg
        obtain ⟨k, A1, n1, c1, hk, rfl, rfl, hl1, hown, hb⟩ := hrel
        have HO1 := Lib.hid hown
        have HB1 := Lib.hid hb
        clear hown hb
        have HX := Lib.hid (HB0.out.below HB1.out (by omega))
        by_cases hlt : k < gn
        · have mf : wr.cell? ⟨w.heap.size, 5, none⟩ = some (.slice gA gn gc) := (HX.out.cell 5).trans rfl
          have i0 : (0 : Int) ≤ (k : Int) := by omega
          have i1 : (k : Int) < (gn : Int) := by omega
          have i2 : ((k : Int)).toNat = k := by omega
          obtain ⟨bo, off, hkl, rfl, hbb, e0, e1, hz⟩ := HGA.out.at_ hlt
          have HZW := Lib.hid ((HGA.out.ok _ (List.getElem_mem hkl)).seg.1)
          have HSN := Lib.hid (cnt_step grpB g (HD ++ cntB volB v ++ leB gn 1) hkl)
          have hzn : g[k].n ≤ 8 := by have := HZ6.out.2.1 _ (List.getElem_mem hkl); rw [hz.len] at this; exact this
          obtain ⟨q, hq, hqb⟩ := nat_of (HR.out.gid _ (List.getElem_mem hkl))
          have HSMM := Lib.hid (HR.out.gm _ (List.getElem_mem hkl))
          have HVZ := Lib.hid (show grpB g[k] = leB g[k].id.toNat 2 ++ cntB n16 g[k].l from rfl)
          clear hz
          (try simp only at hq)
          (try simp only at HSMM)
          rw [hq] at e0 HVZ
          rw [Int.toNat_natCast] at HVZ
          clear hq
          generalize grpB g[k] = VB at *
          generalize g[k] = z at *
          obtain ⟨zi, zA, zn, zc, zl⟩ := z
          simp only at e0 e1 hzn HVZ HSMM
          have HEC := Lib.hid (⟨e0, e1⟩ : _ ∧ _)
          clear e0 e1
          have CELLS := Lib.hid (show ∀ W : World, Below wA.heap.size wA W → (W.cell? ⟨w.heap.size, 5, none⟩ = some (.slice (some ⟨bo, off, none⟩) gn gc) ∧ W.cell? ⟨bo, off + k * 2, none⟩ = some (.int .i64 (q : Int)) ∧ W.cell? ⟨bo, off + k * 2 + 1, none⟩ = some (.slice zA zn zc)) from fun W hW => ⟨((HB0.out.below hW (by omega)).cell 5).trans rfl, (hW.cell (p := ⟨bo, off + k * 2, none⟩) hbb).trans HEC.out.1, (hW.cell (p := ⟨bo, off + k * 2 + 1, none⟩) hbb).trans HEC.out.2⟩)
          clear HEC
          have HCL := Lib.hid (show (cntB n16 zl).length ≤ 17 by have h7 := cnt_len (f := n16) zl 2 8 (fun m _ => by simp [n16, leB_len]) (by have h6 : zl.length = zn := (nums_len zl).symm.trans HZW.out.1; omega); omega)
          have HBa := Lib.hid (show Below wA.heap.size wA wr.drew from HB1.out.drew)
          have HOa := Lib.hid HO1.out.drew
          have hla : n1 ≤ 2700 + 100 * k := hl1
          clear hl1
          have u0 : IntKind.u64.wrap (q : Int) = (q : Int) := IntWalk.u64_in _ (by omega)
          go_wp2_with fail
          clear mf
          refine wp_region_held_drew (S := fun wx => wx.cell? ⟨w.heap.size, 5, none⟩ = some (.slice (some ⟨bo, off, none⟩) gn gc) ∧ wx.cell? ⟨bo, off + k * 2, none⟩ = some (.int .i64 (q : Int)) ∧ wx.cell? ⟨bo, off + k * 2 + 1, none⟩ = some (.slice zA zn zc)) (by kernel_rfl) (CELLS.out _ HBa.out) (fun hHeld => ?_)
          refine takeH (i := 0) (d := 92) (v := .slice A1 n1 c1) rfl rfl (by kernel_rfl) (by kernel_rfl) (by kernel_rfl) (fun _ _ _ h => h) (by rfl) ?_ hHeld ?_
          · intro wz hSw
            (try dsimp only at hSw)
            go_simp
          simp only [List.setIfInBounds_toArray, List.set_cons_zero, List.set_cons_succ]
          refine takeH (i := 1) (d := 93) (v := .pointer (some ⟨w.heap.size, 5, none⟩)) rfl rfl (by kernel_rfl) (by kernel_rfl) (by kernel_rfl) (fun _ _ _ h => h) (by rfl) ?_ hHeld ?_
          · intro wz hSw
            (try dsimp only at hSw)
            go_simp
          simp only [List.setIfInBounds_toArray, List.set_cons_zero, List.set_cons_succ]
          refine takeH (i := 2) (d := 94) (v := .slice (some ⟨bo, off, none⟩) gn gc) rfl rfl (by kernel_rfl) (by kernel_rfl) (by kernel_rfl) (fun _ _ _ h => h) (by rfl) ?_ hHeld ?_
          · intro wz hSw
            (try dsimp only at hSw)
            go_simp
          simp only [List.setIfInBounds_toArray, List.set_cons_zero, List.set_cons_succ]
          refine takeH (i := 3) (d := 95) (v := .int .i64 (k : Int)) rfl rfl (by kernel_rfl) (by kernel_rfl) (by kernel_rfl) (fun _ _ _ h => h) (by rfl) ?_ hHeld ?_
          · intro wz hSw
            (try dsimp only at hSw)
            go_simp
          simp only [List.setIfInBounds_toArray, List.set_cons_zero, List.set_cons_succ]
          refine takeH (i := 4) (d := 96) (v := .pointer (some ⟨bo, off + k * 2, none⟩)) rfl rfl (by kernel_rfl) (by kernel_rfl) (by kernel_rfl) (fun _ _ _ h => h) (by rfl) ?_ hHeld ?_
          · intro wz hSw
            (try dsimp only at hSw)
            go_simp
          simp only [List.setIfInBounds_toArray, List.set_cons_zero, List.set_cons_succ]
          refine takeH (i := 5) (d := 97) (v := .pointer (some ⟨bo, off + k * 2, none⟩)) rfl rfl (by kernel_rfl) (by kernel_rfl) (by kernel_rfl) (fun _ _ _ h => h) (by rfl) ?_ hHeld ?_
          · intro wz hSw
            (try dsimp only at hSw)
            go_simp
          simp only [List.setIfInBounds_toArray, List.set_cons_zero, List.set_cons_succ]
          refine takeH (i := 6) (d := 98) (v := .int .i64 (q : Int)) rfl rfl (by kernel_rfl) (by kernel_rfl) (by kernel_rfl) (fun _ _ _ h => h) (by rfl) ?_ hHeld ?_
          · intro wz hSw
            (try dsimp only at hSw)
            go_simp
          simp only [List.setIfInBounds_toArray, List.set_cons_zero, List.set_cons_succ]
          refine takeH (i := 7) (d := 99) (v := .int .u64 (q : Int)) rfl rfl (by kernel_rfl) (by kernel_rfl) (by kernel_rfl) (fun _ _ _ h => h) (by rfl) ?_ hHeld ?_
          · intro wz hSw
            (try dsimp only at hSw)
            go_simp
          simp only [List.setIfInBounds_toArray, List.set_cons_zero, List.set_cons_succ]
          refine takeH (i := 9) (d := 101) (v := .pointer (some ⟨w.heap.size, 5, none⟩)) rfl rfl (by kernel_rfl) (by kernel_rfl) (by kernel_rfl) (fun _ _ _ h => h) (by rfl) ?_ hHeld ?_
          · intro wz hSw
            (try dsimp only at hSw)
            go_simp
          simp only [List.setIfInBounds_toArray, List.set_cons_zero, List.set_cons_succ]
          refine takeH (i := 10) (d := 102) (v := .slice (some ⟨bo, off, none⟩) gn gc) rfl rfl (by kernel_rfl) (by kernel_rfl) (by kernel_rfl) (fun _ _ _ h => h) (by rfl) ?_ hHeld ?_
          · intro wz hSw
            (try dsimp only at hSw)
            go_simp
          simp only [List.setIfInBounds_toArray, List.set_cons_zero, List.set_cons_succ]
          refine takeH (i := 11) (d := 103) (v := .int .i64 (k : Int)) rfl rfl (by kernel_rfl) (by kernel_rfl) (by kernel_rfl) (fun _ _ _ h => h) (by rfl) ?_ hHeld ?_
          · intro wz hSw
            (try dsimp only at hSw)
            go_simp
          simp only [List.setIfInBounds_toArray, List.set_cons_zero, List.set_cons_succ]
          refine takeH (i := 12) (d := 104) (v := .pointer (some ⟨bo, off + k * 2, none⟩)) rfl rfl (by kernel_rfl) (by kernel_rfl) (by kernel_rfl) (fun _ _ _ h => h) (by rfl) ?_ hHeld ?_
          · intro wz hSw
            (try dsimp only at hSw)
            go_simp
          simp only [List.setIfInBounds_toArray, List.set_cons_zero, List.set_cons_succ]
          refine takeH (i := 13) (d := 105) (v := .pointer (some ⟨bo, off + k * 2 + 1, none⟩)) rfl rfl (by kernel_rfl) (by kernel_rfl) (by kernel_rfl) (fun _ _ _ h => h) (by rfl) ?_ hHeld ?_
          · intro wz hSw
            (try dsimp only at hSw)
            go_simp
          simp only [List.setIfInBounds_toArray, List.set_cons_zero, List.set_cons_succ]
          refine takeH (i := 14) (d := 106) (v := .slice zA zn zc) rfl rfl (by kernel_rfl) (by kernel_rfl) (by kernel_rfl) (fun _ _ _ h => h) (by rfl) ?_ hHeld ?_
          · intro wz hSw
            (try dsimp only at hSw)
            go_simp
          simp only [List.setIfInBounds_toArray, List.set_cons_zero, List.set_cons_succ]
          refine callH (i := 8) (d := 100) (f := 79) (vals := #[.slice A1 n1 c1, .int .u64 (q : Int), .int .i64 2]) rfl rfl (by kernel_rfl) (by rfl) ?_ ?_
          · go_simp
          refine (num_any q 2 HOa.out.seg (by omega) (by omega) (by omega)).mono ?_
          rintro e wb ⟨Ab, nb, cb, hnb, rfl, ho, hb⟩
          have hlb : nb ≤ 2700 + 2 + 100 * k := by
            rw [hnb, List.length_append, leB_len]
            have h9 := HOa.out.len
            rw [bts_len] at h9
            omega
          have HOb := Lib.hid (Own.less ho HBa.out.size)
          have HBb := Lib.hid (nextB HBa.out (Nat.le_refl _) hb)
          clear ho hb hnb
          have hcell : wb.cell? ⟨w.heap.size, 5, none⟩ = some (.slice (some ⟨bo, off, none⟩) gn gc) ∧ wb.cell? ⟨bo, off + k * 2, none⟩ = some (.int .i64 (q : Int)) ∧ wb.cell? ⟨bo, off + k * 2 + 1, none⟩ = some (.slice zA zn zc) := CELLS.out _ HBb.out
          clear hHeld
          refine ⟨_, rfl, hcell, fun hHeld => ?_⟩
          simp only [List.setIfInBounds_toArray, List.set_cons_zero, List.set_cons_succ]
          clear hcell
          refine callH (i := 15) (d := 107) (f := 80) (vals := #[.slice Ab nb cb, .slice zA zn zc]) rfl rfl (by kernel_rfl) (by rfl) ?_ ?_
          · go_simp
          refine (rmem_any HOb.out.seg ((HZW.out.below HBb.out).more HBb.out.size) HSMM.out (by omega) (by omega)).mono ?_
          rintro e wm ⟨Am, nm, cm, hnm, rfl, ho, hb⟩
          have hlm : nm ≤ 2700 + 100 * (k + 1) := by
            rw [hnm, List.length_append]
            have h8 := HCL.out
            have h9 := HOb.out.len
            rw [bts_len] at h9
            omega
          have HOm := Lib.hid (Own.less ho HBb.out.size)
          have HBm := Lib.hid (nextB HBb.out (Nat.le_refl _) hb)
          clear ho hb hnm
          have hcell : wm.cell? ⟨w.heap.size, 5, none⟩ = some (.slice (some ⟨bo, off, none⟩) gn gc) ∧ wm.cell? ⟨bo, off + k * 2, none⟩ = some (.int .i64 (q : Int)) ∧ wm.cell? ⟨bo, off + k * 2 + 1, none⟩ = some (.slice zA zn zc) := CELLS.out _ HBm.out
          clear hHeld
          refine ⟨_, rfl, hcell, fun hHeld => ?_⟩
          simp only [List.setIfInBounds_toArray, List.set_cons_zero, List.set_cons_succ]
          clear hcell
          refine takeH (i := 16) (d := 3) (v := .slice Am nm cm) rfl rfl (by kernel_rfl) (by kernel_rfl) (by kernel_rfl) (fun _ _ _ h => h) (by rfl) ?_ hHeld ?_
          · intro wz hSw
            (try dsimp only at hSw)
            go_simp
          simp only [List.setIfInBounds_toArray, List.set_cons_zero, List.set_cons_succ]
          refine wpAnyH_done (by kernel_rfl) ?_ _
          clear hHeld
          have HOF := Lib.hid (show Own wm wA.heap.size 5 Am nm cm (bts (HD ++ cntB volB v ++ leB gn 1 ++ (g.take (k + 1)).flatMap grpB)) by
            rw [HSN.out, HVZ.out]
            simpa only [List.append_assoc] using HOm.out)
          go_wp2_with fail
          go_roundw
          case rel => exact ⟨k + 1, Am, nm, cm, by omega, by go_num, rfl, by omega, HOF.out, HBm.out⟩
          case measure => simp [intOf]; omega
        · obtain rfl : gn = k := by omega
          have mf : wr.cell? ⟨w.heap.size, 5, none⟩ = some (.slice gA gn gc) := (HX.out.cell 5).trans rfl
          have mq : wr.cell? ⟨w.heap.size, 6, none⟩ = some (.slice bA bn bc) := (HX.out.cell 6).trans rfl
          go_wp2_with fail
          have HOE := Lib.hid (show Own wr wA.heap.size 5 A1 n1 c1 (bts (HD ++ cntB volB v ++ cntB grpB g)) by rw [← cnt_end grpB g (HD ++ cntB volB v) HLG.out]; exact HO1.out)
          clear mf HX HO1 hlt hk mq
          have hlE : n1 ≤ 2700 + 100 * gn := hl1
          clear hl1
          generalize wr = wgz at *
          generalize A1 = Agz at *
          generalize n1 = ngz at *
          generalize c1 = cgz at *
          have HBgz := HB1
          clear HB1
          refine (num_any bn 1 HOE.out.seg (by omega) (by omega) (by omega)).mono ?_
          rintro e wb ⟨Ab, nb, cb, hnb, rfl, ho, hb⟩
          have hlb : nb ≤ 3200 := by
            rw [hnb, List.length_append, leB_len]
            have h9 := HOE.out.len
            rw [bts_len] at h9
            omega
          have HOb := Lib.hid (Own.less ho HBgz.out.size)
          have HBb := Lib.hid (nextB HBgz.out (Nat.le_refl _) hb)
          clear ho hb hnb
          go_wp2_with fail
          go_loopw [3, 8] (fun bv iv wr => ∃ k : Nat, ∃ A1 n1 c1, k ≤ bn ∧ iv = .int .i64 (k : Int) ∧ bv = .slice A1 n1 c1 ∧ n1 ≤ 3200 + 100 * k ∧ Own wr wA.heap.size 5 A1 n1 c1 (bts (HD ++ cntB volB v ++ cntB grpB g ++ leB bn 1 ++ (b.take k).flatMap bkB)) ∧ Below wA.heap.size wA wr) (fun _ iv _ => bn - (intOf iv).toNat)
          case atStart => exact ⟨0, Ab, nb, cb, by omega, rfl, rfl, by omega, by simpa using HOb.out, HBb.out⟩
          case round =>
            clear HOb HBb HOE hlb
            obtain ⟨k, A1, n1, c1, hk, rfl, rfl, hl1, hown, hb⟩ := hrel
            have HO1 := Lib.hid hown
            have HB1 := Lib.hid hb
            clear hown hb
            have HX := Lib.hid (HB0.out.below HB1.out (by omega))
            by_cases hlt : k < bn
            · have mf : wr.cell? ⟨w.heap.size, 6, none⟩ = some (.slice bA bn bc) := (HX.out.cell 6).trans rfl
              have i0 : (0 : Int) ≤ (k : Int) := by omega
              have i1 : (k : Int) < (bn : Int) := by omega
              have i2 : ((k : Int)).toNat = k := by omega
              obtain ⟨bo, off, hkl, rfl, hbb, e0, e1, e2, hz⟩ := HBA.out.at_ hlt
              have HZW := Lib.hid ((HBA.out.ok _ (List.getElem_mem hkl)).seg.1)
              have HSN := Lib.hid (cnt_step bkB b (HD ++ cntB volB v ++ cntB grpB g ++ leB bn 1) hkl)
              have hzn : b[k].n ≤ 8 := by have := HZ6.out.2.2 _ (List.getElem_mem hkl); rw [hz.len] at this; exact this
              obtain ⟨q, hq, hqb⟩ := nat_of (HR.out.bid _ (List.getElem_mem hkl))
              have HSMM := Lib.hid (HR.out.bm _ (List.getElem_mem hkl))
              have HVZ := Lib.hid (show bkB b[k] = leB b[k].id.toNat 2 ++ leB b[k].seq 8 ++ cntB n16 b[k].l from rfl)
              have hbn := hz.bseq
              clear hz
              (try simp only at hq)
              (try simp only at HSMM)
              rw [hq] at e0 HVZ
              rw [Int.toNat_natCast] at HVZ
              clear hq
              generalize bkB b[k] = VB at *
              generalize b[k] = z at *
              obtain ⟨zi, zs, zA, zn, zc, zl⟩ := z
              simp only at e0 e1 e2 hzn HVZ HSMM hbn
              have hbn1 : zs < 18446744073709551616 := hbn
              clear hbn
              have HEC := Lib.hid (⟨e0, e1, e2⟩ : _ ∧ _ ∧ _)
              clear e0 e1 e2
              have CELLS := Lib.hid (show ∀ W : World, Below wA.heap.size wA W → (W.cell? ⟨w.heap.size, 6, none⟩ = some (.slice (some ⟨bo, off, none⟩) bn bc) ∧ W.cell? ⟨bo, off + k * 3, none⟩ = some (.int .i64 (q : Int)) ∧ W.cell? ⟨bo, off + k * 3 + 1, none⟩ = some (.int .u64 (zs : Int)) ∧ W.cell? ⟨bo, off + k * 3 + 2, none⟩ = some (.slice zA zn zc)) from fun W hW => ⟨((HB0.out.below hW (by omega)).cell 6).trans rfl, (hW.cell (p := ⟨bo, off + k * 3, none⟩) hbb).trans HEC.out.1, (hW.cell (p := ⟨bo, off + k * 3 + 1, none⟩) hbb).trans HEC.out.2.1, (hW.cell (p := ⟨bo, off + k * 3 + 2, none⟩) hbb).trans HEC.out.2.2⟩)
              clear HEC
              have HCL := Lib.hid (show (cntB n16 zl).length ≤ 17 by have h7 := cnt_len (f := n16) zl 2 8 (fun m _ => by simp [n16, leB_len]) (by have h6 : zl.length = zn := (nums_len zl).symm.trans HZW.out.1; omega); omega)
              have HBa := Lib.hid (show Below wA.heap.size wA wr.drew from HB1.out.drew)
              have HOa := Lib.hid HO1.out.drew
              have hla : n1 ≤ 3200 + 100 * k := hl1
              clear hl1
              have u0 : IntKind.u64.wrap (q : Int) = (q : Int) := IntWalk.u64_in _ (by omega)
              go_wp2_with fail
              clear mf
              refine wp_region_held_drew (S := fun wx => wx.cell? ⟨w.heap.size, 6, none⟩ = some (.slice (some ⟨bo, off, none⟩) bn bc) ∧ wx.cell? ⟨bo, off + k * 3, none⟩ = some (.int .i64 (q : Int)) ∧ wx.cell? ⟨bo, off + k * 3 + 1, none⟩ = some (.int .u64 (zs : Int)) ∧ wx.cell? ⟨bo, off + k * 3 + 2, none⟩ = some (.slice zA zn zc)) (by kernel_rfl) (CELLS.out _ HBa.out) (fun hHeld => ?_)
              refine takeH (i := 0) (d := 121) (v := .slice A1 n1 c1) rfl rfl (by kernel_rfl) (by kernel_rfl) (by kernel_rfl) (fun _ _ _ h => h) (by rfl) ?_ hHeld ?_
              · intro wz hSw
                (try dsimp only at hSw)
                go_simp
              simp only [List.setIfInBounds_toArray, List.set_cons_zero, List.set_cons_succ]
              refine takeH (i := 1) (d := 122) (v := .pointer (some ⟨w.heap.size, 6, none⟩)) rfl rfl (by kernel_rfl) (by kernel_rfl) (by kernel_rfl) (fun _ _ _ h => h) (by rfl) ?_ hHeld ?_
              · intro wz hSw
                (try dsimp only at hSw)
                go_simp
              simp only [List.setIfInBounds_toArray, List.set_cons_zero, List.set_cons_succ]
              refine takeH (i := 2) (d := 123) (v := .slice (some ⟨bo, off, none⟩) bn bc) rfl rfl (by kernel_rfl) (by kernel_rfl) (by kernel_rfl) (fun _ _ _ h => h) (by rfl) ?_ hHeld ?_
              · intro wz hSw
                (try dsimp only at hSw)
                go_simp
              simp only [List.setIfInBounds_toArray, List.set_cons_zero, List.set_cons_succ]
              refine takeH (i := 3) (d := 124) (v := .int .i64 (k : Int)) rfl rfl (by kernel_rfl) (by kernel_rfl) (by kernel_rfl) (fun _ _ _ h => h) (by rfl) ?_ hHeld ?_
              · intro wz hSw
                (try dsimp only at hSw)
                go_simp
              simp only [List.setIfInBounds_toArray, List.set_cons_zero, List.set_cons_succ]
              refine takeH (i := 4) (d := 125) (v := .pointer (some ⟨bo, off + k * 3, none⟩)) rfl rfl (by kernel_rfl) (by kernel_rfl) (by kernel_rfl) (fun _ _ _ h => h) (by rfl) ?_ hHeld ?_
              · intro wz hSw
                (try dsimp only at hSw)
                go_simp
              simp only [List.setIfInBounds_toArray, List.set_cons_zero, List.set_cons_succ]
              refine takeH (i := 5) (d := 126) (v := .pointer (some ⟨bo, off + k * 3, none⟩)) rfl rfl (by kernel_rfl) (by kernel_rfl) (by kernel_rfl) (fun _ _ _ h => h) (by rfl) ?_ hHeld ?_
              · intro wz hSw
                (try dsimp only at hSw)
                go_simp
              simp only [List.setIfInBounds_toArray, List.set_cons_zero, List.set_cons_succ]
              refine takeH (i := 6) (d := 127) (v := .int .i64 (q : Int)) rfl rfl (by kernel_rfl) (by kernel_rfl) (by kernel_rfl) (fun _ _ _ h => h) (by rfl) ?_ hHeld ?_
              · intro wz hSw
                (try dsimp only at hSw)
                go_simp
              simp only [List.setIfInBounds_toArray, List.set_cons_zero, List.set_cons_succ]
              refine takeH (i := 7) (d := 128) (v := .int .u64 (q : Int)) rfl rfl (by kernel_rfl) (by kernel_rfl) (by kernel_rfl) (fun _ _ _ h => h) (by rfl) ?_ hHeld ?_
              · intro wz hSw
                (try dsimp only at hSw)
                go_simp
              simp only [List.setIfInBounds_toArray, List.set_cons_zero, List.set_cons_succ]
              refine takeH (i := 9) (d := 130) (v := .pointer (some ⟨w.heap.size, 6, none⟩)) rfl rfl (by kernel_rfl) (by kernel_rfl) (by kernel_rfl) (fun _ _ _ h => h) (by rfl) ?_ hHeld ?_
              · intro wz hSw
                (try dsimp only at hSw)
                go_simp
              simp only [List.setIfInBounds_toArray, List.set_cons_zero, List.set_cons_succ]
              refine takeH (i := 10) (d := 131) (v := .slice (some ⟨bo, off, none⟩) bn bc) rfl rfl (by kernel_rfl) (by kernel_rfl) (by kernel_rfl) (fun _ _ _ h => h) (by rfl) ?_ hHeld ?_
              · intro wz hSw
                (try dsimp only at hSw)
                go_simp
              simp only [List.setIfInBounds_toArray, List.set_cons_zero, List.set_cons_succ]
              refine takeH (i := 11) (d := 132) (v := .int .i64 (k : Int)) rfl rfl (by kernel_rfl) (by kernel_rfl) (by kernel_rfl) (fun _ _ _ h => h) (by rfl) ?_ hHeld ?_
              · intro wz hSw
                (try dsimp only at hSw)
                go_simp
              simp only [List.setIfInBounds_toArray, List.set_cons_zero, List.set_cons_succ]
              refine takeH (i := 12) (d := 133) (v := .pointer (some ⟨bo, off + k * 3, none⟩)) rfl rfl (by kernel_rfl) (by kernel_rfl) (by kernel_rfl) (fun _ _ _ h => h) (by rfl) ?_ hHeld ?_
              · intro wz hSw
                (try dsimp only at hSw)
                go_simp
              simp only [List.setIfInBounds_toArray, List.set_cons_zero, List.set_cons_succ]
              refine takeH (i := 13) (d := 134) (v := .pointer (some ⟨bo, off + k * 3 + 1, none⟩)) rfl rfl (by kernel_rfl) (by kernel_rfl) (by kernel_rfl) (fun _ _ _ h => h) (by rfl) ?_ hHeld ?_
              · intro wz hSw
                (try dsimp only at hSw)
                go_simp
              simp only [List.setIfInBounds_toArray, List.set_cons_zero, List.set_cons_succ]
              refine takeH (i := 14) (d := 135) (v := .int .u64 (zs : Int)) rfl rfl (by kernel_rfl) (by kernel_rfl) (by kernel_rfl) (fun _ _ _ h => h) (by rfl) ?_ hHeld ?_
              · intro wz hSw
                (try dsimp only at hSw)
                go_simp
              simp only [List.setIfInBounds_toArray, List.set_cons_zero, List.set_cons_succ]
              refine takeH (i := 16) (d := 137) (v := .pointer (some ⟨w.heap.size, 6, none⟩)) rfl rfl (by kernel_rfl) (by kernel_rfl) (by kernel_rfl) (fun _ _ _ h => h) (by rfl) ?_ hHeld ?_
              · intro wz hSw
                (try dsimp only at hSw)
                go_simp
              simp only [List.setIfInBounds_toArray, List.set_cons_zero, List.set_cons_succ]
              refine takeH (i := 17) (d := 138) (v := .slice (some ⟨bo, off, none⟩) bn bc) rfl rfl (by kernel_rfl) (by kernel_rfl) (by kernel_rfl) (fun _ _ _ h => h) (by rfl) ?_ hHeld ?_
              · intro wz hSw
                (try dsimp only at hSw)
                go_simp
              simp only [List.setIfInBounds_toArray, List.set_cons_zero, List.set_cons_succ]
              refine takeH (i := 18) (d := 139) (v := .int .i64 (k : Int)) rfl rfl (by kernel_rfl) (by kernel_rfl) (by kernel_rfl) (fun _ _ _ h => h) (by rfl) ?_ hHeld ?_
              · intro wz hSw
                (try dsimp only at hSw)
                go_simp
              simp only [List.setIfInBounds_toArray, List.set_cons_zero, List.set_cons_succ]
              refine takeH (i := 19) (d := 140) (v := .pointer (some ⟨bo, off + k * 3, none⟩)) rfl rfl (by kernel_rfl) (by kernel_rfl) (by kernel_rfl) (fun _ _ _ h => h) (by rfl) ?_ hHeld ?_
              · intro wz hSw
                (try dsimp only at hSw)
                go_simp
              simp only [List.setIfInBounds_toArray, List.set_cons_zero, List.set_cons_succ]
              refine takeH (i := 20) (d := 141) (v := .pointer (some ⟨bo, off + k * 3 + 2, none⟩)) rfl rfl (by kernel_rfl) (by kernel_rfl) (by kernel_rfl) (fun _ _ _ h => h) (by rfl) ?_ hHeld ?_
              · intro wz hSw
                (try dsimp only at hSw)
                go_simp
              simp only [List.setIfInBounds_toArray, List.set_cons_zero, List.set_cons_succ]
              refine takeH (i := 21) (d := 142) (v := .slice zA zn zc) rfl rfl (by kernel_rfl) (by kernel_rfl) (by kernel_rfl) (fun _ _ _ h => h) (by rfl) ?_ hHeld ?_
              · intro wz hSw
                (try dsimp only at hSw)
                go_simp
              simp only [List.setIfInBounds_toArray, List.set_cons_zero, List.set_cons_succ]
              refine callH (i := 8) (d := 129) (f := 79) (vals := #[.slice A1 n1 c1, .int .u64 (q : Int), .int .i64 2]) rfl rfl (by kernel_rfl) (by rfl) ?_ ?_
              · go_simp
              refine (num_any q 2 HOa.out.seg (by omega) (by omega) (by omega)).mono ?_
              rintro e wb ⟨Ab, nb, cb, hnb, rfl, ho, hb⟩
              have hlb : nb ≤ 3200 + 2 + 100 * k := by
                rw [hnb, List.length_append, leB_len]
                have h9 := HOa.out.len
                rw [bts_len] at h9
                omega
              have HOb := Lib.hid (Own.less ho HBa.out.size)
              have HBb := Lib.hid (nextB HBa.out (Nat.le_refl _) hb)
              clear ho hb hnb
              have hcell : wb.cell? ⟨w.heap.size, 6, none⟩ = some (.slice (some ⟨bo, off, none⟩) bn bc) ∧ wb.cell? ⟨bo, off + k * 3, none⟩ = some (.int .i64 (q : Int)) ∧ wb.cell? ⟨bo, off + k * 3 + 1, none⟩ = some (.int .u64 (zs : Int)) ∧ wb.cell? ⟨bo, off + k * 3 + 2, none⟩ = some (.slice zA zn zc) := CELLS.out _ HBb.out
              clear hHeld
              refine ⟨_, rfl, hcell, fun hHeld => ?_⟩
              simp only [List.setIfInBounds_toArray, List.set_cons_zero, List.set_cons_succ]
              clear hcell
              refine callH (i := 15) (d := 136) (f := 79) (vals := #[.slice Ab nb cb, .int .u64 (zs : Int), .int .i64 8]) rfl rfl (by kernel_rfl) (by rfl) ?_ ?_
              · go_simp
              refine (num_any zs 8 HOb.out.seg (by omega) (by omega) (by omega)).mono ?_
              rintro e wc ⟨Ac, nc, cc, hnc, rfl, ho, hb⟩
              have hlc : nc ≤ 3200 + 10 + 100 * k := by
                rw [hnc, List.length_append, leB_len]
                have h9 := HOb.out.len
                rw [bts_len] at h9
                omega
              have HOc := Lib.hid (Own.less ho HBb.out.size)
              have HBc := Lib.hid (nextB HBb.out (Nat.le_refl _) hb)
              clear ho hb hnc
              have hcell : wc.cell? ⟨w.heap.size, 6, none⟩ = some (.slice (some ⟨bo, off, none⟩) bn bc) ∧ wc.cell? ⟨bo, off + k * 3, none⟩ = some (.int .i64 (q : Int)) ∧ wc.cell? ⟨bo, off + k * 3 + 1, none⟩ = some (.int .u64 (zs : Int)) ∧ wc.cell? ⟨bo, off + k * 3 + 2, none⟩ = some (.slice zA zn zc) := CELLS.out _ HBc.out
              clear hHeld
              refine ⟨_, rfl, hcell, fun hHeld => ?_⟩
              simp only [List.setIfInBounds_toArray, List.set_cons_zero, List.set_cons_succ]
              clear hcell
              refine callH (i := 22) (d := 143) (f := 80) (vals := #[.slice Ac nc cc, .slice zA zn zc]) rfl rfl (by kernel_rfl) (by rfl) ?_ ?_
              · go_simp
              refine (rmem_any HOc.out.seg ((HZW.out.below HBc.out).more HBc.out.size) HSMM.out (by omega) (by omega)).mono ?_
              rintro e wm ⟨Am, nm, cm, hnm, rfl, ho, hb⟩
              have hlm : nm ≤ 3200 + 100 * (k + 1) := by
                rw [hnm, List.length_append]
                have h8 := HCL.out
                have h9 := HOc.out.len
                rw [bts_len] at h9
                omega
              have HOm := Lib.hid (Own.less ho HBc.out.size)
              have HBm := Lib.hid (nextB HBc.out (Nat.le_refl _) hb)
              clear ho hb hnm
              have hcell : wm.cell? ⟨w.heap.size, 6, none⟩ = some (.slice (some ⟨bo, off, none⟩) bn bc) ∧ wm.cell? ⟨bo, off + k * 3, none⟩ = some (.int .i64 (q : Int)) ∧ wm.cell? ⟨bo, off + k * 3 + 1, none⟩ = some (.int .u64 (zs : Int)) ∧ wm.cell? ⟨bo, off + k * 3 + 2, none⟩ = some (.slice zA zn zc) := CELLS.out _ HBm.out
              clear hHeld
              refine ⟨_, rfl, hcell, fun hHeld => ?_⟩
              simp only [List.setIfInBounds_toArray, List.set_cons_zero, List.set_cons_succ]
              clear hcell
              refine takeH (i := 23) (d := 3) (v := .slice Am nm cm) rfl rfl (by kernel_rfl) (by kernel_rfl) (by kernel_rfl) (fun _ _ _ h => h) (by rfl) ?_ hHeld ?_
              · intro wz hSw
                (try dsimp only at hSw)
                go_simp
              simp only [List.setIfInBounds_toArray, List.set_cons_zero, List.set_cons_succ]
              refine wpAnyH_done (by kernel_rfl) ?_ _
              clear hHeld
              have HOF := Lib.hid (show Own wm wA.heap.size 5 Am nm cm (bts (HD ++ cntB volB v ++ cntB grpB g ++ leB bn 1 ++ (b.take (k + 1)).flatMap bkB)) by
                rw [HSN.out, HVZ.out]
                simpa only [List.append_assoc] using HOm.out)
              go_wp2_with fail
              go_roundw
              case rel => exact ⟨k + 1, Am, nm, cm, by omega, by go_num, rfl, by omega, HOF.out, HBm.out⟩
              case measure => simp [intOf]; omega
            · obtain rfl : bn = k := by omega
              have mf : wr.cell? ⟨w.heap.size, 6, none⟩ = some (.slice bA bn bc) := (HX.out.cell 6).trans rfl
              have mq : wr.cell? ⟨w.heap.size, 7, none⟩ = some (.slice kA kn kc) := (HX.out.cell 7).trans rfl
              go_wp2_with fail
              have HOE := Lib.hid (show Own wr wA.heap.size 5 A1 n1 c1 (bts (HD ++ cntB volB v ++ cntB grpB g ++ cntB bkB b)) by rw [← cnt_end bkB b (HD ++ cntB volB v ++ cntB grpB g) HLB.out]; exact HO1.out)
              clear mf HX HO1 hlt hk mq
              have hlE : n1 ≤ 3200 + 100 * bn := hl1
              clear hl1
              generalize wr = wbz at *
              generalize A1 = Abz at *
              generalize n1 = nbz at *
              generalize c1 = cbz at *
              have HBbz := HB1
              clear HB1
              refine (num_any kn 1 HOE.out.seg (by omega) (by omega) (by omega)).mono ?_
              rintro e wk ⟨Ak, nk, ck, hnk, rfl, ho, hb⟩
              have hlk : nk ≤ 4200 := by
                rw [hnk, List.length_append, leB_len]
                have h9 := HOE.out.len
                rw [bts_len] at h9
                omega
              have HOk := Lib.hid (Own.less ho HBbz.out.size)
              have HBk := Lib.hid (nextB HBbz.out (Nat.le_refl _) hb)
              clear ho hb hnk
              go_wp2_with fail
              go_loopw [3, 9] (fun bv iv wr => ∃ k : Nat, ∃ A1 n1 c1, k ≤ kn ∧ iv = .int .i64 (k : Int) ∧ bv = .slice A1 n1 c1 ∧ n1 ≤ 4200 + 10 * k ∧ Own wr wA.heap.size 5 A1 n1 c1 (bts (HD ++ cntB volB v ++ cntB grpB g ++ cntB bkB b ++ leB kn 1 ++ (kl.take k).flatMap n64)) ∧ Below wA.heap.size wA wr) (fun _ iv _ => kn - (intOf iv).toNat)
              case atStart => exact ⟨0, Ak, nk, ck, by omega, rfl, rfl, by omega, by simpa using HOk.out, HBk.out⟩
              case round =>
                clear HOk HBk HOE hlk
                obtain ⟨k, A1, n1, c1, hk, rfl, rfl, hl1, hown, hb⟩ := hrel
                have HO1 := Lib.hid hown
                have HB1 := Lib.hid hb
                clear hown hb
                have HX := Lib.hid (HB0.out.below HB1.out (by omega))
                by_cases hlt : k < kn
                · have mf : wr.cell? ⟨w.heap.size, 7, none⟩ = some (.slice kA kn kc) := (HX.out.cell 7).trans rfl
                  have i0 : (0 : Int) ≤ (k : Int) := by omega
                  have i1 : (k : Int) < (kn : Int) := by omega
                  have i2 : ((k : Int)).toNat = k := by omega
                  obtain ⟨bo, off, hkl, rfl, hbb, e0, _⟩ := Seg.us (HKA.out.below HB1.out) hlt
                  have HSN := Lib.hid (cnt_step n64 kl (HD ++ cntB volB v ++ cntB grpB g ++ cntB bkB b ++ leB kn 1) hkl)
                  have hx : kl[k] < 18446744073709551616 := HKU.out _ (List.getElem_mem hkl)
                  generalize kl[k] = x at *
                  go_wp2_with fail
                  refine (num_any x 8 HO1.out.seg (by omega) (by omega) (by omega)).mono ?_
                  rintro e wb ⟨Ab, nb', cb, hnb, rfl, ho, hb⟩
                  have hlb : nb' ≤ 4200 + 10 * (k + 1) := by
                    rw [hnb, List.length_append, leB_len]
                    have h9 := HO1.out.len
                    rw [bts_len] at h9
                    omega
                  have HOb := Lib.hid (Own.less ho HB1.out.size)
                  have HBb := Lib.hid (nextB HB1.out (Nat.le_refl _) hb)
                  clear ho hb hnb mf
                  go_wp2_with fail
                  go_roundw
                  case rel => exact ⟨k + 1, Ab, nb', cb, by omega, by go_num, rfl, hlb, by rw [HSN.out]; exact HOb.out, HBb.out⟩
                  case measure => simp [intOf]; omega
                · obtain rfl : kn = k := by omega
                  have mf : wr.cell? ⟨w.heap.size, 7, none⟩ = some (.slice kA kn kc) := (HX.out.cell 7).trans rfl
                  have mq : wr.cell? ⟨w.heap.size, 8, none⟩ = some (.slice tA tn tc) := (HX.out.cell 8).trans rfl
                  go_wp2_with fail
                  have HOE := Lib.hid (show Own wr wA.heap.size 5 A1 n1 c1 (bts (HD ++ cntB volB v ++ cntB grpB g ++ cntB bkB b ++ cntB n64 kl)) by rw [← cnt_end n64 kl (HD ++ cntB volB v ++ cntB grpB g ++ cntB bkB b) HLK.out]; exact HO1.out)
                  clear mf HX HO1 hlt hk mq
                  have hlE : n1 ≤ 4200 + 10 * kn := hl1
                  clear hl1
                  generalize wr = wkz at *
                  generalize A1 = Akz at *
                  generalize n1 = nkz at *
                  generalize c1 = ckz at *
                  have HBkz := HB1
                  clear HB1
                  refine (num_any tn 1 HOE.out.seg (by omega) (by omega) (by omega)).mono ?_
                  rintro e wt ⟨At, nt, ct, hnt, rfl, ho, hb⟩
                  have hlt : nt ≤ 4600 := by
                    rw [hnt, List.length_append, leB_len]
                    have h9 := HOE.out.len
                    rw [bts_len] at h9
                    omega
                  have HOt := Lib.hid (Own.less ho HBkz.out.size)
                  have HBt := Lib.hid (nextB HBkz.out (Nat.le_refl _) hb)
                  clear ho hb hnt
                  go_wp2_with fail
                  go_loopw [3, 10] (fun bv iv wr => ∃ k : Nat, ∃ A1 n1 c1, k ≤ tn ∧ iv = .int .i64 (k : Int) ∧ bv = .slice A1 n1 c1 ∧ n1 ≤ 4600 + 20 * k ∧ Own wr wA.heap.size 5 A1 n1 c1 (bts (HD ++ cntB volB v ++ cntB grpB g ++ cntB bkB b ++ cntB n64 kl ++ leB tn 1 ++ (t.take k).flatMap timeB)) ∧ Below wA.heap.size wA wr) (fun _ iv _ => tn - (intOf iv).toNat)
                  case atStart => exact ⟨0, At, nt, ct, by omega, rfl, rfl, by omega, by simpa using HOt.out, HBt.out⟩
                  case round =>
                    clear HOt HBt HOE hlt
                    obtain ⟨k, A1, n1, c1, hk, rfl, rfl, hl1, hown, hb⟩ := hrel
                    have HO1 := Lib.hid hown
                    have HB1 := Lib.hid hb
                    clear hown hb
                    have HX := Lib.hid (HB0.out.below HB1.out (by omega))
                    by_cases hlt : k < tn
                    · have mf : wr.cell? ⟨w.heap.size, 8, none⟩ = some (.slice tA tn tc) := (HX.out.cell 8).trans rfl
                      have i0 : (0 : Int) ≤ (k : Int) := by omega
                      have i1 : (k : Int) < (tn : Int) := by omega
                      have i2 : ((k : Int)).toNat = k := by omega
                      obtain ⟨bo, off, hkl, x, y, rfl, hbb, hxy, e0, e1, xb, yb⟩ := mk_at HTA.out hlt
                      have HSN := Lib.hid (cnt_step timeB t (HD ++ cntB volB v ++ cntB grpB g ++ cntB bkB b ++ cntB n64 kl ++ leB tn 1) hkl)
                      rw [hxy] at HSN
                      have CELLS := Lib.hid (show ∀ W : World, Below wA.heap.size wA W → (W.cell? ⟨w.heap.size, 8, none⟩ = some (.slice (some ⟨bo, off, none⟩) tn tc) ∧ W.cell? ⟨bo, off + k * 2, none⟩ = some (.int .u64 (x : Int)) ∧ W.cell? ⟨bo, off + k * 2 + 1, none⟩ = some (.int .u64 (y : Int))) from fun W hW => ⟨((HB0.out.below hW (by omega)).cell 8).trans rfl, (hW.cell (p := ⟨bo, _, none⟩) hbb).trans e0, (hW.cell (p := ⟨bo, _, none⟩) hbb).trans e1⟩)
                      clear hxy e0 e1 mf
                      have HBa := Lib.hid (show Below wA.heap.size wA wr.drew from HB1.out.drew)
                      have HOa := Lib.hid HO1.out.drew
                      have hla : n1 ≤ 4600 + 20 * k := hl1
                      clear hl1
                      have mf : wr.cell? ⟨w.heap.size, 8, none⟩ = some (.slice (some ⟨bo, off, none⟩) tn tc) := (HX.out.cell 8).trans rfl
                      go_wp2_with fail
                      refine wp_region_held_drew (S := fun wx => wx.cell? ⟨w.heap.size, 8, none⟩ = some (.slice (some ⟨bo, off, none⟩) tn tc) ∧ wx.cell? ⟨bo, off + k * 2, none⟩ = some (.int .u64 (x : Int)) ∧ wx.cell? ⟨bo, off + k * 2 + 1, none⟩ = some (.int .u64 (y : Int))) (by kernel_rfl) (CELLS.out _ HBa.out) (fun hHeld => ?_)
                      refine takeH (i := 0) (d := 177) (v := .slice A1 n1 c1) rfl rfl (by kernel_rfl) (by kernel_rfl) (by kernel_rfl) (fun _ _ _ h => h) (by rfl) ?_ hHeld ?_
                      · intro wz hSw
                        (try dsimp only at hSw)
                        go_simp
                      simp only [List.setIfInBounds_toArray, List.set_cons_zero, List.set_cons_succ]
                      refine takeH (i := 1) (d := 178) (v := .pointer (some ⟨w.heap.size, 8, none⟩)) rfl rfl (by kernel_rfl) (by kernel_rfl) (by kernel_rfl) (fun _ _ _ h => h) (by rfl) ?_ hHeld ?_
                      · intro wz hSw
                        (try dsimp only at hSw)
                        go_simp
                      simp only [List.setIfInBounds_toArray, List.set_cons_zero, List.set_cons_succ]
                      refine takeH (i := 2) (d := 179) (v := .slice (some ⟨bo, off, none⟩) tn tc) rfl rfl (by kernel_rfl) (by kernel_rfl) (by kernel_rfl) (fun _ _ _ h => h) (by rfl) ?_ hHeld ?_
                      · intro wz hSw
                        (try dsimp only at hSw)
                        go_simp
                      simp only [List.setIfInBounds_toArray, List.set_cons_zero, List.set_cons_succ]
                      refine takeH (i := 3) (d := 180) (v := .int .i64 (k : Int)) rfl rfl (by kernel_rfl) (by kernel_rfl) (by kernel_rfl) (fun _ _ _ h => h) (by rfl) ?_ hHeld ?_
                      · intro wz hSw
                        (try dsimp only at hSw)
                        go_simp
                      simp only [List.setIfInBounds_toArray, List.set_cons_zero, List.set_cons_succ]
                      refine takeH (i := 4) (d := 181) (v := .pointer (some ⟨bo, off + k * 2, none⟩)) rfl rfl (by kernel_rfl) (by kernel_rfl) (by kernel_rfl) (fun _ _ _ h => h) (by rfl) ?_ hHeld ?_
                      · intro wz hSw
                        (try dsimp only at hSw)
                        go_simp
                      simp only [List.setIfInBounds_toArray, List.set_cons_zero, List.set_cons_succ]
                      refine takeH (i := 5) (d := 182) (v := .pointer (some ⟨bo, off + k * 2, none⟩)) rfl rfl (by kernel_rfl) (by kernel_rfl) (by kernel_rfl) (fun _ _ _ h => h) (by rfl) ?_ hHeld ?_
                      · intro wz hSw
                        (try dsimp only at hSw)
                        go_simp
                      simp only [List.setIfInBounds_toArray, List.set_cons_zero, List.set_cons_succ]
                      refine takeH (i := 6) (d := 183) (v := .int .u64 (x : Int)) rfl rfl (by kernel_rfl) (by kernel_rfl) (by kernel_rfl) (fun _ _ _ h => h) (by rfl) ?_ hHeld ?_
                      · intro wz hSw
                        (try dsimp only at hSw)
                        go_simp
                      simp only [List.setIfInBounds_toArray, List.set_cons_zero, List.set_cons_succ]
                      refine takeH (i := 8) (d := 185) (v := .pointer (some ⟨w.heap.size, 8, none⟩)) rfl rfl (by kernel_rfl) (by kernel_rfl) (by kernel_rfl) (fun _ _ _ h => h) (by rfl) ?_ hHeld ?_
                      · intro wz hSw
                        (try dsimp only at hSw)
                        go_simp
                      simp only [List.setIfInBounds_toArray, List.set_cons_zero, List.set_cons_succ]
                      refine takeH (i := 9) (d := 186) (v := .slice (some ⟨bo, off, none⟩) tn tc) rfl rfl (by kernel_rfl) (by kernel_rfl) (by kernel_rfl) (fun _ _ _ h => h) (by rfl) ?_ hHeld ?_
                      · intro wz hSw
                        (try dsimp only at hSw)
                        go_simp
                      simp only [List.setIfInBounds_toArray, List.set_cons_zero, List.set_cons_succ]
                      refine takeH (i := 10) (d := 187) (v := .int .i64 (k : Int)) rfl rfl (by kernel_rfl) (by kernel_rfl) (by kernel_rfl) (fun _ _ _ h => h) (by rfl) ?_ hHeld ?_
                      · intro wz hSw
                        (try dsimp only at hSw)
                        go_simp
                      simp only [List.setIfInBounds_toArray, List.set_cons_zero, List.set_cons_succ]
                      refine takeH (i := 11) (d := 188) (v := .pointer (some ⟨bo, off + k * 2, none⟩)) rfl rfl (by kernel_rfl) (by kernel_rfl) (by kernel_rfl) (fun _ _ _ h => h) (by rfl) ?_ hHeld ?_
                      · intro wz hSw
                        (try dsimp only at hSw)
                        go_simp
                      simp only [List.setIfInBounds_toArray, List.set_cons_zero, List.set_cons_succ]
                      refine takeH (i := 12) (d := 189) (v := .pointer (some ⟨bo, off + k * 2 + 1, none⟩)) rfl rfl (by kernel_rfl) (by kernel_rfl) (by kernel_rfl) (fun _ _ _ h => h) (by rfl) ?_ hHeld ?_
                      · intro wz hSw
                        (try dsimp only at hSw)
                        go_simp
                      simp only [List.setIfInBounds_toArray, List.set_cons_zero, List.set_cons_succ]
                      refine takeH (i := 13) (d := 190) (v := .int .u64 (y : Int)) rfl rfl (by kernel_rfl) (by kernel_rfl) (by kernel_rfl) (fun _ _ _ h => h) (by rfl) ?_ hHeld ?_
                      · intro wz hSw
                        (try dsimp only at hSw)
                        go_simp
                      simp only [List.setIfInBounds_toArray, List.set_cons_zero, List.set_cons_succ]
                      refine callH (i := 7) (d := 184) (f := 79) (vals := #[.slice A1 n1 c1, .int .u64 (x : Int), .int .i64 8]) rfl rfl (by kernel_rfl) (by rfl) ?_ ?_
                      · go_simp
                      refine (num_any x 8 HOa.out.seg (by omega) (by omega) (by omega)).mono ?_
                      rintro e wb ⟨Ab, nb, cb, hnb, rfl, ho, hb⟩
                      have hlb : nb ≤ 4608 + 20 * k := by
                        rw [hnb, List.length_append, leB_len]
                        have h9 := HOa.out.len
                        rw [bts_len] at h9
                        omega
                      have HOb := Lib.hid (Own.less ho HBa.out.size)
                      have HBb := Lib.hid (nextB HBa.out (Nat.le_refl _) hb)
                      clear ho hb hnb
                      have hcell : wb.cell? ⟨w.heap.size, 8, none⟩ = some (.slice (some ⟨bo, off, none⟩) tn tc) ∧ wb.cell? ⟨bo, off + k * 2, none⟩ = some (.int .u64 (x : Int)) ∧ wb.cell? ⟨bo, off + k * 2 + 1, none⟩ = some (.int .u64 (y : Int)) := CELLS.out _ HBb.out
                      clear hHeld
                      refine ⟨_, rfl, hcell, fun hHeld => ?_⟩
                      simp only [List.setIfInBounds_toArray, List.set_cons_zero, List.set_cons_succ]
                      clear hcell
                      refine callH (i := 14) (d := 191) (f := 79) (vals := #[.slice Ab nb cb, .int .u64 (y : Int), .int .i64 8]) rfl rfl (by kernel_rfl) (by rfl) ?_ ?_
                      · go_simp
                      refine (num_any y 8 HOb.out.seg (by omega) (by omega) (by omega)).mono ?_
                      rintro e wc ⟨Ac, nc, cc, hnc, rfl, ho, hb⟩
                      have hlc : nc ≤ 4616 + 20 * k := by
                        rw [hnc, List.length_append, leB_len]
                        have h9 := HOb.out.len
                        rw [bts_len] at h9
                        omega
                      have HOc := Lib.hid (Own.less ho HBb.out.size)
                      have HBc := Lib.hid (nextB HBb.out (Nat.le_refl _) hb)
                      clear ho hb hnc
                      have hcell : wc.cell? ⟨w.heap.size, 8, none⟩ = some (.slice (some ⟨bo, off, none⟩) tn tc) ∧ wc.cell? ⟨bo, off + k * 2, none⟩ = some (.int .u64 (x : Int)) ∧ wc.cell? ⟨bo, off + k * 2 + 1, none⟩ = some (.int .u64 (y : Int)) := CELLS.out _ HBc.out
                      clear hHeld
                      refine ⟨_, rfl, hcell, fun hHeld => ?_⟩
                      simp only [List.setIfInBounds_toArray, List.set_cons_zero, List.set_cons_succ]
                      clear hcell
                      refine takeH (i := 15) (d := 3) (v := .slice Ac nc cc) rfl rfl (by kernel_rfl) (by kernel_rfl) (by kernel_rfl) (fun _ _ _ h => h) (by rfl) ?_ hHeld ?_
                      · intro wz hSw
                        (try dsimp only at hSw)
                        go_simp
                      simp only [List.setIfInBounds_toArray, List.set_cons_zero, List.set_cons_succ]
                      refine wpAnyH_done (by kernel_rfl) ?_ _
                      clear hHeld
                      go_wp2_with fail
                      go_roundw
                      case rel => exact ⟨k + 1, Ac, nc, cc, by omega, by go_num, rfl, by omega, by rw [HSN.out, ← timeB_snoc _ (x, y)]; exact HOc.out, HBc.out⟩
                      case measure => simp [intOf]; omega
                    · obtain rfl : tn = k := by omega
                      have mf : wr.cell? ⟨w.heap.size, 8, none⟩ = some (.slice tA tn tc) := (HX.out.cell 8).trans rfl
                      go_wp2_with fail
                      have HOE := Lib.hid (show Own wr wA.heap.size 5 A1 n1 c1 (bts (HD ++ cntB volB v ++ cntB grpB g ++ cntB bkB b ++ cntB n64 kl ++ cntB timeB t)) by rw [← cnt_end timeB t (HD ++ cntB volB v ++ cntB grpB g ++ cntB bkB b ++ cntB n64 kl) HLT.out]; exact HO1.out)
                      clear mf HX HO1 hlt hk
                      have hlE : n1 ≤ 4600 + 20 * tn := hl1
                      clear hl1
                      generalize wr = wtz at *
                      generalize A1 = Atz at *
                      generalize n1 = ntz at *
                      generalize c1 = ctz at *
                      have HBtz := HB1
                      clear HB1
                      have HN := Lib.hid (show NewTo w PC (.returned (.slice Atz ntz ctz)) wtz from ⟨Atz, ntz, ctz, by have h9 := HOE.out.len; rw [bts_len] at h9; rw [HPC.out]; exact h9.symm, rfl, by rw [HPC.out]; exact Own.less HOE.out (by omega), bcut HW0.out HBtz.out (by omega)⟩)
                      go_ret
                      exact HN.out
end Go.Proofs.Ytaagfmaboggbhaa.cat
