/-
  The walk of catalog.Get.
-/
import Derived.Test.YtaagfmaboggbhaaCatGet0
namespace Go.Proofs.Ytaagfmaboggbhaa.cat
open Go.RowKit
set_option linter.unusedVariables false
open fix (rdVal rdRest rdBad rdRest_len Rd u8_any u16_any u64_any isbad_any endC rend_any rd_new)

set_option maxRecDepth 100000 in
set_option maxHeartbeats 12800000 in
theorem get_any {w : World} {A : Option Addr} {n c : Nat} {l : List Nat} (h : Seg w w.heap.size A n (bts l)) (hl : IsB l) (hnc : n ≤ c) (hc : c ≤ maxLen) (hn : l.length ≤ 1000000) :
    Calls Try.prog 42 #[.slice A n c] w (GetTo w l) := by
  have HS := Lib.hid (h.alloc (Nat.le_refl _) (.cells #[.int .i64 0, .int .i64 0, .int .i64 0, .int .u64 0, .slice none 0 0, .slice none 0 0, .slice none 0 0, .slice none 0 0, .slice none 0 0] 68))
  have HL := Lib.hid hl
  have HB0 := Lib.hid (Box.new w #[.int .i64 0, .int .i64 0, .int .i64 0, .int .u64 0, .slice none 0 0, .slice none 0 0, .slice none 0 0, .slice none 0 0, .slice none 0 0] 68)
  have HW0 := Lib.hid ((Below.refl w.heap.size w).alloc (Nat.le_refl _) (.cells #[.int .i64 0, .int .i64 0, .int .i64 0, .int .u64 0, .slice none 0 0, .slice none 0 0, .slice none 0 0, .slice none 0 0, .slice none 0 0] 68))
  have HZ0 := Lib.hid (show (w.alloc (.cells #[.int .i64 0, .int .i64 0, .int .i64 0, .int .u64 0, .slice none 0 0, .slice none 0 0, .slice none 0 0, .slice none 0 0, .slice none 0 0] 68)).heap.size = w.heap.size + 1 by simp)
  clear h hl
  go_enter Try.func42, Try.ntmps42
  go_wp2_with fail
  refine (rd_new HS.out HL.out hnc hc (by simp)).mono ?_
  rintro e w1 ⟨g, rfl, hrd, hge, hb⟩
  have hg0 : w.heap.size < g := by have := HZ0.out; omega
  have HR1 := Lib.hid hrd
  have HX0 := Lib.hid (HB0.out.below hb HB0.out.lt)
  have HW1 := Lib.hid (nextB HW0.out (Nat.le_refl _) hb)
  clear hrd hb hge
  go_wp2_with fail
  refine (u16_at (s := (l, false)) HR1.out (by first | exact hn | exact Nat.le_trans (pn_shr _ _) hn | exact Nat.le_trans (pn_shr _ _) (Nat.le_trans (pn_shr _ _) hn) | exact Nat.le_trans (pn_shr _ _) (Nat.le_trans (pn_shr _ _) (Nat.le_trans (pn_shr _ _) hn)))).mono ?_
  rintro e w2 ⟨rfl, hr⟩
  have HR2 := Lib.hid hr
  have HX1 := Lib.hid (HX0.out.grown hr.2 (by intro e; injection e with e; omega))
  have HW2 := Lib.hid (HW1.out.grown hr.2 HW1.out.size (fun k hk => by injection hk with hk; omega))
  clear hr
  go_wp2_with fail
  refine (u16_at (s := pn 2 (l, false)) HR2.out.1 (by first | exact hn | exact Nat.le_trans (pn_shr _ _) hn | exact Nat.le_trans (pn_shr _ _) (Nat.le_trans (pn_shr _ _) hn) | exact Nat.le_trans (pn_shr _ _) (Nat.le_trans (pn_shr _ _) (Nat.le_trans (pn_shr _ _) hn)))).mono ?_
  rintro e w3 ⟨rfl, hr⟩
  have HR3 := Lib.hid hr
  have HX2 := Lib.hid (HX1.out.grown hr.2 (by intro e; injection e with e; omega))
  have HW3 := Lib.hid (HW2.out.grown hr.2 HW2.out.size (fun k hk => by injection hk with hk; omega))
  clear hr
  go_wp2_with fail
  refine (u16_at (s := pn 2 (pn 2 (l, false))) HR3.out.1 (by first | exact hn | exact Nat.le_trans (pn_shr _ _) hn | exact Nat.le_trans (pn_shr _ _) (Nat.le_trans (pn_shr _ _) hn) | exact Nat.le_trans (pn_shr _ _) (Nat.le_trans (pn_shr _ _) (Nat.le_trans (pn_shr _ _) hn)))).mono ?_
  rintro e w4 ⟨rfl, hr⟩
  have HR4 := Lib.hid hr
  have HX3 := Lib.hid (HX2.out.grown hr.2 (by intro e; injection e with e; omega))
  have HW4 := Lib.hid (HW3.out.grown hr.2 HW3.out.size (fun k hk => by injection hk with hk; omega))
  clear hr
  go_wp2_with fail
  refine (u64_at (s := pn 2 (pn 2 (pn 2 (l, false)))) HR4.out.1 (Nat.le_trans (pn_shr _ _) (Nat.le_trans (pn_shr _ _) (Nat.le_trans (pn_shr _ _) hn)))).mono ?_
  rintro e w5 ⟨rfl, hr⟩
  have HR5 := Lib.hid hr
  have HX4 := Lib.hid (HX3.out.grown hr.2 (by intro e; injection e with e; omega))
  have HW5 := Lib.hid (HW4.out.grown hr.2 HW4.out.size (fun k hk => by injection hk with hk; omega))
  clear hr HR1 HR2 HR3 HR4 HX0 HX1 HX2 HX3 HW1 HW2 HW3 HW4 HW0 HB0 HS HZ0
  have hs0 : (sv (l, false)).1.length ≤ 1000000 := Nat.le_trans (sv_len _) hn
  have hs1 : (sg (l, false)).1.length ≤ 1000000 := Nat.le_trans (sg_len _) hs0
  have hs2 : (sb (l, false)).1.length ≤ 1000000 := Nat.le_trans (sb_len _) hs1
  have hs3 : (sk (l, false)).1.length ≤ 1000000 := Nat.le_trans (sk_len _) hs2
  have hs4 : (st (l, false)).1.length ≤ 1000000 := Nat.le_trans (st_len _) hs3
  have HI := Lib.hid (show IsB ((l, false) : St).1 from HL.out)
  have HI3 := Lib.hid (pn_isB 2 (pn_isB 2 (pn_isB 2 HI.out)))
  have HIv := Lib.hid (sg_all HI.out).1
  have HIg := Lib.hid (sb_all HI.out).1
  have HIb := Lib.hid (sk_all HI.out).1
  have HIk := Lib.hid (st_all HI.out).1
  have HIt := Lib.hid (se_all HI.out).1
  have HLv := Lib.hid (volL HI.out)
  have HLg := Lib.hid (grpL HI.out)
  have HLb := Lib.hid (bkL HI.out)
  have HS0 := Lib.hid (sm16 HI.out)
  have HS1 := Lib.hid (sm16 (pn_isB 2 HI.out))
  have HS2 := Lib.hid (sm16 (pn_isB 2 (pn_isB 2 HI.out)))
  have HS3 := Lib.hid (show U64 (p64 (pn 2 (pn 2 (pn 2 (l, false))))).1 from rd64 HI3.out)
  have HPC := Lib.hid (show pcat (l, false) = (⟨(p16 (l, false)).1, (p16 (pn 2 (l, false))).1, (p16 (pn 2 (pn 2 (l, false)))).1, (p64 (pn 2 (pn 2 (pn 2 (l, false))))).1, (pl pvol (sv (l, false))).1, (pl pgrp (sg (l, false))).1, (pl pbk (sb (l, false))).1, (pl p64 (sk (l, false))).1, (pl ptime (st (l, false))).1⟩, (pl ptime (st (l, false))).2) from rfl)
  have HE5 := Lib.hid (show (pl pvol (sv (l, false))).2 = sg (l, false) by unfold sg; rfl)
  have HE6 := Lib.hid (show (pl pgrp (sg (l, false))).2 = sb (l, false) by unfold sb; rfl)
  have HE7 := Lib.hid (show (pl pbk (sb (l, false))).2 = sk (l, false) by unfold sk; rfl)
  have HE8 := Lib.hid (show (pl p64 (sk (l, false))).2 = st (l, false) by unfold st; rfl)
  have HR5' := Lib.hid (show RdTo w4 g w.heap.size (sv (l, false)) w5 from HR5.out)
  have HGT := Lib.hid (show ∀ (e : Ending) (W : World), GetTo w l e W = (Below w.heap.size w W ∧ ((endC (pcat (l, false)).2.2 (pcat (l, false)).2.1.length ≠ 0 ∧ e = .returned (.tuple #[zeroCat.val, .int .i64 (endC (pcat (l, false)).2.2 (pcat (l, false)).2.1.length)])) ∨
    (endC (pcat (l, false)).2.2 (pcat (l, false)).2.1.length = 0 ∧ ∃ c : Cat, c.plain = (pcat (l, false)).1 ∧ CatOk W W.heap.size c ∧ c.Short ∧ ((RightC c ∧ e = .returned (.tuple #[c.val, .int .i64 0])) ∨ (¬ RightC c ∧ e = .returned (.tuple #[zeroCat.val, .int .i64 21])))))) from fun _ _ => rfl)
  generalize hGT : GetTo w l = GT at *
  clear hGT HR5
  generalize (p64 (pn 2 (pn 2 (pn 2 (l, false))))).1 = x3 at *
  generalize (p16 (pn 2 (pn 2 (l, false)))).1 = x2 at *
  generalize (p16 (pn 2 (l, false))).1 = x1 at *
  generalize (p16 (l, false)).1 = x0 at *
  generalize pcat (l, false) = R at *
  generalize sv (l, false) = s4 at *
  generalize sg (l, false) = s5 at *
  generalize sb (l, false) = s6 at *
  generalize sk (l, false) = s7 at *
  generalize st (l, false) = s8 at *
  go_wp2_with fail
  have HGS := Lib.hid (show GS w (w5.alloc (.cells #[.int .i64 x0, .int .i64 x1, .int .i64 x2, .int .u64 (x3 : Int), .slice none 0 0, .slice none 0 0, .slice none 0 0, .slice none 0 0, .slice none 0 0] 68)) g w5.heap.size #[.int .i64 x0, .int .i64 x1, .int .i64 x2, .int .u64 (x3 : Int), .slice none 0 0, .slice none 0 0, .slice none 0 0, .slice none 0 0, .slice none 0 0] s4 from ⟨rd_alloc HR5'.out.1 _, Box.new w5 #[.int .i64 x0, .int .i64 x1, .int .i64 x2, .int .u64 (x3 : Int), .slice none 0 0, .slice none 0 0, .slice none 0 0, .slice none 0 0, .slice none 0 0] 68, HX4.out.alloc _, HW5.out.alloc HW5.out.size _, hg0, HR5'.out.1.lt⟩)
  have hgk : g < w5.heap.size := HR5'.out.1.lt
  have hsz : w5.heap.size < (w5.alloc (.cells #[.int .i64 x0, .int .i64 x1, .int .i64 x2, .int .u64 (x3 : Int), .slice none 0 0, .slice none 0 0, .slice none 0 0, .slice none 0 0, .slice none 0 0] 68)).heap.size := by simp
  clear HR5' HX4 HW5
  generalize hwx : w5.alloc (.cells #[.int .i64 x0, .int .i64 x1, .int .i64 x2, .int .u64 (x3 : Int), .slice none 0 0, .slice none 0 0, .slice none 0 0, .slice none 0 0, .slice none 0 0] 68) = w5a at *
  generalize hgx : w5.heap.size = gk at *
  clear hwx hgx
  have hs0' : s4.1.length ≤ 1000000 := hs0
  refine (vols_of HGS.out.rd hs0).mono ?_
  rintro e w6 ⟨vA, vn, vc, vl, rfl, hown, hmap, hlen, h255v, hr⟩
  rw [HE5.out] at hr
  have HGN := Lib.hid (HGS.out.read hr)
  clear HGS
  have HGS := HGN
  clear HGN
  obtain ⟨bv, hbv, hown⟩ : ∃ b, gk < b ∧ VolOwn w6 b vA vn vc vl := ⟨_, hsz, hown⟩
  have HOv := Lib.hid hown
  have HMv := Lib.hid hmap
  have HLENv := Lib.hid hlen
  have hszn : gk < w6.heap.size := Nat.lt_of_lt_of_le hsz hr.2.size
  clear hr hown hmap hlen hsz
  have hsz := hszn
  clear hszn
  have k4 := (HGS.out.box.cell 4).trans rfl
  have f4 := HGS.out.box.frozen 4
  have HGN := Lib.hid (show GS w (w6.setCell ⟨gk, 4, none⟩ (.slice vA vn vc)) g gk #[.int .i64 x0, .int .i64 x1, .int .i64 x2, .int .u64 (x3 : Int), .slice vA vn vc, .slice none 0 0, .slice none 0 0, .slice none 0 0, .slice none 0 0] s5 from HGS.out.set_ 4 (.slice vA vn vc))
  clear HGS
  have HGS := HGN
  clear HGN
  have HOv' := Lib.hid (show VolOwn (w6.setCell ⟨gk, 4, none⟩ (.slice vA vn vc)) bv vA vn vc vl from VolOwn.set_ HOv.out (p := ⟨gk, 4, none⟩) (by show _ < _; omega) (.slice vA vn vc))
  clear HOv
  have HOv := HOv'
  clear HOv'
  go_wp2_with fail
  clear k4 f4
  have hszn : gk < (w6.setCell ⟨gk, 4, none⟩ (.slice vA vn vc)).heap.size := by rw [size_setCell]; exact hsz
  clear hsz
  have hsz := hszn
  clear hszn
  generalize hwx : (w6.setCell ⟨gk, 4, none⟩ (.slice vA vn vc)) = w6a at *
  clear hwx
  refine (grps_of HGS.out.rd hs1).mono ?_
  rintro e w7 ⟨gA, gn, gc, gl, rfl, hown, hmap, hlen, h255g, hr⟩
  rw [HE6.out] at hr
  have HGN := Lib.hid (HGS.out.read hr)
  clear HGS
  have HGS := HGN
  clear HGN
  have HOv' := Lib.hid (VolOwn.kept HOv.out hr.2 (by omega))
  clear HOv
  have HOv := HOv'
  clear HOv'
  obtain ⟨bg, hbg, hown⟩ : ∃ b, gk < b ∧ GrpOwn w7 b gA gn gc gl := ⟨_, hsz, hown⟩
  have HOg := Lib.hid hown
  have HMg := Lib.hid hmap
  have HLENg := Lib.hid hlen
  have hszn : gk < w7.heap.size := Nat.lt_of_lt_of_le hsz hr.2.size
  clear hr hown hmap hlen hsz
  have hsz := hszn
  clear hszn
  have k5 := (HGS.out.box.cell 5).trans rfl
  have f5 := HGS.out.box.frozen 5
  have HGN := Lib.hid (show GS w (w7.setCell ⟨gk, 5, none⟩ (.slice gA gn gc)) g gk #[.int .i64 x0, .int .i64 x1, .int .i64 x2, .int .u64 (x3 : Int), .slice vA vn vc, .slice gA gn gc, .slice none 0 0, .slice none 0 0, .slice none 0 0] s6 from HGS.out.set_ 5 (.slice gA gn gc))
  clear HGS
  have HGS := HGN
  clear HGN
  have HOv' := Lib.hid (show VolOwn (w7.setCell ⟨gk, 5, none⟩ (.slice gA gn gc)) bv vA vn vc vl from VolOwn.set_ HOv.out (p := ⟨gk, 5, none⟩) (by show _ < _; omega) (.slice gA gn gc))
  clear HOv
  have HOv := HOv'
  clear HOv'
  have HOg' := Lib.hid (show GrpOwn (w7.setCell ⟨gk, 5, none⟩ (.slice gA gn gc)) bg gA gn gc gl from GrpOwn.set_ HOg.out (p := ⟨gk, 5, none⟩) (by show _ < _; omega) (.slice gA gn gc))
  clear HOg
  have HOg := HOg'
  clear HOg'
  go_wp2_with fail
  clear k5 f5
  have hszn : gk < (w7.setCell ⟨gk, 5, none⟩ (.slice gA gn gc)).heap.size := by rw [size_setCell]; exact hsz
  clear hsz
  have hsz := hszn
  clear hszn
  generalize hwx : (w7.setCell ⟨gk, 5, none⟩ (.slice gA gn gc)) = w7a at *
  clear hwx
  refine (bks_of HGS.out.rd hs2).mono ?_
  rintro e w8 ⟨bA, bn, bc, bl, rfl, hown, hmap, hlen, h255b, hr⟩
  rw [HE7.out] at hr
  have HGN := Lib.hid (HGS.out.read hr)
  clear HGS
  have HGS := HGN
  clear HGN
  have HOv' := Lib.hid (VolOwn.kept HOv.out hr.2 (by omega))
  clear HOv
  have HOv := HOv'
  clear HOv'
  have HOg' := Lib.hid (GrpOwn.kept HOg.out hr.2 (by omega))
  clear HOg
  have HOg := HOg'
  clear HOg'
  obtain ⟨bb, hbb, hown⟩ : ∃ b, gk < b ∧ BkOwn w8 b bA bn bc bl := ⟨_, hsz, hown⟩
  have HOb := Lib.hid hown
  have HMb := Lib.hid hmap
  have HLENb := Lib.hid hlen
  have hszn : gk < w8.heap.size := Nat.lt_of_lt_of_le hsz hr.2.size
  clear hr hown hmap hlen hsz
  have hsz := hszn
  clear hszn
  have k6 := (HGS.out.box.cell 6).trans rfl
  have f6 := HGS.out.box.frozen 6
  have HGN := Lib.hid (show GS w (w8.setCell ⟨gk, 6, none⟩ (.slice bA bn bc)) g gk #[.int .i64 x0, .int .i64 x1, .int .i64 x2, .int .u64 (x3 : Int), .slice vA vn vc, .slice gA gn gc, .slice bA bn bc, .slice none 0 0, .slice none 0 0] s7 from HGS.out.set_ 6 (.slice bA bn bc))
  clear HGS
  have HGS := HGN
  clear HGN
  have HOv' := Lib.hid (show VolOwn (w8.setCell ⟨gk, 6, none⟩ (.slice bA bn bc)) bv vA vn vc vl from VolOwn.set_ HOv.out (p := ⟨gk, 6, none⟩) (by show _ < _; omega) (.slice bA bn bc))
  clear HOv
  have HOv := HOv'
  clear HOv'
  have HOg' := Lib.hid (show GrpOwn (w8.setCell ⟨gk, 6, none⟩ (.slice bA bn bc)) bg gA gn gc gl from GrpOwn.set_ HOg.out (p := ⟨gk, 6, none⟩) (by show _ < _; omega) (.slice bA bn bc))
  clear HOg
  have HOg := HOg'
  clear HOg'
  have HOb' := Lib.hid (show BkOwn (w8.setCell ⟨gk, 6, none⟩ (.slice bA bn bc)) bb bA bn bc bl from BkOwn.set_ HOb.out (p := ⟨gk, 6, none⟩) (by show _ < _; omega) (.slice bA bn bc))
  clear HOb
  have HOb := HOb'
  clear HOb'
  go_wp2_with fail
  clear k6 f6
  have hszn : gk < (w8.setCell ⟨gk, 6, none⟩ (.slice bA bn bc)).heap.size := by rw [size_setCell]; exact hsz
  clear hsz
  have hsz := hszn
  clear hszn
  generalize hwx : (w8.setCell ⟨gk, 6, none⟩ (.slice bA bn bc)) = w8a at *
  clear hwx
  refine (us_any HGS.out.rd hs3).mono ?_
  rintro e w9 ⟨kA, kn, kc, kl, rfl, hown, hmap, hlen, h255k, hr⟩
  rw [HE8.out] at hr
  have HGN := Lib.hid (HGS.out.read hr)
  clear HGS
  have HGS := HGN
  clear HGN
  have HOv' := Lib.hid (VolOwn.kept HOv.out hr.2 (by omega))
  clear HOv
  have HOv := HOv'
  clear HOv'
  have HOg' := Lib.hid (GrpOwn.kept HOg.out hr.2 (by omega))
  clear HOg
  have HOg := HOg'
  clear HOg'
  have HOb' := Lib.hid (BkOwn.kept HOb.out hr.2 (by omega))
  clear HOb
  have HOb := HOb'
  clear HOb'
  obtain ⟨bk, hbk, hown⟩ : ∃ b, gk < b ∧ UsOwn b w9 kA kn kc kl := ⟨_, hsz, hown⟩
  have HOk := Lib.hid hown
  have HMk := Lib.hid hmap
  have HLENk := Lib.hid hlen
  have hszn : gk < w9.heap.size := Nat.lt_of_lt_of_le hsz hr.2.size
  clear hr hown hmap hlen hsz
  have hsz := hszn
  clear hszn
  have k7 := (HGS.out.box.cell 7).trans rfl
  have f7 := HGS.out.box.frozen 7
  have HGN := Lib.hid (show GS w (w9.setCell ⟨gk, 7, none⟩ (.slice kA kn kc)) g gk #[.int .i64 x0, .int .i64 x1, .int .i64 x2, .int .u64 (x3 : Int), .slice vA vn vc, .slice gA gn gc, .slice bA bn bc, .slice kA kn kc, .slice none 0 0] s8 from HGS.out.set_ 7 (.slice kA kn kc))
  clear HGS
  have HGS := HGN
  clear HGN
  have HOv' := Lib.hid (show VolOwn (w9.setCell ⟨gk, 7, none⟩ (.slice kA kn kc)) bv vA vn vc vl from VolOwn.set_ HOv.out (p := ⟨gk, 7, none⟩) (by show _ < _; omega) (.slice kA kn kc))
  clear HOv
  have HOv := HOv'
  clear HOv'
  have HOg' := Lib.hid (show GrpOwn (w9.setCell ⟨gk, 7, none⟩ (.slice kA kn kc)) bg gA gn gc gl from GrpOwn.set_ HOg.out (p := ⟨gk, 7, none⟩) (by show _ < _; omega) (.slice kA kn kc))
  clear HOg
  have HOg := HOg'
  clear HOg'
  have HOb' := Lib.hid (show BkOwn (w9.setCell ⟨gk, 7, none⟩ (.slice kA kn kc)) bb bA bn bc bl from BkOwn.set_ HOb.out (p := ⟨gk, 7, none⟩) (by show _ < _; omega) (.slice kA kn kc))
  clear HOb
  have HOb := HOb'
  clear HOb'
  have HOk' := Lib.hid (show UsOwn bk (w9.setCell ⟨gk, 7, none⟩ (.slice kA kn kc)) kA kn kc kl from Own.setFarB HOk.out (p := ⟨gk, 7, none⟩) (by show _ < _; omega) (.slice kA kn kc))
  clear HOk
  have HOk := HOk'
  clear HOk'
  go_wp2_with fail
  clear k7 f7
  have hszn : gk < (w9.setCell ⟨gk, 7, none⟩ (.slice kA kn kc)).heap.size := by rw [size_setCell]; exact hsz
  clear hsz
  have hsz := hszn
  clear hszn
  generalize hwx : (w9.setCell ⟨gk, 7, none⟩ (.slice kA kn kc)) = w9a at *
  clear hwx
  refine (times_of HGS.out.rd hs4).mono ?_
  rintro e w10 ⟨tA, tn, tc, tl, rfl, hown, hmap, hlen, h255t, hr⟩
  have HGN := Lib.hid (HGS.out.read hr)
  clear HGS
  have HGS := HGN
  clear HGN
  have HOv' := Lib.hid (VolOwn.kept HOv.out hr.2 (by omega))
  clear HOv
  have HOv := HOv'
  clear HOv'
  have HOg' := Lib.hid (GrpOwn.kept HOg.out hr.2 (by omega))
  clear HOg
  have HOg := HOg'
  clear HOg'
  have HOb' := Lib.hid (BkOwn.kept HOb.out hr.2 (by omega))
  clear HOb
  have HOb := HOb'
  clear HOb'
  have HOk' := Lib.hid (Own.kept HOk.out hr.2 (ne_farO HOk.out (by omega)))
  clear HOk
  have HOk := HOk'
  clear HOk'
  obtain ⟨bt, hbt, hown⟩ : ∃ b, gk < b ∧ MksOwn b w10 tA tn tc tl := ⟨_, hsz, hown⟩
  have HOt := Lib.hid hown
  have HMt := Lib.hid hmap
  have HLENt := Lib.hid hlen
  have hszn : gk < w10.heap.size := Nat.lt_of_lt_of_le hsz hr.2.size
  clear hr hown hmap hlen hsz
  have hsz := hszn
  clear hszn
  have k8 := (HGS.out.box.cell 8).trans rfl
  have f8 := HGS.out.box.frozen 8
  have HGN := Lib.hid (show GS w (w10.setCell ⟨gk, 8, none⟩ (.slice tA tn tc)) g gk #[.int .i64 x0, .int .i64 x1, .int .i64 x2, .int .u64 (x3 : Int), .slice vA vn vc, .slice gA gn gc, .slice bA bn bc, .slice kA kn kc, .slice tA tn tc] (pl ptime s8).2 from HGS.out.set_ 8 (.slice tA tn tc))
  clear HGS
  have HGS := HGN
  clear HGN
  have HOv' := Lib.hid (show VolOwn (w10.setCell ⟨gk, 8, none⟩ (.slice tA tn tc)) bv vA vn vc vl from VolOwn.set_ HOv.out (p := ⟨gk, 8, none⟩) (by show _ < _; omega) (.slice tA tn tc))
  clear HOv
  have HOv := HOv'
  clear HOv'
  have HOg' := Lib.hid (show GrpOwn (w10.setCell ⟨gk, 8, none⟩ (.slice tA tn tc)) bg gA gn gc gl from GrpOwn.set_ HOg.out (p := ⟨gk, 8, none⟩) (by show _ < _; omega) (.slice tA tn tc))
  clear HOg
  have HOg := HOg'
  clear HOg'
  have HOb' := Lib.hid (show BkOwn (w10.setCell ⟨gk, 8, none⟩ (.slice tA tn tc)) bb bA bn bc bl from BkOwn.set_ HOb.out (p := ⟨gk, 8, none⟩) (by show _ < _; omega) (.slice tA tn tc))
  clear HOb
  have HOb := HOb'
  clear HOb'
  have HOk' := Lib.hid (show UsOwn bk (w10.setCell ⟨gk, 8, none⟩ (.slice tA tn tc)) kA kn kc kl from Own.setFarB HOk.out (p := ⟨gk, 8, none⟩) (by show _ < _; omega) (.slice tA tn tc))
  clear HOk
  have HOk := HOk'
  clear HOk'
  have HOt' := Lib.hid (show MksOwn bt (w10.setCell ⟨gk, 8, none⟩ (.slice tA tn tc)) tA tn tc tl from OwnR.setFarR HOt.out (p := ⟨gk, 8, none⟩) (by show _ < _; omega) (.slice tA tn tc))
  clear HOt
  have HOt := HOt'
  clear HOt'
  go_wp2_with fail
  clear k8 f8
  have hszn : gk < (w10.setCell ⟨gk, 8, none⟩ (.slice tA tn tc)).heap.size := by rw [size_setCell]; exact hsz
  clear hsz
  have hsz := hszn
  clear hszn
  generalize hwx : (w10.setCell ⟨gk, 8, none⟩ (.slice tA tn tc)) = w10a at *
  clear hwx
  rw [HPC.out] at HGT
  simp only at HGT
  refine (rend_any HGS.out.rd).mono ?_
  rintro e w11 ⟨rfl, rfl⟩
  generalize endC _ _ = ec at *
  have HLK := Lib.hid (show kl.map (id : Nat → Nat) = (pl p64 s7).1 from HMk.out)
  have HLT := Lib.hid (show tl.map (id : Nat × Nat → Nat × Nat) = (pl ptime s8).1 from HMt.out)
  have HPL := Lib.hid (show (⟨x0, x1, x2, x3, vA, vn, vc, vl, gA, gn, gc, gl, bA, bn, bc, bl, kA, kn, kc, kl, tA, tn, tc, tl⟩ : Cat).plain = ⟨x0, x1, x2, x3, (pl pvol s4).1, (pl pgrp s5).1, (pl pbk s6).1, (pl p64 s7).1, (pl ptime s8).1⟩ by
    unfold Cat.plain
    simp only
    rw [HMv.out, HMg.out, HMb.out, ← HLK.out, ← HLT.out, List.map_id, List.map_id])
  by_cases h0 : ec = 0
  · subst h0
    have k0 := (HGS.out.box.cell 0).trans rfl
    have k1 := (HGS.out.box.cell 1).trans rfl
    have k2 := (HGS.out.box.cell 2).trans rfl
    have k3 := (HGS.out.box.cell 3).trans rfl
    have k4 := (HGS.out.box.cell 4).trans rfl
    have k5 := (HGS.out.box.cell 5).trans rfl
    have k6 := (HGS.out.box.cell 6).trans rfl
    have k7 := (HGS.out.box.cell 7).trans rfl
    have k8 := (HGS.out.box.cell 8).trans rfl
    have HVB := Lib.hid (all_map (P := fun q => Sm q.1 ∧ U64 q.2.1 ∧ ∀ m ∈ q.2.2, MkBd m) HMv.out HIv.out)
    have HGB := Lib.hid (all_map (P := fun q => Sm q.1 ∧ ∀ x ∈ q.2, Sm x) HMg.out HIg.out)
    have HBB := Lib.hid (all_map (P := fun q => Sm q.1 ∧ U64 q.2.1 ∧ ∀ x ∈ q.2.2, Sm x) HMb.out HIb.out)
    have HKB := Lib.hid (all_map (P := U64) HMk.out HIk.out)
    have HTB := Lib.hid (all_map (P := MkBd) HMt.out HIt.out)
    have CATAT := Lib.hid (show ∀ W : World, VolOwn W bv vA vn vc vl → GrpOwn W bg gA gn gc gl → BkOwn W bb bA bn bc bl → UsOwn bk W kA kn kc kl → MksOwn bt W tA tn tc tl → CatOk W W.heap.size ⟨x0, x1, x2, x3, vA, vn, vc, vl, gA, gn, gc, gl, bA, bn, bc, bl, kA, kn, kc, kl, tA, tn, tc, tl⟩ from fun W o1 o2 o3 o4 o5 =>
      ⟨sm_i64 HS0.out, sm_i64 HS1.out, sm_i64 HS2.out, HS3.out, vol_seg o1 HVB.out, grp_seg o2 HGB.out, bk_seg o3 HBB.out, Own.seg o4, HKB.out, mk_seg o5 HLENt.out HTB.out, ⟨o1.row.cap, o1.row.max⟩, ⟨o2.row.cap, o2.row.max⟩, ⟨o3.row.cap, o3.row.max⟩, ⟨Own.cap o4, Own.max o4⟩, ⟨OwnR.cap o5, OwnR.max o5⟩⟩)
    have HSH := Lib.hid (show (⟨x0, x1, x2, x3, vA, vn, vc, vl, gA, gn, gc, gl, bA, bn, bc, bl, kA, kn, kc, kl, tA, tn, tc, tl⟩ : Cat).Short from by
      have l1 := all_map (P := fun q : Int × Nat × List (Nat × Nat) => q.2.2.length ≤ 255) HMv.out HLv.out
      have l2 := all_map (P := fun q : Int × List Int => q.2.length ≤ 255) HMg.out HLg.out
      have l3 := all_map (P := fun q : Int × Nat × List Int => q.2.2.length ≤ 255) HMb.out HLb.out
      refine ⟨by show vn ≤ 300; omega, by show gn ≤ 300; omega, by show bn ≤ 300; omega, by show kn ≤ 300; omega, by show tn ≤ 300; omega, fun z hz => ?_, fun z hz => ?_, fun z hz => ?_⟩
      · have h1 : z.l.length ≤ 255 := l1 z hz
        have h2 := mk_len (HOv.out.ins z hz)
        omega
      · have h1 : z.l.length ≤ 255 := l2 z hz
        have h2 := Own.len (HOg.out.ins z hz)
        rw [nums_len] at h2
        omega
      · have h1 : z.l.length ≤ 255 := l3 z hz
        have h2 := Own.len (HOb.out.ins z hz)
        rw [nums_len] at h2
        omega)
    go_wp2_with fail
    refine (right_any (c := ⟨x0, x1, x2, x3, vA, vn, vc, vl, gA, gn, gc, gl, bA, bn, bc, bl, kA, kn, kc, kl, tA, tn, tc, tl⟩) (CATAT.out _ HOv.out HOg.out HOb.out HOk.out HOt.out) HSH.out).mono ?_
    rintro e w12 ⟨hsay, hb⟩
    obtain ⟨bo, rfl, hsay⟩ := hsay
    have HSAY := Lib.hid hsay
    have HV12 := Lib.hid (VolOwn.below HOv.out hb)
    have HG12 := Lib.hid (GrpOwn.below HOg.out hb)
    have HB12 := Lib.hid (BkOwn.below HOb.out hb)
    have HK12 := Lib.hid (Own.below HOk.out hb)
    have HT12 := Lib.hid (OwnR.below HOt.out hb)
    have HX12 := Lib.hid (HGS.out.box.below hb HGS.out.box.lt)
    have HZ12 := Lib.hid (HGS.out.box0.below hb HGS.out.box0.lt)
    have HW12 := Lib.hid (nextB HGS.out.below (Nat.le_refl _) hb)
    have hwg : w.heap.size < gk := by omega
    clear hsay hb k0 k1 k2 k3 k4 k5 k6 k7 k8
    have r0 := (HZ12.out.cell 0).trans rfl
    have fr0 := HZ12.out.frozen 0
    have r1 := (HZ12.out.cell 1).trans rfl
    have fr1 := HZ12.out.frozen 1
    have r2 := (HZ12.out.cell 2).trans rfl
    have fr2 := HZ12.out.frozen 2
    have r3 := (HZ12.out.cell 3).trans rfl
    have fr3 := HZ12.out.frozen 3
    have r4 := (HZ12.out.cell 4).trans rfl
    have fr4 := HZ12.out.frozen 4
    have r5 := (HZ12.out.cell 5).trans rfl
    have fr5 := HZ12.out.frozen 5
    have r6 := (HZ12.out.cell 6).trans rfl
    have fr6 := HZ12.out.frozen 6
    have r7 := (HZ12.out.cell 7).trans rfl
    have fr7 := HZ12.out.frozen 7
    have r8 := (HZ12.out.cell 8).trans rfl
    have fr8 := HZ12.out.frozen 8
    cases bo with
    | false =>
      go_wp2_with fail
      have o1 := HV12.out
      have o2 := HG12.out
      have o3 := HB12.out
      have o4 := HK12.out
      have o5 := HT12.out
      replace o1 := VolOwn.set_ o1 (p := ⟨w.heap.size, 0, none⟩) (by show w.heap.size < bv; omega) (.int .i64 0)
      replace o2 := GrpOwn.set_ o2 (p := ⟨w.heap.size, 0, none⟩) (by show w.heap.size < bg; omega) (.int .i64 0)
      replace o3 := BkOwn.set_ o3 (p := ⟨w.heap.size, 0, none⟩) (by show w.heap.size < bb; omega) (.int .i64 0)
      replace o4 := Own.setFarB o4 (p := ⟨w.heap.size, 0, none⟩) (by show w.heap.size < bk; omega) (.int .i64 0)
      replace o5 := OwnR.setFarR o5 (p := ⟨w.heap.size, 0, none⟩) (by show w.heap.size < bt; omega) (.int .i64 0)
      replace o1 := VolOwn.set_ o1 (p := ⟨w.heap.size, 1, none⟩) (by show w.heap.size < bv; omega) (.int .i64 0)
      replace o2 := GrpOwn.set_ o2 (p := ⟨w.heap.size, 1, none⟩) (by show w.heap.size < bg; omega) (.int .i64 0)
      replace o3 := BkOwn.set_ o3 (p := ⟨w.heap.size, 1, none⟩) (by show w.heap.size < bb; omega) (.int .i64 0)
      replace o4 := Own.setFarB o4 (p := ⟨w.heap.size, 1, none⟩) (by show w.heap.size < bk; omega) (.int .i64 0)
      replace o5 := OwnR.setFarR o5 (p := ⟨w.heap.size, 1, none⟩) (by show w.heap.size < bt; omega) (.int .i64 0)
      replace o1 := VolOwn.set_ o1 (p := ⟨w.heap.size, 2, none⟩) (by show w.heap.size < bv; omega) (.int .i64 0)
      replace o2 := GrpOwn.set_ o2 (p := ⟨w.heap.size, 2, none⟩) (by show w.heap.size < bg; omega) (.int .i64 0)
      replace o3 := BkOwn.set_ o3 (p := ⟨w.heap.size, 2, none⟩) (by show w.heap.size < bb; omega) (.int .i64 0)
      replace o4 := Own.setFarB o4 (p := ⟨w.heap.size, 2, none⟩) (by show w.heap.size < bk; omega) (.int .i64 0)
      replace o5 := OwnR.setFarR o5 (p := ⟨w.heap.size, 2, none⟩) (by show w.heap.size < bt; omega) (.int .i64 0)
      replace o1 := VolOwn.set_ o1 (p := ⟨w.heap.size, 3, none⟩) (by show w.heap.size < bv; omega) (.int .u64 0)
      replace o2 := GrpOwn.set_ o2 (p := ⟨w.heap.size, 3, none⟩) (by show w.heap.size < bg; omega) (.int .u64 0)
      replace o3 := BkOwn.set_ o3 (p := ⟨w.heap.size, 3, none⟩) (by show w.heap.size < bb; omega) (.int .u64 0)
      replace o4 := Own.setFarB o4 (p := ⟨w.heap.size, 3, none⟩) (by show w.heap.size < bk; omega) (.int .u64 0)
      replace o5 := OwnR.setFarR o5 (p := ⟨w.heap.size, 3, none⟩) (by show w.heap.size < bt; omega) (.int .u64 0)
      replace o1 := VolOwn.set_ o1 (p := ⟨w.heap.size, 4, none⟩) (by show w.heap.size < bv; omega) (.slice none 0 0)
      replace o2 := GrpOwn.set_ o2 (p := ⟨w.heap.size, 4, none⟩) (by show w.heap.size < bg; omega) (.slice none 0 0)
      replace o3 := BkOwn.set_ o3 (p := ⟨w.heap.size, 4, none⟩) (by show w.heap.size < bb; omega) (.slice none 0 0)
      replace o4 := Own.setFarB o4 (p := ⟨w.heap.size, 4, none⟩) (by show w.heap.size < bk; omega) (.slice none 0 0)
      replace o5 := OwnR.setFarR o5 (p := ⟨w.heap.size, 4, none⟩) (by show w.heap.size < bt; omega) (.slice none 0 0)
      replace o1 := VolOwn.set_ o1 (p := ⟨w.heap.size, 5, none⟩) (by show w.heap.size < bv; omega) (.slice none 0 0)
      replace o2 := GrpOwn.set_ o2 (p := ⟨w.heap.size, 5, none⟩) (by show w.heap.size < bg; omega) (.slice none 0 0)
      replace o3 := BkOwn.set_ o3 (p := ⟨w.heap.size, 5, none⟩) (by show w.heap.size < bb; omega) (.slice none 0 0)
      replace o4 := Own.setFarB o4 (p := ⟨w.heap.size, 5, none⟩) (by show w.heap.size < bk; omega) (.slice none 0 0)
      replace o5 := OwnR.setFarR o5 (p := ⟨w.heap.size, 5, none⟩) (by show w.heap.size < bt; omega) (.slice none 0 0)
      replace o1 := VolOwn.set_ o1 (p := ⟨w.heap.size, 6, none⟩) (by show w.heap.size < bv; omega) (.slice none 0 0)
      replace o2 := GrpOwn.set_ o2 (p := ⟨w.heap.size, 6, none⟩) (by show w.heap.size < bg; omega) (.slice none 0 0)
      replace o3 := BkOwn.set_ o3 (p := ⟨w.heap.size, 6, none⟩) (by show w.heap.size < bb; omega) (.slice none 0 0)
      replace o4 := Own.setFarB o4 (p := ⟨w.heap.size, 6, none⟩) (by show w.heap.size < bk; omega) (.slice none 0 0)
      replace o5 := OwnR.setFarR o5 (p := ⟨w.heap.size, 6, none⟩) (by show w.heap.size < bt; omega) (.slice none 0 0)
      replace o1 := VolOwn.set_ o1 (p := ⟨w.heap.size, 7, none⟩) (by show w.heap.size < bv; omega) (.slice none 0 0)
      replace o2 := GrpOwn.set_ o2 (p := ⟨w.heap.size, 7, none⟩) (by show w.heap.size < bg; omega) (.slice none 0 0)
      replace o3 := BkOwn.set_ o3 (p := ⟨w.heap.size, 7, none⟩) (by show w.heap.size < bb; omega) (.slice none 0 0)
      replace o4 := Own.setFarB o4 (p := ⟨w.heap.size, 7, none⟩) (by show w.heap.size < bk; omega) (.slice none 0 0)
      replace o5 := OwnR.setFarR o5 (p := ⟨w.heap.size, 7, none⟩) (by show w.heap.size < bt; omega) (.slice none 0 0)
      replace o1 := VolOwn.set_ o1 (p := ⟨w.heap.size, 8, none⟩) (by show w.heap.size < bv; omega) (.slice none 0 0)
      replace o2 := GrpOwn.set_ o2 (p := ⟨w.heap.size, 8, none⟩) (by show w.heap.size < bg; omega) (.slice none 0 0)
      replace o3 := BkOwn.set_ o3 (p := ⟨w.heap.size, 8, none⟩) (by show w.heap.size < bb; omega) (.slice none 0 0)
      replace o4 := Own.setFarB o4 (p := ⟨w.heap.size, 8, none⟩) (by show w.heap.size < bk; omega) (.slice none 0 0)
      replace o5 := OwnR.setFarR o5 (p := ⟨w.heap.size, 8, none⟩) (by show w.heap.size < bt; omega) (.slice none 0 0)
      have HCO := Lib.hid (CATAT.out _ o1 o2 o3 o4 o5)
      clear o1 o2 o3 o4 o5
      have HEND := Lib.hid (show GT (.returned (.tuple #[zeroCat.val, .int .i64 21])) (((((((((w12.setCell ⟨w.heap.size, 0, none⟩ (.int .i64 0)).setCell ⟨w.heap.size, 1, none⟩ (.int .i64 0)).setCell ⟨w.heap.size, 2, none⟩ (.int .i64 0)).setCell ⟨w.heap.size, 3, none⟩ (.int .u64 0)).setCell ⟨w.heap.size, 4, none⟩ (.slice none 0 0)).setCell ⟨w.heap.size, 5, none⟩ (.slice none 0 0)).setCell ⟨w.heap.size, 6, none⟩ (.slice none 0 0)).setCell ⟨w.heap.size, 7, none⟩ (.slice none 0 0)).setCell ⟨w.heap.size, 8, none⟩ (.slice none 0 0)) by
        rw [HGT.out]
        refine ⟨by refine Below.setCell ?_ (show w.heap.size ≤ w.heap.size from Nat.le_refl _) _; refine Below.setCell ?_ (show w.heap.size ≤ w.heap.size from Nat.le_refl _) _; refine Below.setCell ?_ (show w.heap.size ≤ w.heap.size from Nat.le_refl _) _; refine Below.setCell ?_ (show w.heap.size ≤ w.heap.size from Nat.le_refl _) _; refine Below.setCell ?_ (show w.heap.size ≤ w.heap.size from Nat.le_refl _) _; refine Below.setCell ?_ (show w.heap.size ≤ w.heap.size from Nat.le_refl _) _; refine Below.setCell ?_ (show w.heap.size ≤ w.heap.size from Nat.le_refl _) _; refine Below.setCell ?_ (show w.heap.size ≤ w.heap.size from Nat.le_refl _) _; refine Below.setCell ?_ (show w.heap.size ≤ w.heap.size from Nat.le_refl _) _; exact HW12.out, .inr ⟨by first | rfl | trivial, ⟨x0, x1, x2, x3, vA, vn, vc, vl, gA, gn, gc, gl, bA, bn, bc, bl, kA, kn, kc, kl, tA, tn, tc, tl⟩, HPL.out, HCO.out, HSH.out, .inr ⟨(fun h => by have h9 := HSAY.out.2 h; cases h9), rfl⟩⟩⟩)
      refine bodyPost_ret (v := .tuple #[.agg #[.int .i64 0, .int .i64 0, .int .i64 0, .int .u64 0, .slice none 0 0, .slice none 0 0, .slice none 0 0, .slice none 0 0, .slice none 0 0], .int .i64 21]) (by simp [results, Try.results42, go_sem, r0, r1, r2, r3, r4, r5, r6, r7, r8]) rfl ?_
      exact HEND.out
    | true =>
      have k0 := (HX12.out.cell 0).trans rfl
      have k1 := (HX12.out.cell 1).trans rfl
      have k2 := (HX12.out.cell 2).trans rfl
      have k3 := (HX12.out.cell 3).trans rfl
      have k4 := (HX12.out.cell 4).trans rfl
      have k5 := (HX12.out.cell 5).trans rfl
      have k6 := (HX12.out.cell 6).trans rfl
      have k7 := (HX12.out.cell 7).trans rfl
      have k8 := (HX12.out.cell 8).trans rfl
      go_wp2_with fail
      have o1 := HV12.out
      have o2 := HG12.out
      have o3 := HB12.out
      have o4 := HK12.out
      have o5 := HT12.out
      replace o1 := VolOwn.set_ o1 (p := ⟨w.heap.size, 0, none⟩) (by show w.heap.size < bv; omega) (.int .i64 x0)
      replace o2 := GrpOwn.set_ o2 (p := ⟨w.heap.size, 0, none⟩) (by show w.heap.size < bg; omega) (.int .i64 x0)
      replace o3 := BkOwn.set_ o3 (p := ⟨w.heap.size, 0, none⟩) (by show w.heap.size < bb; omega) (.int .i64 x0)
      replace o4 := Own.setFarB o4 (p := ⟨w.heap.size, 0, none⟩) (by show w.heap.size < bk; omega) (.int .i64 x0)
      replace o5 := OwnR.setFarR o5 (p := ⟨w.heap.size, 0, none⟩) (by show w.heap.size < bt; omega) (.int .i64 x0)
      replace o1 := VolOwn.set_ o1 (p := ⟨w.heap.size, 1, none⟩) (by show w.heap.size < bv; omega) (.int .i64 x1)
      replace o2 := GrpOwn.set_ o2 (p := ⟨w.heap.size, 1, none⟩) (by show w.heap.size < bg; omega) (.int .i64 x1)
      replace o3 := BkOwn.set_ o3 (p := ⟨w.heap.size, 1, none⟩) (by show w.heap.size < bb; omega) (.int .i64 x1)
      replace o4 := Own.setFarB o4 (p := ⟨w.heap.size, 1, none⟩) (by show w.heap.size < bk; omega) (.int .i64 x1)
      replace o5 := OwnR.setFarR o5 (p := ⟨w.heap.size, 1, none⟩) (by show w.heap.size < bt; omega) (.int .i64 x1)
      replace o1 := VolOwn.set_ o1 (p := ⟨w.heap.size, 2, none⟩) (by show w.heap.size < bv; omega) (.int .i64 x2)
      replace o2 := GrpOwn.set_ o2 (p := ⟨w.heap.size, 2, none⟩) (by show w.heap.size < bg; omega) (.int .i64 x2)
      replace o3 := BkOwn.set_ o3 (p := ⟨w.heap.size, 2, none⟩) (by show w.heap.size < bb; omega) (.int .i64 x2)
      replace o4 := Own.setFarB o4 (p := ⟨w.heap.size, 2, none⟩) (by show w.heap.size < bk; omega) (.int .i64 x2)
      replace o5 := OwnR.setFarR o5 (p := ⟨w.heap.size, 2, none⟩) (by show w.heap.size < bt; omega) (.int .i64 x2)
      replace o1 := VolOwn.set_ o1 (p := ⟨w.heap.size, 3, none⟩) (by show w.heap.size < bv; omega) (.int .u64 (x3 : Int))
      replace o2 := GrpOwn.set_ o2 (p := ⟨w.heap.size, 3, none⟩) (by show w.heap.size < bg; omega) (.int .u64 (x3 : Int))
      replace o3 := BkOwn.set_ o3 (p := ⟨w.heap.size, 3, none⟩) (by show w.heap.size < bb; omega) (.int .u64 (x3 : Int))
      replace o4 := Own.setFarB o4 (p := ⟨w.heap.size, 3, none⟩) (by show w.heap.size < bk; omega) (.int .u64 (x3 : Int))
      replace o5 := OwnR.setFarR o5 (p := ⟨w.heap.size, 3, none⟩) (by show w.heap.size < bt; omega) (.int .u64 (x3 : Int))
      replace o1 := VolOwn.set_ o1 (p := ⟨w.heap.size, 4, none⟩) (by show w.heap.size < bv; omega) (.slice vA vn vc)
      replace o2 := GrpOwn.set_ o2 (p := ⟨w.heap.size, 4, none⟩) (by show w.heap.size < bg; omega) (.slice vA vn vc)
      replace o3 := BkOwn.set_ o3 (p := ⟨w.heap.size, 4, none⟩) (by show w.heap.size < bb; omega) (.slice vA vn vc)
      replace o4 := Own.setFarB o4 (p := ⟨w.heap.size, 4, none⟩) (by show w.heap.size < bk; omega) (.slice vA vn vc)
      replace o5 := OwnR.setFarR o5 (p := ⟨w.heap.size, 4, none⟩) (by show w.heap.size < bt; omega) (.slice vA vn vc)
      replace o1 := VolOwn.set_ o1 (p := ⟨w.heap.size, 5, none⟩) (by show w.heap.size < bv; omega) (.slice gA gn gc)
      replace o2 := GrpOwn.set_ o2 (p := ⟨w.heap.size, 5, none⟩) (by show w.heap.size < bg; omega) (.slice gA gn gc)
      replace o3 := BkOwn.set_ o3 (p := ⟨w.heap.size, 5, none⟩) (by show w.heap.size < bb; omega) (.slice gA gn gc)
      replace o4 := Own.setFarB o4 (p := ⟨w.heap.size, 5, none⟩) (by show w.heap.size < bk; omega) (.slice gA gn gc)
      replace o5 := OwnR.setFarR o5 (p := ⟨w.heap.size, 5, none⟩) (by show w.heap.size < bt; omega) (.slice gA gn gc)
      replace o1 := VolOwn.set_ o1 (p := ⟨w.heap.size, 6, none⟩) (by show w.heap.size < bv; omega) (.slice bA bn bc)
      replace o2 := GrpOwn.set_ o2 (p := ⟨w.heap.size, 6, none⟩) (by show w.heap.size < bg; omega) (.slice bA bn bc)
      replace o3 := BkOwn.set_ o3 (p := ⟨w.heap.size, 6, none⟩) (by show w.heap.size < bb; omega) (.slice bA bn bc)
      replace o4 := Own.setFarB o4 (p := ⟨w.heap.size, 6, none⟩) (by show w.heap.size < bk; omega) (.slice bA bn bc)
      replace o5 := OwnR.setFarR o5 (p := ⟨w.heap.size, 6, none⟩) (by show w.heap.size < bt; omega) (.slice bA bn bc)
      replace o1 := VolOwn.set_ o1 (p := ⟨w.heap.size, 7, none⟩) (by show w.heap.size < bv; omega) (.slice kA kn kc)
      replace o2 := GrpOwn.set_ o2 (p := ⟨w.heap.size, 7, none⟩) (by show w.heap.size < bg; omega) (.slice kA kn kc)
      replace o3 := BkOwn.set_ o3 (p := ⟨w.heap.size, 7, none⟩) (by show w.heap.size < bb; omega) (.slice kA kn kc)
      replace o4 := Own.setFarB o4 (p := ⟨w.heap.size, 7, none⟩) (by show w.heap.size < bk; omega) (.slice kA kn kc)
      replace o5 := OwnR.setFarR o5 (p := ⟨w.heap.size, 7, none⟩) (by show w.heap.size < bt; omega) (.slice kA kn kc)
      replace o1 := VolOwn.set_ o1 (p := ⟨w.heap.size, 8, none⟩) (by show w.heap.size < bv; omega) (.slice tA tn tc)
      replace o2 := GrpOwn.set_ o2 (p := ⟨w.heap.size, 8, none⟩) (by show w.heap.size < bg; omega) (.slice tA tn tc)
      replace o3 := BkOwn.set_ o3 (p := ⟨w.heap.size, 8, none⟩) (by show w.heap.size < bb; omega) (.slice tA tn tc)
      replace o4 := Own.setFarB o4 (p := ⟨w.heap.size, 8, none⟩) (by show w.heap.size < bk; omega) (.slice tA tn tc)
      replace o5 := OwnR.setFarR o5 (p := ⟨w.heap.size, 8, none⟩) (by show w.heap.size < bt; omega) (.slice tA tn tc)
      have HEND := Lib.hid (show GT (.returned (.tuple #[Cat.val ⟨x0, x1, x2, x3, vA, vn, vc, vl, gA, gn, gc, gl, bA, bn, bc, bl, kA, kn, kc, kl, tA, tn, tc, tl⟩, .int .i64 0])) (((((((((w12.setCell ⟨w.heap.size, 0, none⟩ (.int .i64 x0)).setCell ⟨w.heap.size, 1, none⟩ (.int .i64 x1)).setCell ⟨w.heap.size, 2, none⟩ (.int .i64 x2)).setCell ⟨w.heap.size, 3, none⟩ (.int .u64 (x3 : Int))).setCell ⟨w.heap.size, 4, none⟩ (.slice vA vn vc)).setCell ⟨w.heap.size, 5, none⟩ (.slice gA gn gc)).setCell ⟨w.heap.size, 6, none⟩ (.slice bA bn bc)).setCell ⟨w.heap.size, 7, none⟩ (.slice kA kn kc)).setCell ⟨w.heap.size, 8, none⟩ (.slice tA tn tc)) by
        rw [HGT.out]
        refine ⟨by refine Below.setCell ?_ (show w.heap.size ≤ w.heap.size from Nat.le_refl _) _; refine Below.setCell ?_ (show w.heap.size ≤ w.heap.size from Nat.le_refl _) _; refine Below.setCell ?_ (show w.heap.size ≤ w.heap.size from Nat.le_refl _) _; refine Below.setCell ?_ (show w.heap.size ≤ w.heap.size from Nat.le_refl _) _; refine Below.setCell ?_ (show w.heap.size ≤ w.heap.size from Nat.le_refl _) _; refine Below.setCell ?_ (show w.heap.size ≤ w.heap.size from Nat.le_refl _) _; refine Below.setCell ?_ (show w.heap.size ≤ w.heap.size from Nat.le_refl _) _; refine Below.setCell ?_ (show w.heap.size ≤ w.heap.size from Nat.le_refl _) _; refine Below.setCell ?_ (show w.heap.size ≤ w.heap.size from Nat.le_refl _) _; exact HW12.out, .inr ⟨by first | rfl | trivial, ⟨x0, x1, x2, x3, vA, vn, vc, vl, gA, gn, gc, gl, bA, bn, bc, bl, kA, kn, kc, kl, tA, tn, tc, tl⟩, HPL.out, CATAT.out _ o1 o2 o3 o4 o5, HSH.out, .inl ⟨HSAY.out.1 (by first | rfl | trivial), rfl⟩⟩⟩)
      clear o1 o2 o3 o4 o5
      refine bodyPost_ret (v := .tuple #[.agg #[.int .i64 x0, .int .i64 x1, .int .i64 x2, .int .u64 (x3 : Int), .slice vA vn vc, .slice gA gn gc, .slice bA bn bc, .slice kA kn kc, .slice tA tn tc], .int .i64 0]) (by simp [results, Try.results42, go_sem, r0, r1, r2, r3, r4, r5, r6, r7, r8]) rfl ?_
      exact HEND.out
  · have t1 : (ec == 0) = false := by simpa using h0
    have t2 : (ec != 0) = true := by simpa using h0
    have r0 := (HGS.out.box0.cell 0).trans rfl
    have fr0 := HGS.out.box0.frozen 0
    have r1 := (HGS.out.box0.cell 1).trans rfl
    have fr1 := HGS.out.box0.frozen 1
    have r2 := (HGS.out.box0.cell 2).trans rfl
    have fr2 := HGS.out.box0.frozen 2
    have r3 := (HGS.out.box0.cell 3).trans rfl
    have fr3 := HGS.out.box0.frozen 3
    have r4 := (HGS.out.box0.cell 4).trans rfl
    have fr4 := HGS.out.box0.frozen 4
    have r5 := (HGS.out.box0.cell 5).trans rfl
    have fr5 := HGS.out.box0.frozen 5
    have r6 := (HGS.out.box0.cell 6).trans rfl
    have fr6 := HGS.out.box0.frozen 6
    have r7 := (HGS.out.box0.cell 7).trans rfl
    have fr7 := HGS.out.box0.frozen 7
    have r8 := (HGS.out.box0.cell 8).trans rfl
    have fr8 := HGS.out.box0.frozen 8
    go_wp2_with fail
    have HEND := Lib.hid (show GT (.returned (.tuple #[zeroCat.val, .int .i64 ec])) (((((((((w10a.setCell ⟨w.heap.size, 0, none⟩ (.int .i64 0)).setCell ⟨w.heap.size, 1, none⟩ (.int .i64 0)).setCell ⟨w.heap.size, 2, none⟩ (.int .i64 0)).setCell ⟨w.heap.size, 3, none⟩ (.int .u64 0)).setCell ⟨w.heap.size, 4, none⟩ (.slice none 0 0)).setCell ⟨w.heap.size, 5, none⟩ (.slice none 0 0)).setCell ⟨w.heap.size, 6, none⟩ (.slice none 0 0)).setCell ⟨w.heap.size, 7, none⟩ (.slice none 0 0)).setCell ⟨w.heap.size, 8, none⟩ (.slice none 0 0)) by
      rw [HGT.out]
      refine ⟨by refine Below.setCell ?_ (show w.heap.size ≤ w.heap.size from Nat.le_refl _) _; refine Below.setCell ?_ (show w.heap.size ≤ w.heap.size from Nat.le_refl _) _; refine Below.setCell ?_ (show w.heap.size ≤ w.heap.size from Nat.le_refl _) _; refine Below.setCell ?_ (show w.heap.size ≤ w.heap.size from Nat.le_refl _) _; refine Below.setCell ?_ (show w.heap.size ≤ w.heap.size from Nat.le_refl _) _; refine Below.setCell ?_ (show w.heap.size ≤ w.heap.size from Nat.le_refl _) _; refine Below.setCell ?_ (show w.heap.size ≤ w.heap.size from Nat.le_refl _) _; refine Below.setCell ?_ (show w.heap.size ≤ w.heap.size from Nat.le_refl _) _; refine Below.setCell ?_ (show w.heap.size ≤ w.heap.size from Nat.le_refl _) _; exact HGS.out.below, .inl ⟨h0, rfl⟩⟩)
    refine bodyPost_ret (v := .tuple #[.agg #[.int .i64 0, .int .i64 0, .int .i64 0, .int .u64 0, .slice none 0 0, .slice none 0 0, .slice none 0 0, .slice none 0 0, .slice none 0 0], .int .i64 ec]) (by simp [results, Try.results42, go_sem, r0, r1, r2, r3, r4, r5, r6, r7, r8]) rfl ?_
    exact HEND.out
end Go.Proofs.Ytaagfmaboggbhaa.cat
