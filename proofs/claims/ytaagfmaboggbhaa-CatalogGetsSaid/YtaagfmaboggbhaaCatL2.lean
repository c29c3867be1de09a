/-
  The walks of catalog.vol, group, book and of their lists.
-/
import Derived.Test.YtaagfmaboggbhaaCatL1
namespace Go.Proofs.Ytaagfmaboggbhaa.cat
open Go.RowKit
set_option linter.unusedVariables false
open fix (rdVal rdRest rdBad rdRest_len Rd u8_any u16_any u64_any isbad_any)

set_option maxHeartbeats 3200000 in
theorem vol_any {w : World} {g B : Nat} {s : St} (h : Rd w 130 g B s.1 s.2) (hl : s.1.length ≤ 1000000) :
    Calls Try.prog 70 #[.pointer (some ⟨g, 0, none⟩)] w fun e w' => ∃ z : Vol, e = .returned (.agg #[.int .i64 z.id, .int .u64 (z.born : Int), .slice z.A z.n z.c]) ∧ OwnR w' w.heap.size 100 2 z.A z.n z.c (mkCells z.l) ∧ Vol.p z = (pvol s).1 ∧ RdTo w g B (pvol s).2 w' := by
  have hlt := h.lt
  have h2 := pn_shr 2 s
  have h8 := pn_shr 8 (pn 2 s)
  have HR0 := Lib.hid (rd_alloc h (.cells #[.int .i64 0, .int .u64 0, .slice none 0 0] 92))
  have HB0 := Lib.hid (Box.new w #[.int .i64 0, .int .u64 0, .slice none 0 0] 92)
  have HONE := Lib.hid (show pvol s = (((p16 s).1, (p64 (pn 2 s)).1, (pl psize (pn 8 (pn 2 s))).1), (pl psize (pn 8 (pn 2 s))).2) from rfl)
  rw [HONE.out]
  clear h
  go_enter Try.func70, Try.ntmps70
  go_wp2_with fail
  refine (u16_at HR0.out hl).mono ?_
  rintro e w1 ⟨rfl, hr1⟩
  have HR1 := Lib.hid hr1
  have HB1 := Lib.hid (HB0.out.grown hr1.2 (by intro e; injection e with e; omega))
  have HG1 := Lib.hid (grown_al hlt hr1.2)
  clear hr1
  go_wp2_with fail
  refine (u64_at HR1.out.1 (by omega)).mono ?_
  rintro e w2 ⟨rfl, hr2⟩
  have HR2 := Lib.hid hr2
  have HB2 := Lib.hid (HB1.out.grown hr2.2 (by intro e; injection e with e; omega))
  have HG2 := Lib.hid (grown_two HG1.out hr2.2)
  clear hr2
  go_wp2_with fail
  have hgb := HB2.out.lt
  refine (sizes_of HR2.out.1 (by omega)).mono ?_
  rintro e w3 ⟨A, n, c, L, rfl, hown, hmap, hL, hn, hr3⟩
  have HR3 := Lib.hid hr3
  have HB3 := Lib.hid (HB2.out.grown hr3.2 (by intro e; injection e with e; omega))
  have HG3 := Lib.hid (grown_two HG2.out hr3.2)
  have HO := Lib.hid hown
  have HMAP := Lib.hid (show L = (pl psize (pn 8 (pn 2 s))).1 by rw [← hmap, List.map_id])
  clear hr3 hown hmap hL
  have c0 := (HB3.out.cell 0).trans rfl
  have f0 := HB3.out.frozen 0
  have c1 := (HB3.out.cell 1).trans rfl
  have f1 := HB3.out.frozen 1
  have c2 := (HB3.out.cell 2).trans rfl
  have f2 := HB3.out.frozen 2
  have HE := Lib.hid (show RdTo w g B (pl psize (pn 8 (pn 2 s))).2 (((w3.setCell ⟨w.heap.size, 0, none⟩ (.int .i64 (p16 s).1)).setCell ⟨w.heap.size, 1, none⟩ (.int .u64 ((p64 (pn 2 s)).1 : Nat))).setCell ⟨w.heap.size, 2, none⟩ (.slice A n c)) from ⟨rd_set (rd_set (rd_set (HR3.out.1) hlt _) hlt _) hlt _, grown_set (grown_set (grown_set (HG3.out) (Nat.le_refl _) _) (Nat.le_refl _) _) (Nat.le_refl _) _⟩)
  have HOE := Lib.hid (show OwnR (((w3.setCell ⟨w.heap.size, 0, none⟩ (.int .i64 (p16 s).1)).setCell ⟨w.heap.size, 1, none⟩ (.int .u64 ((p64 (pn 2 s)).1 : Nat))).setCell ⟨w.heap.size, 2, none⟩ (.slice A n c)) w.heap.size 100 2 A n c (mkCells L) from OwnR.lessR (OwnR.setFarR (OwnR.setFarR (OwnR.setFarR (HO.out) hgb _) hgb _) hgb _) (by omega))
  go_wp2_with fail
  refine bodyPost_ret (v := .agg #[.int .i64 (p16 s).1, .int .u64 ((p64 (pn 2 s)).1 : Nat), .slice A n c]) (by simp [results, Try.results70, go_sem, c0, c1, c2]) rfl ⟨⟨(p16 s).1, (p64 (pn 2 s)).1, A, n, c, L⟩, rfl, HOE.out, ?_, HE.out⟩
  unfold Vol.p
  simp only
  rw [HMAP.out]

set_option maxRecDepth 100000 in
set_option maxHeartbeats 3200000 in
theorem vols_of {w : World} {g B : Nat} {s0 : St} (h : Rd w 130 g B s0.1 s0.2) (hl : s0.1.length ≤ 1000000) :
    Calls Try.prog 69 #[.pointer (some ⟨g, 0, none⟩), .func (.func 70) #[] #[]] w (LsTo (fun W A n c L => VolOwn W w.heap.size A n c L) Vol.p w g B (pl pvol s0)) := by
  have hlt := h.lt
  have hn0 := rd1_lt s0 h.isB
  have h1 := pn_shr 1 s0
  have HR := Lib.hid h
  have HPL := Lib.hid (show pl pvol s0 = plp pvol (rdVal 1 s0.1) (pn 1 s0) from rfl)
  rw [HPL.out]
  clear h
  go_enter Try.func69, Try.ntmps69
  go_wp2_with fail
  refine (u8_at HR.out hl).mono ?_
  rintro e w1 ⟨rfl, hr1⟩
  have HR1 := Lib.hid hr1
  clear hr1
  generalize hN0 : rdVal 1 s0.1 = N0 at *
  generalize hS0 : pn 1 s0 = S0 at *
  have HQ := Lib.hid (show plp pvol (rdVal 1 s0.1) (pn 1 s0) = plp pvol N0 S0 by rw [hN0, hS0])
  clear hN0 hS0 HPL
  have HEND := Lib.hid (show ∀ (W : World) (A : Option Addr) (n c : Nat) (L : List _) (k : Nat) (s : St), VolOwn W w.heap.size A n c L → L.length = n → n ≤ 255 → Rd W 130 g B s.1 s.2 → w.grownBy W (some g) → (k = 0 ∨ s.2 = true) → plp pvol N0 S0 = (L.map Vol.p ++ (plp pvol k s).1, (plp pvol k s).2) → LsTo (fun W A n c L => VolOwn W w.heap.size A n c L) Vol.p w g B (plp pvol N0 S0) (.returned (.slice A n c)) W from
    fun W A n c L k s h1 h2 h3 h4 h5 h6 h7 => by
      obtain ⟨e1, e2⟩ := plp_done h6 h7
      exact ⟨A, n, c, L, rfl, h1, e1, h2, h3, by rw [e2]; exact ⟨h4, h5⟩⟩)
  go_wp2_with fail
  go_loopw [5, 6] (fun ov nv wr => ∃ k : Nat, ∃ A1 n1 c1 L, ∃ s : St, nv = .int .i64 (k : Int) ∧ ov = .slice A1 n1 c1 ∧ VolOwn wr w.heap.size A1 n1 c1 L ∧ L.length = n1 ∧ n1 + k ≤ 255 ∧ Rd wr 130 g B s.1 s.2 ∧ s.1.length ≤ 1000000 ∧ w.grownBy wr (some g) ∧ plp pvol N0 S0 = (L.map Vol.p ++ (plp pvol k s).1, (plp pvol k s).2)) (fun _ nv _ => (intOf nv).toNat)
  case atStart => exact ⟨N0, none, 0, 0, [], S0, rfl, rfl, VolOwn.nil _ _, rfl, by omega, HR1.out.1, by omega, HR1.out.2, rfl⟩
  case round =>
    clear HR1 HR
    obtain ⟨k, A1, n1, c1, L, s, rfl, rfl, hown, hL, hnk, hrd, hsl, hgr, hpl⟩ := hrel
    have HO := Lib.hid hown
    have HL := Lib.hid hL
    have HR := Lib.hid hrd
    have HG := Lib.hid hgr
    have HP := Lib.hid hpl
    have hsz := hgr.size
    clear hown hL hrd hgr hpl
    rcases k with _ | j
    · have HN := Lib.hid (HEND.out wr A1 n1 c1 L 0 s HO.out HL.out (by omega) HR.out HG.out (.inl rfl) HP.out)
      go_wp2_with fail
      go_ret
      first | exact HN.out | (rw [HQ.out]; exact HN.out)
    · have t1 : decide ((0 : Int) < ((j + 1 : Nat) : Int)) = true := decide_eq_true (by omega)
      go_wp2_with fail
      refine (isbad_any HR.out).mono ?_
      rintro e w3 ⟨rfl, rfl⟩
      cases hb : s.2 with
      | true =>
        have HN := Lib.hid (HEND.out wr A1 n1 c1 L (j + 1) s HO.out HL.out (by omega) HR.out HG.out (.inr hb) HP.out)
        clear hb
        go_wp2_with fail
        go_ret
        first | exact HN.out | (rw [HQ.out]; exact HN.out)
      | false =>
        have HBF := Lib.hid hb
        clear hb
        go_wp2_with fail
        refine (vol_any HR.out hsl).mono ?_
        rintro e w3 ⟨z, rfl, hin, hzp, hr3⟩
        have HIN := Lib.hid (OwnR.lessR hin hsz)
        have HZP := Lib.hid hzp
        clear hin hzp
        have HR3 := Lib.hid hr3
        have HO3 := Lib.hid (VolOwn.kept HO.out hr3.2 hlt)
        have hz3 := hr3.2.size
        clear hr3
        go_wp2_with ((at_builtin; refine wpList_appR _ rfl (.tmp 18) (.tmp 22) elemVol rfl w.heap.size rfl (HO3.out.row.alloc (Obj.cells #[.int .i64 z.id, .int .u64 (z.born : Int), .slice z.A z.n z.c] 92)) rfl (Box.new w3 #[.int .i64 z.id, .int .u64 (z.born : Int), .slice z.A z.n z.c] 92) rfl (by intro u hu; simp at hu; rcases hu with rfl | rfl | rfl <;> rfl) (by unfold maxLen; omega) (by omega) (by simp; omega) ?_; intro A4 c4 w4 hown hg hat; have HO4 := Lib.hid hown; have HG4 := Lib.hid hg; clear hown hg hat))
        have HX := Lib.hid (show VolOwn w4 w.heap.size A4 (n1 + 1) c4 (L ++ [z]) from VolOwn.push (HO3.out.alloc (Obj.cells #[.int .i64 z.id, .int .u64 (z.born : Int), .slice z.A z.n z.c] 92)) (HIN.out.alloc (Obj.cells #[.int .i64 z.id, .int .u64 (z.born : Int), .slice z.A z.n z.c] 92)) HG4.out HO4.out)
        have LT := Lib.hid (show ∀ i, blk A1 = some i → w.heap.size ≤ i from fun i hi => (HO3.out.row.lt i hi).1)
        have HRX := Lib.hid (rd_app (rd_alloc HR3.out.1 _) HG4.out (fun i hi => by have := LT.out i hi; omega))
        have HGX := Lib.hid (grown_app (grown_two HG.out HR3.out.2) (grown_unalloc HG4.out) LT.out)
        go_roundw
        case rel => exact ⟨j, A4, n1 + 1, c4, L ++ [z], (pvol s).2, by go_num, rfl, HX.out, len_snoc HL.out _, by omega, HRX.out, Nat.le_trans (pvol_shr s) hsl, HGX.out, plp_step HBF.out HZP.out HP.out⟩
        case measure => simp [intOf]

set_option maxHeartbeats 3200000 in
theorem group_any {w : World} {g B : Nat} {s : St} (h : Rd w 130 g B s.1 s.2) (hl : s.1.length ≤ 1000000) :
    Calls Try.prog 72 #[.pointer (some ⟨g, 0, none⟩)] w fun e w' => ∃ z : Grp, e = .returned (.agg #[.int .i64 z.id, .slice z.A z.n z.c]) ∧ Own w' w.heap.size 3 z.A z.n z.c (nums z.l) ∧ Grp.p z = (pgrp s).1 ∧ RdTo w g B (pgrp s).2 w' := by
  have hlt := h.lt
  have h2 := pn_shr 2 s
  have h8 := pn_shr 8 (pn 2 s)
  have HR0 := Lib.hid (rd_alloc h (.cells #[.int .i64 0, .slice none 0 0] 94))
  have HB0 := Lib.hid (Box.new w #[.int .i64 0, .slice none 0 0] 94)
  have HONE := Lib.hid (show pgrp s = (((p16 s).1, (pl p16 (pn 2 s)).1), (pl p16 (pn 2 s)).2) from rfl)
  rw [HONE.out]
  clear h
  go_enter Try.func72, Try.ntmps72
  go_wp2_with fail
  refine (u16_at HR0.out hl).mono ?_
  rintro e w1 ⟨rfl, hr1⟩
  have HR1 := Lib.hid hr1
  have HB1 := Lib.hid (HB0.out.grown hr1.2 (by intro e; injection e with e; omega))
  have HG1 := Lib.hid (grown_al hlt hr1.2)
  clear hr1
  go_wp2_with fail
  have hgb := HB1.out.lt
  refine (ints_any HR1.out.1 (by omega)).mono ?_
  rintro e w3 ⟨A, n, c, L, rfl, hown, hmap, hL, hn, hr3⟩
  have HR3 := Lib.hid hr3
  have HB3 := Lib.hid (HB1.out.grown hr3.2 (by intro e; injection e with e; omega))
  have HG3 := Lib.hid (grown_two HG1.out hr3.2)
  have HO := Lib.hid hown
  have HMAP := Lib.hid (show L = (pl p16 (pn 2 s)).1 by rw [← hmap, List.map_id])
  clear hr3 hown hmap hL
  have c0 := (HB3.out.cell 0).trans rfl
  have f0 := HB3.out.frozen 0
  have c1 := (HB3.out.cell 1).trans rfl
  have f1 := HB3.out.frozen 1
  have HE := Lib.hid (show RdTo w g B (pl p16 (pn 2 s)).2 ((w3.setCell ⟨w.heap.size, 0, none⟩ (.int .i64 (p16 s).1)).setCell ⟨w.heap.size, 1, none⟩ (.slice A n c)) from ⟨rd_set (rd_set (HR3.out.1) hlt _) hlt _, grown_set (grown_set (HG3.out) (Nat.le_refl _) _) (Nat.le_refl _) _⟩)
  have HOE := Lib.hid (show Own ((w3.setCell ⟨w.heap.size, 0, none⟩ (.int .i64 (p16 s).1)).setCell ⟨w.heap.size, 1, none⟩ (.slice A n c)) w.heap.size 3 A n c (nums L) from Own.less (Own.setFarB (Own.setFarB (HO.out) hgb _) hgb _) (by omega))
  go_wp2_with fail
  refine bodyPost_ret (v := .agg #[.int .i64 (p16 s).1, .slice A n c]) (by simp [results, Try.results72, go_sem, c0, c1]) rfl ⟨⟨(p16 s).1, A, n, c, L⟩, rfl, HOE.out, ?_, HE.out⟩
  unfold Grp.p
  simp only
  rw [HMAP.out]

set_option maxRecDepth 100000 in
set_option maxHeartbeats 3200000 in
theorem grps_of {w : World} {g B : Nat} {s0 : St} (h : Rd w 130 g B s0.1 s0.2) (hl : s0.1.length ≤ 1000000) :
    Calls Try.prog 71 #[.pointer (some ⟨g, 0, none⟩), .func (.func 72) #[] #[]] w (LsTo (fun W A n c L => GrpOwn W w.heap.size A n c L) Grp.p w g B (pl pgrp s0)) := by
  have hlt := h.lt
  have hn0 := rd1_lt s0 h.isB
  have h1 := pn_shr 1 s0
  have HR := Lib.hid h
  have HPL := Lib.hid (show pl pgrp s0 = plp pgrp (rdVal 1 s0.1) (pn 1 s0) from rfl)
  rw [HPL.out]
  clear h
  go_enter Try.func71, Try.ntmps71
  go_wp2_with fail
  refine (u8_at HR.out hl).mono ?_
  rintro e w1 ⟨rfl, hr1⟩
  have HR1 := Lib.hid hr1
  clear hr1
  generalize hN0 : rdVal 1 s0.1 = N0 at *
  generalize hS0 : pn 1 s0 = S0 at *
  have HQ := Lib.hid (show plp pgrp (rdVal 1 s0.1) (pn 1 s0) = plp pgrp N0 S0 by rw [hN0, hS0])
  clear hN0 hS0 HPL
  have HEND := Lib.hid (show ∀ (W : World) (A : Option Addr) (n c : Nat) (L : List _) (k : Nat) (s : St), GrpOwn W w.heap.size A n c L → L.length = n → n ≤ 255 → Rd W 130 g B s.1 s.2 → w.grownBy W (some g) → (k = 0 ∨ s.2 = true) → plp pgrp N0 S0 = (L.map Grp.p ++ (plp pgrp k s).1, (plp pgrp k s).2) → LsTo (fun W A n c L => GrpOwn W w.heap.size A n c L) Grp.p w g B (plp pgrp N0 S0) (.returned (.slice A n c)) W from
    fun W A n c L k s h1 h2 h3 h4 h5 h6 h7 => by
      obtain ⟨e1, e2⟩ := plp_done h6 h7
      exact ⟨A, n, c, L, rfl, h1, e1, h2, h3, by rw [e2]; exact ⟨h4, h5⟩⟩)
  go_wp2_with fail
  go_loopw [5, 6] (fun ov nv wr => ∃ k : Nat, ∃ A1 n1 c1 L, ∃ s : St, nv = .int .i64 (k : Int) ∧ ov = .slice A1 n1 c1 ∧ GrpOwn wr w.heap.size A1 n1 c1 L ∧ L.length = n1 ∧ n1 + k ≤ 255 ∧ Rd wr 130 g B s.1 s.2 ∧ s.1.length ≤ 1000000 ∧ w.grownBy wr (some g) ∧ plp pgrp N0 S0 = (L.map Grp.p ++ (plp pgrp k s).1, (plp pgrp k s).2)) (fun _ nv _ => (intOf nv).toNat)
  case atStart => exact ⟨N0, none, 0, 0, [], S0, rfl, rfl, GrpOwn.nil _ _, rfl, by omega, HR1.out.1, by omega, HR1.out.2, rfl⟩
  case round =>
    clear HR1 HR
    obtain ⟨k, A1, n1, c1, L, s, rfl, rfl, hown, hL, hnk, hrd, hsl, hgr, hpl⟩ := hrel
    have HO := Lib.hid hown
    have HL := Lib.hid hL
    have HR := Lib.hid hrd
    have HG := Lib.hid hgr
    have HP := Lib.hid hpl
    have hsz := hgr.size
    clear hown hL hrd hgr hpl
    rcases k with _ | j
    · have HN := Lib.hid (HEND.out wr A1 n1 c1 L 0 s HO.out HL.out (by omega) HR.out HG.out (.inl rfl) HP.out)
      go_wp2_with fail
      go_ret
      first | exact HN.out | (rw [HQ.out]; exact HN.out)
    · have t1 : decide ((0 : Int) < ((j + 1 : Nat) : Int)) = true := decide_eq_true (by omega)
      go_wp2_with fail
      refine (isbad_any HR.out).mono ?_
      rintro e w3 ⟨rfl, rfl⟩
      cases hb : s.2 with
      | true =>
        have HN := Lib.hid (HEND.out wr A1 n1 c1 L (j + 1) s HO.out HL.out (by omega) HR.out HG.out (.inr hb) HP.out)
        clear hb
        go_wp2_with fail
        go_ret
        first | exact HN.out | (rw [HQ.out]; exact HN.out)
      | false =>
        have HBF := Lib.hid hb
        clear hb
        go_wp2_with fail
        refine (group_any HR.out hsl).mono ?_
        rintro e w3 ⟨z, rfl, hin, hzp, hr3⟩
        have HIN := Lib.hid (Own.less hin hsz)
        have HZP := Lib.hid hzp
        clear hin hzp
        have HR3 := Lib.hid hr3
        have HO3 := Lib.hid (GrpOwn.kept HO.out hr3.2 hlt)
        have hz3 := hr3.2.size
        clear hr3
        go_wp2_with ((at_builtin; refine wpList_appR _ rfl (.tmp 18) (.tmp 22) elemGrp rfl w.heap.size rfl (HO3.out.row.alloc (Obj.cells #[.int .i64 z.id, .slice z.A z.n z.c] 94)) rfl (Box.new w3 #[.int .i64 z.id, .slice z.A z.n z.c] 94) rfl (by intro u hu; simp at hu; rcases hu with rfl | rfl <;> rfl) (by unfold maxLen; omega) (by omega) (by simp; omega) ?_; intro A4 c4 w4 hown hg hat; have HO4 := Lib.hid hown; have HG4 := Lib.hid hg; clear hown hg hat))
        have HX := Lib.hid (show GrpOwn w4 w.heap.size A4 (n1 + 1) c4 (L ++ [z]) from GrpOwn.push (HO3.out.alloc (Obj.cells #[.int .i64 z.id, .slice z.A z.n z.c] 94)) (HIN.out.alloc (Obj.cells #[.int .i64 z.id, .slice z.A z.n z.c] 94)) HG4.out HO4.out)
        have LT := Lib.hid (show ∀ i, blk A1 = some i → w.heap.size ≤ i from fun i hi => (HO3.out.row.lt i hi).1)
        have HRX := Lib.hid (rd_app (rd_alloc HR3.out.1 _) HG4.out (fun i hi => by have := LT.out i hi; omega))
        have HGX := Lib.hid (grown_app (grown_two HG.out HR3.out.2) (grown_unalloc HG4.out) LT.out)
        go_roundw
        case rel => exact ⟨j, A4, n1 + 1, c4, L ++ [z], (pgrp s).2, by go_num, rfl, HX.out, len_snoc HL.out _, by omega, HRX.out, Nat.le_trans (pgrp_shr s) hsl, HGX.out, plp_step HBF.out HZP.out HP.out⟩
        case measure => simp [intOf]

set_option maxHeartbeats 3200000 in
theorem book_any {w : World} {g B : Nat} {s : St} (h : Rd w 130 g B s.1 s.2) (hl : s.1.length ≤ 1000000) :
    Calls Try.prog 74 #[.pointer (some ⟨g, 0, none⟩)] w fun e w' => ∃ z : Bk, e = .returned (.agg #[.int .i64 z.id, .int .u64 (z.seq : Int), .slice z.A z.n z.c]) ∧ Own w' w.heap.size 3 z.A z.n z.c (nums z.l) ∧ Bk.p z = (pbk s).1 ∧ RdTo w g B (pbk s).2 w' := by
  have hlt := h.lt
  have h2 := pn_shr 2 s
  have h8 := pn_shr 8 (pn 2 s)
  have HR0 := Lib.hid (rd_alloc h (.cells #[.int .i64 0, .int .u64 0, .slice none 0 0] 96))
  have HB0 := Lib.hid (Box.new w #[.int .i64 0, .int .u64 0, .slice none 0 0] 96)
  have HONE := Lib.hid (show pbk s = (((p16 s).1, (p64 (pn 2 s)).1, (pl p16 (pn 8 (pn 2 s))).1), (pl p16 (pn 8 (pn 2 s))).2) from rfl)
  rw [HONE.out]
  clear h
  go_enter Try.func74, Try.ntmps74
  go_wp2_with fail
  refine (u16_at HR0.out hl).mono ?_
  rintro e w1 ⟨rfl, hr1⟩
  have HR1 := Lib.hid hr1
  have HB1 := Lib.hid (HB0.out.grown hr1.2 (by intro e; injection e with e; omega))
  have HG1 := Lib.hid (grown_al hlt hr1.2)
  clear hr1
  go_wp2_with fail
  refine (u64_at HR1.out.1 (by omega)).mono ?_
  rintro e w2 ⟨rfl, hr2⟩
  have HR2 := Lib.hid hr2
  have HB2 := Lib.hid (HB1.out.grown hr2.2 (by intro e; injection e with e; omega))
  have HG2 := Lib.hid (grown_two HG1.out hr2.2)
  clear hr2
  go_wp2_with fail
  have hgb := HB2.out.lt
  refine (ints_any HR2.out.1 (by omega)).mono ?_
  rintro e w3 ⟨A, n, c, L, rfl, hown, hmap, hL, hn, hr3⟩
  have HR3 := Lib.hid hr3
  have HB3 := Lib.hid (HB2.out.grown hr3.2 (by intro e; injection e with e; omega))
  have HG3 := Lib.hid (grown_two HG2.out hr3.2)
  have HO := Lib.hid hown
  have HMAP := Lib.hid (show L = (pl p16 (pn 8 (pn 2 s))).1 by rw [← hmap, List.map_id])
  clear hr3 hown hmap hL
  have c0 := (HB3.out.cell 0).trans rfl
  have f0 := HB3.out.frozen 0
  have c1 := (HB3.out.cell 1).trans rfl
  have f1 := HB3.out.frozen 1
  have c2 := (HB3.out.cell 2).trans rfl
  have f2 := HB3.out.frozen 2
  have HE := Lib.hid (show RdTo w g B (pl p16 (pn 8 (pn 2 s))).2 (((w3.setCell ⟨w.heap.size, 0, none⟩ (.int .i64 (p16 s).1)).setCell ⟨w.heap.size, 1, none⟩ (.int .u64 ((p64 (pn 2 s)).1 : Nat))).setCell ⟨w.heap.size, 2, none⟩ (.slice A n c)) from ⟨rd_set (rd_set (rd_set (HR3.out.1) hlt _) hlt _) hlt _, grown_set (grown_set (grown_set (HG3.out) (Nat.le_refl _) _) (Nat.le_refl _) _) (Nat.le_refl _) _⟩)
  have HOE := Lib.hid (show Own (((w3.setCell ⟨w.heap.size, 0, none⟩ (.int .i64 (p16 s).1)).setCell ⟨w.heap.size, 1, none⟩ (.int .u64 ((p64 (pn 2 s)).1 : Nat))).setCell ⟨w.heap.size, 2, none⟩ (.slice A n c)) w.heap.size 3 A n c (nums L) from Own.less (Own.setFarB (Own.setFarB (Own.setFarB (HO.out) hgb _) hgb _) hgb _) (by omega))
  go_wp2_with fail
  refine bodyPost_ret (v := .agg #[.int .i64 (p16 s).1, .int .u64 ((p64 (pn 2 s)).1 : Nat), .slice A n c]) (by simp [results, Try.results74, go_sem, c0, c1, c2]) rfl ⟨⟨(p16 s).1, (p64 (pn 2 s)).1, A, n, c, L⟩, rfl, HOE.out, ?_, HE.out⟩
  unfold Bk.p
  simp only
  rw [HMAP.out]

set_option maxRecDepth 100000 in
set_option maxHeartbeats 3200000 in
theorem bks_of {w : World} {g B : Nat} {s0 : St} (h : Rd w 130 g B s0.1 s0.2) (hl : s0.1.length ≤ 1000000) :
    Calls Try.prog 73 #[.pointer (some ⟨g, 0, none⟩), .func (.func 74) #[] #[]] w (LsTo (fun W A n c L => BkOwn W w.heap.size A n c L) Bk.p w g B (pl pbk s0)) := by
  have hlt := h.lt
  have hn0 := rd1_lt s0 h.isB
  have h1 := pn_shr 1 s0
  have HR := Lib.hid h
  have HPL := Lib.hid (show pl pbk s0 = plp pbk (rdVal 1 s0.1) (pn 1 s0) from rfl)
  rw [HPL.out]
  clear h
  go_enter Try.func73, Try.ntmps73
  go_wp2_with fail
  refine (u8_at HR.out hl).mono ?_
  rintro e w1 ⟨rfl, hr1⟩
  have HR1 := Lib.hid hr1
  clear hr1
  generalize hN0 : rdVal 1 s0.1 = N0 at *
  generalize hS0 : pn 1 s0 = S0 at *
  have HQ := Lib.hid (show plp pbk (rdVal 1 s0.1) (pn 1 s0) = plp pbk N0 S0 by rw [hN0, hS0])
  clear hN0 hS0 HPL
  have HEND := Lib.hid (show ∀ (W : World) (A : Option Addr) (n c : Nat) (L : List _) (k : Nat) (s : St), BkOwn W w.heap.size A n c L → L.length = n → n ≤ 255 → Rd W 130 g B s.1 s.2 → w.grownBy W (some g) → (k = 0 ∨ s.2 = true) → plp pbk N0 S0 = (L.map Bk.p ++ (plp pbk k s).1, (plp pbk k s).2) → LsTo (fun W A n c L => BkOwn W w.heap.size A n c L) Bk.p w g B (plp pbk N0 S0) (.returned (.slice A n c)) W from
    fun W A n c L k s h1 h2 h3 h4 h5 h6 h7 => by
      obtain ⟨e1, e2⟩ := plp_done h6 h7
      exact ⟨A, n, c, L, rfl, h1, e1, h2, h3, by rw [e2]; exact ⟨h4, h5⟩⟩)
  go_wp2_with fail
  go_loopw [5, 6] (fun ov nv wr => ∃ k : Nat, ∃ A1 n1 c1 L, ∃ s : St, nv = .int .i64 (k : Int) ∧ ov = .slice A1 n1 c1 ∧ BkOwn wr w.heap.size A1 n1 c1 L ∧ L.length = n1 ∧ n1 + k ≤ 255 ∧ Rd wr 130 g B s.1 s.2 ∧ s.1.length ≤ 1000000 ∧ w.grownBy wr (some g) ∧ plp pbk N0 S0 = (L.map Bk.p ++ (plp pbk k s).1, (plp pbk k s).2)) (fun _ nv _ => (intOf nv).toNat)
  case atStart => exact ⟨N0, none, 0, 0, [], S0, rfl, rfl, BkOwn.nil _ _, rfl, by omega, HR1.out.1, by omega, HR1.out.2, rfl⟩
  case round =>
    clear HR1 HR
    obtain ⟨k, A1, n1, c1, L, s, rfl, rfl, hown, hL, hnk, hrd, hsl, hgr, hpl⟩ := hrel
    have HO := Lib.hid hown
    have HL := Lib.hid hL
    have HR := Lib.hid hrd
    have HG := Lib.hid hgr
    have HP := Lib.hid hpl
    have hsz := hgr.size
    clear hown hL hrd hgr hpl
    rcases k with _ | j
    · have HN := Lib.hid (HEND.out wr A1 n1 c1 L 0 s HO.out HL.out (by omega) HR.out HG.out (.inl rfl) HP.out)
      go_wp2_with fail
      go_ret
      first | exact HN.out | (rw [HQ.out]; exact HN.out)
    · have t1 : decide ((0 : Int) < ((j + 1 : Nat) : Int)) = true := decide_eq_true (by omega)
      go_wp2_with fail
      refine (isbad_any HR.out).mono ?_
      rintro e w3 ⟨rfl, rfl⟩
      cases hb : s.2 with
      | true =>
        have HN := Lib.hid (HEND.out wr A1 n1 c1 L (j + 1) s HO.out HL.out (by omega) HR.out HG.out (.inr hb) HP.out)
        clear hb
        go_wp2_with fail
        go_ret
        first | exact HN.out | (rw [HQ.out]; exact HN.out)
      | false =>
        have HBF := Lib.hid hb
        clear hb
        go_wp2_with fail
        refine (book_any HR.out hsl).mono ?_
        rintro e w3 ⟨z, rfl, hin, hzp, hr3⟩
        have HIN := Lib.hid (Own.less hin hsz)
        have HZP := Lib.hid hzp
        clear hin hzp
        have HR3 := Lib.hid hr3
        have HO3 := Lib.hid (BkOwn.kept HO.out hr3.2 hlt)
        have hz3 := hr3.2.size
        clear hr3
        go_wp2_with ((at_builtin; refine wpList_appR _ rfl (.tmp 18) (.tmp 22) elemBk rfl w.heap.size rfl (HO3.out.row.alloc (Obj.cells #[.int .i64 z.id, .int .u64 (z.seq : Int), .slice z.A z.n z.c] 96)) rfl (Box.new w3 #[.int .i64 z.id, .int .u64 (z.seq : Int), .slice z.A z.n z.c] 96) rfl (by intro u hu; simp at hu; rcases hu with rfl | rfl | rfl <;> rfl) (by unfold maxLen; omega) (by omega) (by simp; omega) ?_; intro A4 c4 w4 hown hg hat; have HO4 := Lib.hid hown; have HG4 := Lib.hid hg; clear hown hg hat))
        have HX := Lib.hid (show BkOwn w4 w.heap.size A4 (n1 + 1) c4 (L ++ [z]) from BkOwn.push (HO3.out.alloc (Obj.cells #[.int .i64 z.id, .int .u64 (z.seq : Int), .slice z.A z.n z.c] 96)) (HIN.out.alloc (Obj.cells #[.int .i64 z.id, .int .u64 (z.seq : Int), .slice z.A z.n z.c] 96)) HG4.out HO4.out)
        have LT := Lib.hid (show ∀ i, blk A1 = some i → w.heap.size ≤ i from fun i hi => (HO3.out.row.lt i hi).1)
        have HRX := Lib.hid (rd_app (rd_alloc HR3.out.1 _) HG4.out (fun i hi => by have := LT.out i hi; omega))
        have HGX := Lib.hid (grown_app (grown_two HG.out HR3.out.2) (grown_unalloc HG4.out) LT.out)
        go_roundw
        case rel => exact ⟨j, A4, n1 + 1, c4, L ++ [z], (pbk s).2, by go_num, rfl, HX.out, len_snoc HL.out _, by omega, HRX.out, Nat.le_trans (pbk_shr s) hsl, HGX.out, plp_step HBF.out HZP.out HP.out⟩
        case measure => simp [intOf]
end Go.Proofs.Ytaagfmaboggbhaa.cat
