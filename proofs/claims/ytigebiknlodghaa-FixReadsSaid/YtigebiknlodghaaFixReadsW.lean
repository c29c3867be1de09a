/-
  The walk of the law FixReads.
-/
import Derived.Test.YtigebiknlodghaaRdNum
import Derived.Test.YtigebiknlodghaaDrawn
import Derived.Deep.QuietTactic
import Derived.BigQuiet
namespace Go.Proofs.Ytigebiknlodghaa.fix
open Go.RowKit Go.ChangeShapes Go.WideShapes Go.ChangeAt
set_option linter.unusedVariables false

theorem grown_undrew {w w' : World} {row : Option Nat} (h : w.drew.grownBy w' row) : w.grownBy w' row := ⟨h.os, h.tape, h.output, h.size, h.block⟩
theorem Seg.keepg {w w' : World} {B n g : Nat} {A : Option Addr} {xs : List Value} (h : Seg w B A n xs) (hg : w.grownBy w' (some g)) (hne : ∀ b off, A = some ⟨b, off, none⟩ → b ≠ g) (hB : B ≤ w.heap.size) : Seg w' B A n xs :=
  ⟨h.1, fun hn => by
    obtain ⟨b, off, e, hb, hc⟩ := h.2 hn
    exact ⟨b, off, e, hb, fun j u hu => (World.cell?_of_block (hg.block b (by omega) (fun x => by injection x with x; exact hne b off e x))).trans (hc j u hu)⟩⟩

set_option maxRecDepth 100000 in
set_option maxHeartbeats 20000000 in
theorem reads_walk (A A2 : Option Addr) (n c m c2 : Nat) (l : List Nat) (zs : List Int) (w : World) (h : Seg w w.heap.size A n (bts l)) (hl : IsB l) (hnc : n ≤ c) (hc : c ≤ maxLen) (hs : Seg w w.heap.size A2 m (zs.map (Value.int .i64))) (hmc : m ≤ c2) (hn : n ≤ 300) (hm : m ≤ 50) :
    Calls Try.prog 10 #[.slice A n c, .slice A2 m c2] w fun e w' => e = .returned (.bool true) ∧ Below w.heap.size w w' := by
  have hlen : l.length = n := by rw [← bts_len]; exact h.1
  have HN := Lib.hid (rd_new h hl hnc hc (Nat.le_refl _))
  have HS := Lib.hid h
  have HZ := Lib.hid hs
  have HL := Lib.hid hl
  have HLN := Lib.hid hlen
  have HC := Lib.hid hc
  have t1 : decide ((300 : Int) < (n : Int)) = false := by simp; omega
  have t2 : decide ((50 : Int) < (m : Int)) = false := by simp; omega
  clear h hs hl hlen hc
  go_enter Try.func10, Try.ntmps10
  go_wp2_with fail
  refine (HN.out).mono ?_
  rintro e w0 ⟨g1, rfl, hrd, hge1, hb0⟩
  have HGE1 := Lib.hid hge1
  have HB0 := Lib.hid (hb0.alloc hb0.size (Obj.cells #[.slice A n c, .bool false] 57))
  have HR0 := Lib.hid (hrd.below ((Below.refl w0.heap.size w0).alloc (Nat.le_refl _) (Obj.cells #[.slice A n c, .bool false] 57)))
  obtain ⟨g2, hg2⟩ : ∃ g2, g2 = w0.heap.size := ⟨_, rfl⟩
  have hne : g1 ≠ g2 := by have := hrd.lt; omega
  have HGE2 := Lib.hid (show w.heap.size ≤ g2 by rw [hg2]; exact hb0.size)
  have HQ0 := Lib.hid (show Rd (w0.alloc (Obj.cells #[.slice A n c, .bool false] 57)) 57 g2 w.heap.size l false from ⟨A, c, by rw [hg2, HLN.out]; exact Box.new w0 _ _, by rw [HLN.out]; exact (HS.out.below hb0).alloc hb0.size _, by rw [HLN.out]; exact hnc, HC.out, HL.out, HGE2.out⟩)
  clear hrd hge1 hb0
  have HG2 := Lib.hid hg2.symm
  clear hg2
  go_wp2_with fail
  rw [HG2.out]
  go_loopw [7] (fun i wr => ∃ k : Nat, ∃ l1 bad1, k ≤ m ∧ i = .int .i64 (k : Int) ∧ Rd wr 76 g1 w.heap.size l1 bad1 ∧ Rd wr 57 g2 w.heap.size l1 bad1 ∧ Below w.heap.size w wr ∧ l1.length ≤ 300) (fun i _ => m - (intOf i).toNat)
  case atStart => exact ⟨0, l, false, by omega, rfl, HR0.out, HQ0.out, HB0.out, by rw [HLN.out]; exact hn⟩
  case round =>
    obtain ⟨k, l1, bad1, hk, rfl, hR, hQ, hB, hL⟩ := hrel
    have HR := Lib.hid hR
    have HQ := Lib.hid hQ
    have HB := Lib.hid hB
    have HIB := Lib.hid hR.isB
    clear hR hQ hB HR0 HQ0 HB0 HN
    by_cases hlt : k < m
    · obtain ⟨bs, offs, u, rfl, hbs, hu, hcell0⟩ := HZ.out.at_ hlt
      have hkz : k < zs.length := by have := HZ.out.1; simp at this; omega
      rw [List.getElem?_map, List.getElem?_eq_getElem hkz] at hu
      simp only [Option.map_some, Option.some.injEq] at hu
      rw [← hu] at hcell0
      clear hu
      have hk0 : (0 : Int) ≤ (k : Int) := by omega
      have hkm : (k : Int) < (m : Int) := by omega
      have hkt : ((k : Int)).toNat = k := by omega
      generalize zs[k] = q at *
      have HCW := Lib.hid hcell0
      have hcell : wr.cell? ⟨bs, offs + k, none⟩ = some (.int .i64 q) := (HB.out.cell (p := ⟨bs, offs + k, none⟩) hbs).trans hcell0
      clear hcell0 HZ
      by_cases q1 : q = 1
      · subst q1
        go_wp2_with fail
        refine (u8_any HR.out (by omega)).mono ?_
        rintro e w1 ⟨rfl, hR1, hg1⟩
        have hQ1 := HQ.out.grown hg1 hne.symm HGE1.out
        have hB1 := (HB.out.grown hg1 HB.out.size (fun i hi => by injection hi with hi; subst hi; exact HGE1.out))
        have HR1 := Lib.hid hR1
        have HQ1 := Lib.hid hQ1
        have HB1 := Lib.hid hB1
        clear hR1 hQ1 hB1 hg1
        go_wp2_with fail
        refine (qnum_any HQ1.out 1 (by decide) (by decide) (by omega)).mono ?_
        rintro e w2 ⟨rfl, hQ2, hg2⟩
        have hR2 := HR1.out.grown hg2 hne HGE2.out
        have hB2 := (HB1.out.grown hg2 HB1.out.size (fun i hi => by injection hi with hi; subst hi; exact HGE2.out))
        clear hg2
        have hv := rdVal_lt 1 l1 HIB.out
        simp only [Nat.reduceMul, Nat.reducePow] at hv
        generalize rdVal 1 l1 = vv at *
        have HLEN : (rdRest 1 l1).length ≤ l1.length := rdRest_len _ _
        have HR2 := Lib.hid hR2
        have HQ2 := Lib.hid hQ2
        have HB2 := Lib.hid hB2
        clear hR2 hQ2 hB2
        generalize rdRest 1 l1 = l2 at *
        generalize (bad1 || rdBad 1 l1) = bad2 at *
        go_wp2_with fail
        have hL2 : l2.length ≤ 300 := Nat.le_trans HLEN hL
        obtain ⟨Aw, cw, bw, sw, w3, w4, w5, w6⟩ := HQ2.out
        have d0 : w2.cell? ⟨g2, 0, none⟩ = some (.slice Aw l2.length cw) := (bw.cell 0).trans rfl
        have d1 : w2.cell? ⟨g2, 1, none⟩ = some (.bool bad2) := (bw.cell 1).trans rfl
        clear bw sw w3 w4 w5 w6
        have hbb : (bad2 == bad2) = true := by simp
        have hbn : (bad2 != bad2) = false := by simp
        have hll : ((l2.length : Int) == (l2.length : Int)) = true := by simp
        have hln : ((l2.length : Int) != (l2.length : Int)) = false := by simp
        have hee : ((endC bad2 l2.length : Int) == (endC bad2 l2.length : Int)) = true := by simp
        have hen : ((endC bad2 l2.length : Int) != (endC bad2 l2.length : Int)) = false := by simp
        go_quiet (first
          | (go_at_call 38; exact Calls.quiet_of_same ((left_any (HR2.out.drewN _)).mono (fun e w' h => ⟨h.1, h.2.symm⟩)))
          | (go_at_call 39; exact Calls.quiet_of_same ((isbad_any (HR2.out.drewN _)).mono (fun e w' h => ⟨h.1, h.2.symm⟩)))
          | (go_at_call 40; exact Calls.quiet_of_same ((rend_any (HR2.out.drewN _)).mono (fun e w' h => ⟨h.1, h.2.symm⟩)))
          | (go_at_call 41; exact Calls.quiet_of_same ((qend_any (HQ2.out.drewN _)).mono (fun e w' h => ⟨h.1, h.2.symm⟩))))
        go_wp2_with fail
        go_roundw
        case rel => exact ⟨k + 1, l2, bad2, by omega, by go_num, HR2.out.drewN _, HQ2.out.drewN _, Bdrew HB2.out _, hL2⟩
        case measure => simp [intOf]; omega
      by_cases q2 : q = 2
      · subst q2
        go_wp2_with fail
        refine (u16_any HR.out (by omega)).mono ?_
        rintro e w1 ⟨rfl, hR1, hg1⟩
        have hQ1 := HQ.out.grown hg1 hne.symm HGE1.out
        have hB1 := (HB.out.grown hg1 HB.out.size (fun i hi => by injection hi with hi; subst hi; exact HGE1.out))
        have HR1 := Lib.hid hR1
        have HQ1 := Lib.hid hQ1
        have HB1 := Lib.hid hB1
        clear hR1 hQ1 hB1 hg1
        go_wp2_with fail
        refine (qnum_any HQ1.out 2 (by decide) (by decide) (by omega)).mono ?_
        rintro e w2 ⟨rfl, hQ2, hg2⟩
        have hR2 := HR1.out.grown hg2 hne HGE2.out
        have hB2 := (HB1.out.grown hg2 HB1.out.size (fun i hi => by injection hi with hi; subst hi; exact HGE2.out))
        clear hg2
        have hv := rdVal_lt 2 l1 HIB.out
        simp only [Nat.reduceMul, Nat.reducePow] at hv
        generalize rdVal 2 l1 = vv at *
        have HLEN : (rdRest 2 l1).length ≤ l1.length := rdRest_len _ _
        have HR2 := Lib.hid hR2
        have HQ2 := Lib.hid hQ2
        have HB2 := Lib.hid hB2
        clear hR2 hQ2 hB2
        generalize rdRest 2 l1 = l2 at *
        generalize (bad1 || rdBad 2 l1) = bad2 at *
        go_wp2_with fail
        have hL2 : l2.length ≤ 300 := Nat.le_trans HLEN hL
        obtain ⟨Aw, cw, bw, sw, w3, w4, w5, w6⟩ := HQ2.out
        have d0 : w2.cell? ⟨g2, 0, none⟩ = some (.slice Aw l2.length cw) := (bw.cell 0).trans rfl
        have d1 : w2.cell? ⟨g2, 1, none⟩ = some (.bool bad2) := (bw.cell 1).trans rfl
        clear bw sw w3 w4 w5 w6
        have hbb : (bad2 == bad2) = true := by simp
        have hbn : (bad2 != bad2) = false := by simp
        have hll : ((l2.length : Int) == (l2.length : Int)) = true := by simp
        have hln : ((l2.length : Int) != (l2.length : Int)) = false := by simp
        have hee : ((endC bad2 l2.length : Int) == (endC bad2 l2.length : Int)) = true := by simp
        have hen : ((endC bad2 l2.length : Int) != (endC bad2 l2.length : Int)) = false := by simp
        go_quiet (first
          | (go_at_call 38; exact Calls.quiet_of_same ((left_any (HR2.out.drewN _)).mono (fun e w' h => ⟨h.1, h.2.symm⟩)))
          | (go_at_call 39; exact Calls.quiet_of_same ((isbad_any (HR2.out.drewN _)).mono (fun e w' h => ⟨h.1, h.2.symm⟩)))
          | (go_at_call 40; exact Calls.quiet_of_same ((rend_any (HR2.out.drewN _)).mono (fun e w' h => ⟨h.1, h.2.symm⟩)))
          | (go_at_call 41; exact Calls.quiet_of_same ((qend_any (HQ2.out.drewN _)).mono (fun e w' h => ⟨h.1, h.2.symm⟩))))
        go_wp2_with fail
        go_roundw
        case rel => exact ⟨k + 1, l2, bad2, by omega, by go_num, HR2.out.drewN _, HQ2.out.drewN _, Bdrew HB2.out _, hL2⟩
        case measure => simp [intOf]; omega
      by_cases q4 : q = 4
      · subst q4
        go_wp2_with fail
        refine (u32_any HR.out (by omega)).mono ?_
        rintro e w1 ⟨rfl, hR1, hg1⟩
        have hQ1 := HQ.out.grown hg1 hne.symm HGE1.out
        have hB1 := (HB.out.grown hg1 HB.out.size (fun i hi => by injection hi with hi; subst hi; exact HGE1.out))
        have HR1 := Lib.hid hR1
        have HQ1 := Lib.hid hQ1
        have HB1 := Lib.hid hB1
        clear hR1 hQ1 hB1 hg1
        go_wp2_with fail
        refine (qnum_any HQ1.out 4 (by decide) (by decide) (by omega)).mono ?_
        rintro e w2 ⟨rfl, hQ2, hg2⟩
        have hR2 := HR1.out.grown hg2 hne HGE2.out
        have hB2 := (HB1.out.grown hg2 HB1.out.size (fun i hi => by injection hi with hi; subst hi; exact HGE2.out))
        clear hg2
        have hv := rdVal_lt 4 l1 HIB.out
        simp only [Nat.reduceMul, Nat.reducePow] at hv
        generalize rdVal 4 l1 = vv at *
        have HLEN : (rdRest 4 l1).length ≤ l1.length := rdRest_len _ _
        have HR2 := Lib.hid hR2
        have HQ2 := Lib.hid hQ2
        have HB2 := Lib.hid hB2
        clear hR2 hQ2 hB2
        generalize rdRest 4 l1 = l2 at *
        generalize (bad1 || rdBad 4 l1) = bad2 at *
        go_wp2_with fail
        have hL2 : l2.length ≤ 300 := Nat.le_trans HLEN hL
        obtain ⟨Aw, cw, bw, sw, w3, w4, w5, w6⟩ := HQ2.out
        have d0 : w2.cell? ⟨g2, 0, none⟩ = some (.slice Aw l2.length cw) := (bw.cell 0).trans rfl
        have d1 : w2.cell? ⟨g2, 1, none⟩ = some (.bool bad2) := (bw.cell 1).trans rfl
        clear bw sw w3 w4 w5 w6
        have hbb : (bad2 == bad2) = true := by simp
        have hbn : (bad2 != bad2) = false := by simp
        have hll : ((l2.length : Int) == (l2.length : Int)) = true := by simp
        have hln : ((l2.length : Int) != (l2.length : Int)) = false := by simp
        have hee : ((endC bad2 l2.length : Int) == (endC bad2 l2.length : Int)) = true := by simp
        have hen : ((endC bad2 l2.length : Int) != (endC bad2 l2.length : Int)) = false := by simp
        go_quiet (first
          | (go_at_call 38; exact Calls.quiet_of_same ((left_any (HR2.out.drewN _)).mono (fun e w' h => ⟨h.1, h.2.symm⟩)))
          | (go_at_call 39; exact Calls.quiet_of_same ((isbad_any (HR2.out.drewN _)).mono (fun e w' h => ⟨h.1, h.2.symm⟩)))
          | (go_at_call 40; exact Calls.quiet_of_same ((rend_any (HR2.out.drewN _)).mono (fun e w' h => ⟨h.1, h.2.symm⟩)))
          | (go_at_call 41; exact Calls.quiet_of_same ((qend_any (HQ2.out.drewN _)).mono (fun e w' h => ⟨h.1, h.2.symm⟩))))
        go_wp2_with fail
        go_roundw
        case rel => exact ⟨k + 1, l2, bad2, by omega, by go_num, HR2.out.drewN _, HQ2.out.drewN _, Bdrew HB2.out _, hL2⟩
        case measure => simp [intOf]; omega
      by_cases q8 : q = 8
      · subst q8
        go_wp2_with fail
        refine (u64_any HR.out (by omega)).mono ?_
        rintro e w1 ⟨rfl, hR1, hg1⟩
        have hQ1 := HQ.out.grown hg1 hne.symm HGE1.out
        have hB1 := (HB.out.grown hg1 HB.out.size (fun i hi => by injection hi with hi; subst hi; exact HGE1.out))
        have HR1 := Lib.hid hR1
        have HQ1 := Lib.hid hQ1
        have HB1 := Lib.hid hB1
        clear hR1 hQ1 hB1 hg1
        go_wp2_with fail
        refine (qnum_any HQ1.out 8 (by decide) (by decide) (by omega)).mono ?_
        rintro e w2 ⟨rfl, hQ2, hg2⟩
        have hR2 := HR1.out.grown hg2 hne HGE2.out
        have hB2 := (HB1.out.grown hg2 HB1.out.size (fun i hi => by injection hi with hi; subst hi; exact HGE2.out))
        clear hg2
        have hv := rdVal_lt 8 l1 HIB.out
        simp only [Nat.reduceMul, Nat.reducePow] at hv
        generalize rdVal 8 l1 = vv at *
        have HLEN : (rdRest 8 l1).length ≤ l1.length := rdRest_len _ _
        have HR2 := Lib.hid hR2
        have HQ2 := Lib.hid hQ2
        have HB2 := Lib.hid hB2
        clear hR2 hQ2 hB2
        generalize rdRest 8 l1 = l2 at *
        generalize (bad1 || rdBad 8 l1) = bad2 at *
        go_wp2_with fail
        have hL2 : l2.length ≤ 300 := Nat.le_trans HLEN hL
        obtain ⟨Aw, cw, bw, sw, w3, w4, w5, w6⟩ := HQ2.out
        have d0 : w2.cell? ⟨g2, 0, none⟩ = some (.slice Aw l2.length cw) := (bw.cell 0).trans rfl
        have d1 : w2.cell? ⟨g2, 1, none⟩ = some (.bool bad2) := (bw.cell 1).trans rfl
        clear bw sw w3 w4 w5 w6
        have hbb : (bad2 == bad2) = true := by simp
        have hbn : (bad2 != bad2) = false := by simp
        have hll : ((l2.length : Int) == (l2.length : Int)) = true := by simp
        have hln : ((l2.length : Int) != (l2.length : Int)) = false := by simp
        have hee : ((endC bad2 l2.length : Int) == (endC bad2 l2.length : Int)) = true := by simp
        have hen : ((endC bad2 l2.length : Int) != (endC bad2 l2.length : Int)) = false := by simp
        go_quiet (first
          | (go_at_call 38; exact Calls.quiet_of_same ((left_any (HR2.out.drewN _)).mono (fun e w' h => ⟨h.1, h.2.symm⟩)))
          | (go_at_call 39; exact Calls.quiet_of_same ((isbad_any (HR2.out.drewN _)).mono (fun e w' h => ⟨h.1, h.2.symm⟩)))
          | (go_at_call 40; exact Calls.quiet_of_same ((rend_any (HR2.out.drewN _)).mono (fun e w' h => ⟨h.1, h.2.symm⟩)))
          | (go_at_call 41; exact Calls.quiet_of_same ((qend_any (HQ2.out.drewN _)).mono (fun e w' h => ⟨h.1, h.2.symm⟩))))
        go_wp2_with fail
        go_roundw
        case rel => exact ⟨k + 1, l2, bad2, by omega, by go_num, HR2.out.drewN _, HQ2.out.drewN _, Bdrew HB2.out _, hL2⟩
        case measure => simp [intOf]; omega
      by_cases q3 : q = 3
      · subst q3
        go_wp2_with fail
        refine wp_region_held_drew (S := fun wx => wx.cell? ⟨bs, offs + k, none⟩ = some (.int .i64 3)) (by kernel_rfl) hcell (fun hHeld => ?_)
        refine takeH (i := 0) (d := 83) (v := .pointer (some ⟨g1, 0, none⟩)) rfl rfl (by kernel_rfl) (by kernel_rfl) (by kernel_rfl) (fun _ _ _ h => h) (by rfl) ?_ hHeld ?_
        · intro wz hSw
          (try dsimp only at hSw)
          go_simp
        simp only [List.setIfInBounds_toArray, List.set_cons_zero, List.set_cons_succ]
        refine takeH (i := 1) (d := 84) (v := .slice (some ⟨bs, offs, none⟩) m c2) rfl rfl (by kernel_rfl) (by kernel_rfl) (by kernel_rfl) (fun _ _ _ h => h) (by rfl) ?_ hHeld ?_
        · intro wz hSw
          (try dsimp only at hSw)
          go_simp
        simp only [List.setIfInBounds_toArray, List.set_cons_zero, List.set_cons_succ]
        refine takeH (i := 2) (d := 85) (v := .int .i64 (k : Int)) rfl rfl (by kernel_rfl) (by kernel_rfl) (by kernel_rfl) (fun _ _ _ h => h) (by rfl) ?_ hHeld ?_
        · intro wz hSw
          (try dsimp only at hSw)
          go_simp
        simp only [List.setIfInBounds_toArray, List.set_cons_zero, List.set_cons_succ]
        refine takeH (i := 3) (d := 86) (v := .pointer (some ⟨bs, offs + k, none⟩)) rfl rfl (by kernel_rfl) (by kernel_rfl) (by kernel_rfl) (fun _ _ _ h => h) (by rfl) ?_ hHeld ?_
        · intro wz hSw
          (try dsimp only at hSw)
          go_simp
        simp only [List.setIfInBounds_toArray, List.set_cons_zero, List.set_cons_succ]
        refine takeH (i := 4) (d := 87) (v := .int .i64 3) rfl rfl (by kernel_rfl) (by kernel_rfl) (by kernel_rfl) (fun _ _ _ h => h) (by rfl) ?_ hHeld ?_
        · intro wz hSw
          (try dsimp only at hSw)
          go_simp
        simp only [List.setIfInBounds_toArray, List.set_cons_zero, List.set_cons_succ]
        refine takeH (i := 6) (d := 89) (v := .pointer (some ⟨g2, 0, none⟩)) rfl rfl (by kernel_rfl) (by kernel_rfl) (by kernel_rfl) (fun _ _ _ h => h) (by rfl) ?_ hHeld ?_
        · intro wz hSw
          (try dsimp only at hSw)
          go_simp
        simp only [List.setIfInBounds_toArray, List.set_cons_zero, List.set_cons_succ]
        refine takeH (i := 7) (d := 90) (v := .slice (some ⟨bs, offs, none⟩) m c2) rfl rfl (by kernel_rfl) (by kernel_rfl) (by kernel_rfl) (fun _ _ _ h => h) (by rfl) ?_ hHeld ?_
        · intro wz hSw
          (try dsimp only at hSw)
          go_simp
        simp only [List.setIfInBounds_toArray, List.set_cons_zero, List.set_cons_succ]
        refine takeH (i := 8) (d := 91) (v := .int .i64 (k : Int)) rfl rfl (by kernel_rfl) (by kernel_rfl) (by kernel_rfl) (fun _ _ _ h => h) (by rfl) ?_ hHeld ?_
        · intro wz hSw
          (try dsimp only at hSw)
          go_simp
        simp only [List.setIfInBounds_toArray, List.set_cons_zero, List.set_cons_succ]
        refine takeH (i := 9) (d := 92) (v := .pointer (some ⟨bs, offs + k, none⟩)) rfl rfl (by kernel_rfl) (by kernel_rfl) (by kernel_rfl) (fun _ _ _ h => h) (by rfl) ?_ hHeld ?_
        · intro wz hSw
          (try dsimp only at hSw)
          go_simp
        simp only [List.setIfInBounds_toArray, List.set_cons_zero, List.set_cons_succ]
        refine takeH (i := 10) (d := 93) (v := .int .i64 3) rfl rfl (by kernel_rfl) (by kernel_rfl) (by kernel_rfl) (fun _ _ _ h => h) (by rfl) ?_ hHeld ?_
        · intro wz hSw
          (try dsimp only at hSw)
          go_simp
        simp only [List.setIfInBounds_toArray, List.set_cons_zero, List.set_cons_succ]
        refine callH (i := 5) (d := 88) (f := 35) (vals := #[.pointer (some ⟨g1, 0, none⟩), .int .i64 3]) rfl rfl (by kernel_rfl) (by rfl) ?_ ?_
        · go_simp
        refine (rnum_any (HR.out.drew) 3 (by decide) (by decide) (by omega)).mono ?_
        rintro e w1 ⟨rfl, hR1, hg1⟩
        replace hg1 := grown_undrew hg1
        have hQ1 := HQ.out.grown hg1 hne.symm HGE1.out
        have hB1 := (HB.out.grown hg1 HB.out.size (fun i hi => by injection hi with hi; subst hi; exact HGE1.out))
        have HR1 := Lib.hid hR1
        have HQ1 := Lib.hid hQ1
        have HB1 := Lib.hid hB1
        clear hR1 hQ1 hB1 hg1
        clear hcell
        have hcell : w1.cell? ⟨bs, offs + k, none⟩ = some (.int .i64 3) := (HB1.out.cell (p := ⟨bs, offs + k, none⟩) hbs).trans HCW.out
        clear hHeld
        refine ⟨_, rfl, hcell, fun hHeld => ?_⟩
        simp only [List.setIfInBounds_toArray, List.set_cons_zero, List.set_cons_succ]
        refine callH (i := 11) (d := 94) (f := 31) (vals := #[.pointer (some ⟨g2, 0, none⟩), .int .i64 3]) rfl rfl (by kernel_rfl) (by rfl) ?_ ?_
        · go_simp
        refine (qnum_any HQ1.out 3 (by decide) (by decide) (by omega)).mono ?_
        rintro e w2 ⟨rfl, hQ2, hg2⟩
        have hR2 := HR1.out.grown hg2 hne HGE2.out
        have hB2 := (HB1.out.grown hg2 HB1.out.size (fun i hi => by injection hi with hi; subst hi; exact HGE2.out))
        clear hg2
        clear hcell
        have HB2 := Lib.hid hB2
        have hcell : w2.cell? ⟨bs, offs + k, none⟩ = some (.int .i64 3) := (HB2.out.cell (p := ⟨bs, offs + k, none⟩) hbs).trans HCW.out
        clear HB2
        clear hHeld
        refine ⟨_, rfl, hcell, fun hHeld => ?_⟩
        simp only [List.setIfInBounds_toArray, List.set_cons_zero, List.set_cons_succ]
        refine takeH (i := 12) (d := 95) (v := .bool true) rfl rfl (by kernel_rfl) (by kernel_rfl) (by kernel_rfl) (fun _ _ _ h => h) (by rfl) ?_ hHeld ?_
        · intro wz hSw
          (try dsimp only at hSw)
          go_simp
        simp only [List.setIfInBounds_toArray, List.set_cons_zero, List.set_cons_succ]
        refine takeH (i := 13) (d := 8) (v := .bool true) rfl rfl (by kernel_rfl) (by kernel_rfl) (by kernel_rfl) (fun _ _ _ h => h) (by rfl) ?_ hHeld ?_
        · intro wz hSw
          (try dsimp only at hSw)
          go_simp
        simp only [List.setIfInBounds_toArray, List.set_cons_zero, List.set_cons_succ]
        refine wpAnyH_done (by kernel_rfl) ?_ _
        have hv := rdVal_lt 3 l1 HIB.out
        generalize rdVal 3 l1 = vv at *
        have HLEN : (rdRest 3 l1).length ≤ l1.length := rdRest_len _ _
        have HR2 := Lib.hid hR2
        have HQ2 := Lib.hid hQ2
        have HB2 := Lib.hid hB2
        clear hR2 hQ2 hB2
        generalize rdRest 3 l1 = l2 at *
        generalize (bad1 || rdBad 3 l1) = bad2 at *
        clear hHeld
        go_wp2_with fail
        have hL2 : l2.length ≤ 300 := Nat.le_trans HLEN hL
        obtain ⟨Aw, cw, bw, sw, w3, w4, w5, w6⟩ := HQ2.out
        have d0 : w2.cell? ⟨g2, 0, none⟩ = some (.slice Aw l2.length cw) := (bw.cell 0).trans rfl
        have d1 : w2.cell? ⟨g2, 1, none⟩ = some (.bool bad2) := (bw.cell 1).trans rfl
        clear bw sw w3 w4 w5 w6
        have hbb : (bad2 == bad2) = true := by simp
        have hbn : (bad2 != bad2) = false := by simp
        have hll : ((l2.length : Int) == (l2.length : Int)) = true := by simp
        have hln : ((l2.length : Int) != (l2.length : Int)) = false := by simp
        have hee : ((endC bad2 l2.length : Int) == (endC bad2 l2.length : Int)) = true := by simp
        have hen : ((endC bad2 l2.length : Int) != (endC bad2 l2.length : Int)) = false := by simp
        go_quiet (first
          | (go_at_call 38; exact Calls.quiet_of_same ((left_any (HR2.out.drewN _)).mono (fun e w' h => ⟨h.1, h.2.symm⟩)))
          | (go_at_call 39; exact Calls.quiet_of_same ((isbad_any (HR2.out.drewN _)).mono (fun e w' h => ⟨h.1, h.2.symm⟩)))
          | (go_at_call 40; exact Calls.quiet_of_same ((rend_any (HR2.out.drewN _)).mono (fun e w' h => ⟨h.1, h.2.symm⟩)))
          | (go_at_call 41; exact Calls.quiet_of_same ((qend_any (HQ2.out.drewN _)).mono (fun e w' h => ⟨h.1, h.2.symm⟩))))
        go_wp2_with fail
        go_roundw
        case rel => exact ⟨k + 1, l2, bad2, by omega, by go_num, HR2.out.drewN _, HQ2.out.drewN _, Bdrew HB2.out _, hL2⟩
        case measure => simp [intOf]; omega
      by_cases q5 : q = 5
      · subst q5
        go_wp2_with fail
        refine wp_region_held_drew (S := fun wx => wx.cell? ⟨bs, offs + k, none⟩ = some (.int .i64 5)) (by kernel_rfl) hcell (fun hHeld => ?_)
        refine takeH (i := 0) (d := 83) (v := .pointer (some ⟨g1, 0, none⟩)) rfl rfl (by kernel_rfl) (by kernel_rfl) (by kernel_rfl) (fun _ _ _ h => h) (by rfl) ?_ hHeld ?_
        · intro wz hSw
          (try dsimp only at hSw)
          go_simp
        simp only [List.setIfInBounds_toArray, List.set_cons_zero, List.set_cons_succ]
        refine takeH (i := 1) (d := 84) (v := .slice (some ⟨bs, offs, none⟩) m c2) rfl rfl (by kernel_rfl) (by kernel_rfl) (by kernel_rfl) (fun _ _ _ h => h) (by rfl) ?_ hHeld ?_
        · intro wz hSw
          (try dsimp only at hSw)
          go_simp
        simp only [List.setIfInBounds_toArray, List.set_cons_zero, List.set_cons_succ]
        refine takeH (i := 2) (d := 85) (v := .int .i64 (k : Int)) rfl rfl (by kernel_rfl) (by kernel_rfl) (by kernel_rfl) (fun _ _ _ h => h) (by rfl) ?_ hHeld ?_
        · intro wz hSw
          (try dsimp only at hSw)
          go_simp
        simp only [List.setIfInBounds_toArray, List.set_cons_zero, List.set_cons_succ]
        refine takeH (i := 3) (d := 86) (v := .pointer (some ⟨bs, offs + k, none⟩)) rfl rfl (by kernel_rfl) (by kernel_rfl) (by kernel_rfl) (fun _ _ _ h => h) (by rfl) ?_ hHeld ?_
        · intro wz hSw
          (try dsimp only at hSw)
          go_simp
        simp only [List.setIfInBounds_toArray, List.set_cons_zero, List.set_cons_succ]
        refine takeH (i := 4) (d := 87) (v := .int .i64 5) rfl rfl (by kernel_rfl) (by kernel_rfl) (by kernel_rfl) (fun _ _ _ h => h) (by rfl) ?_ hHeld ?_
        · intro wz hSw
          (try dsimp only at hSw)
          go_simp
        simp only [List.setIfInBounds_toArray, List.set_cons_zero, List.set_cons_succ]
        refine takeH (i := 6) (d := 89) (v := .pointer (some ⟨g2, 0, none⟩)) rfl rfl (by kernel_rfl) (by kernel_rfl) (by kernel_rfl) (fun _ _ _ h => h) (by rfl) ?_ hHeld ?_
        · intro wz hSw
          (try dsimp only at hSw)
          go_simp
        simp only [List.setIfInBounds_toArray, List.set_cons_zero, List.set_cons_succ]
        refine takeH (i := 7) (d := 90) (v := .slice (some ⟨bs, offs, none⟩) m c2) rfl rfl (by kernel_rfl) (by kernel_rfl) (by kernel_rfl) (fun _ _ _ h => h) (by rfl) ?_ hHeld ?_
        · intro wz hSw
          (try dsimp only at hSw)
          go_simp
        simp only [List.setIfInBounds_toArray, List.set_cons_zero, List.set_cons_succ]
        refine takeH (i := 8) (d := 91) (v := .int .i64 (k : Int)) rfl rfl (by kernel_rfl) (by kernel_rfl) (by kernel_rfl) (fun _ _ _ h => h) (by rfl) ?_ hHeld ?_
        · intro wz hSw
          (try dsimp only at hSw)
          go_simp
        simp only [List.setIfInBounds_toArray, List.set_cons_zero, List.set_cons_succ]
        refine takeH (i := 9) (d := 92) (v := .pointer (some ⟨bs, offs + k, none⟩)) rfl rfl (by kernel_rfl) (by kernel_rfl) (by kernel_rfl) (fun _ _ _ h => h) (by rfl) ?_ hHeld ?_
        · intro wz hSw
          (try dsimp only at hSw)
          go_simp
        simp only [List.setIfInBounds_toArray, List.set_cons_zero, List.set_cons_succ]
        refine takeH (i := 10) (d := 93) (v := .int .i64 5) rfl rfl (by kernel_rfl) (by kernel_rfl) (by kernel_rfl) (fun _ _ _ h => h) (by rfl) ?_ hHeld ?_
        · intro wz hSw
          (try dsimp only at hSw)
          go_simp
        simp only [List.setIfInBounds_toArray, List.set_cons_zero, List.set_cons_succ]
        refine callH (i := 5) (d := 88) (f := 35) (vals := #[.pointer (some ⟨g1, 0, none⟩), .int .i64 5]) rfl rfl (by kernel_rfl) (by rfl) ?_ ?_
        · go_simp
        refine (rnum_any (HR.out.drew) 5 (by decide) (by decide) (by omega)).mono ?_
        rintro e w1 ⟨rfl, hR1, hg1⟩
        replace hg1 := grown_undrew hg1
        have hQ1 := HQ.out.grown hg1 hne.symm HGE1.out
        have hB1 := (HB.out.grown hg1 HB.out.size (fun i hi => by injection hi with hi; subst hi; exact HGE1.out))
        have HR1 := Lib.hid hR1
        have HQ1 := Lib.hid hQ1
        have HB1 := Lib.hid hB1
        clear hR1 hQ1 hB1 hg1
        clear hcell
        have hcell : w1.cell? ⟨bs, offs + k, none⟩ = some (.int .i64 5) := (HB1.out.cell (p := ⟨bs, offs + k, none⟩) hbs).trans HCW.out
        clear hHeld
        refine ⟨_, rfl, hcell, fun hHeld => ?_⟩
        simp only [List.setIfInBounds_toArray, List.set_cons_zero, List.set_cons_succ]
        refine callH (i := 11) (d := 94) (f := 31) (vals := #[.pointer (some ⟨g2, 0, none⟩), .int .i64 5]) rfl rfl (by kernel_rfl) (by rfl) ?_ ?_
        · go_simp
        refine (qnum_any HQ1.out 5 (by decide) (by decide) (by omega)).mono ?_
        rintro e w2 ⟨rfl, hQ2, hg2⟩
        have hR2 := HR1.out.grown hg2 hne HGE2.out
        have hB2 := (HB1.out.grown hg2 HB1.out.size (fun i hi => by injection hi with hi; subst hi; exact HGE2.out))
        clear hg2
        clear hcell
        have HB2 := Lib.hid hB2
        have hcell : w2.cell? ⟨bs, offs + k, none⟩ = some (.int .i64 5) := (HB2.out.cell (p := ⟨bs, offs + k, none⟩) hbs).trans HCW.out
        clear HB2
        clear hHeld
        refine ⟨_, rfl, hcell, fun hHeld => ?_⟩
        simp only [List.setIfInBounds_toArray, List.set_cons_zero, List.set_cons_succ]
        refine takeH (i := 12) (d := 95) (v := .bool true) rfl rfl (by kernel_rfl) (by kernel_rfl) (by kernel_rfl) (fun _ _ _ h => h) (by rfl) ?_ hHeld ?_
        · intro wz hSw
          (try dsimp only at hSw)
          go_simp
        simp only [List.setIfInBounds_toArray, List.set_cons_zero, List.set_cons_succ]
        refine takeH (i := 13) (d := 8) (v := .bool true) rfl rfl (by kernel_rfl) (by kernel_rfl) (by kernel_rfl) (fun _ _ _ h => h) (by rfl) ?_ hHeld ?_
        · intro wz hSw
          (try dsimp only at hSw)
          go_simp
        simp only [List.setIfInBounds_toArray, List.set_cons_zero, List.set_cons_succ]
        refine wpAnyH_done (by kernel_rfl) ?_ _
        have hv := rdVal_lt 5 l1 HIB.out
        generalize rdVal 5 l1 = vv at *
        have HLEN : (rdRest 5 l1).length ≤ l1.length := rdRest_len _ _
        have HR2 := Lib.hid hR2
        have HQ2 := Lib.hid hQ2
        have HB2 := Lib.hid hB2
        clear hR2 hQ2 hB2
        generalize rdRest 5 l1 = l2 at *
        generalize (bad1 || rdBad 5 l1) = bad2 at *
        clear hHeld
        go_wp2_with fail
        have hL2 : l2.length ≤ 300 := Nat.le_trans HLEN hL
        obtain ⟨Aw, cw, bw, sw, w3, w4, w5, w6⟩ := HQ2.out
        have d0 : w2.cell? ⟨g2, 0, none⟩ = some (.slice Aw l2.length cw) := (bw.cell 0).trans rfl
        have d1 : w2.cell? ⟨g2, 1, none⟩ = some (.bool bad2) := (bw.cell 1).trans rfl
        clear bw sw w3 w4 w5 w6
        have hbb : (bad2 == bad2) = true := by simp
        have hbn : (bad2 != bad2) = false := by simp
        have hll : ((l2.length : Int) == (l2.length : Int)) = true := by simp
        have hln : ((l2.length : Int) != (l2.length : Int)) = false := by simp
        have hee : ((endC bad2 l2.length : Int) == (endC bad2 l2.length : Int)) = true := by simp
        have hen : ((endC bad2 l2.length : Int) != (endC bad2 l2.length : Int)) = false := by simp
        go_quiet (first
          | (go_at_call 38; exact Calls.quiet_of_same ((left_any (HR2.out.drewN _)).mono (fun e w' h => ⟨h.1, h.2.symm⟩)))
          | (go_at_call 39; exact Calls.quiet_of_same ((isbad_any (HR2.out.drewN _)).mono (fun e w' h => ⟨h.1, h.2.symm⟩)))
          | (go_at_call 40; exact Calls.quiet_of_same ((rend_any (HR2.out.drewN _)).mono (fun e w' h => ⟨h.1, h.2.symm⟩)))
          | (go_at_call 41; exact Calls.quiet_of_same ((qend_any (HQ2.out.drewN _)).mono (fun e w' h => ⟨h.1, h.2.symm⟩))))
        go_wp2_with fail
        go_roundw
        case rel => exact ⟨k + 1, l2, bad2, by omega, by go_num, HR2.out.drewN _, HQ2.out.drewN _, Bdrew HB2.out _, hL2⟩
        case measure => simp [intOf]; omega
      by_cases q6 : q = 6
      · subst q6
        go_wp2_with fail
        refine wp_region_held_drew (S := fun wx => wx.cell? ⟨bs, offs + k, none⟩ = some (.int .i64 6)) (by kernel_rfl) hcell (fun hHeld => ?_)
        refine takeH (i := 0) (d := 83) (v := .pointer (some ⟨g1, 0, none⟩)) rfl rfl (by kernel_rfl) (by kernel_rfl) (by kernel_rfl) (fun _ _ _ h => h) (by rfl) ?_ hHeld ?_
        · intro wz hSw
          (try dsimp only at hSw)
          go_simp
        simp only [List.setIfInBounds_toArray, List.set_cons_zero, List.set_cons_succ]
        refine takeH (i := 1) (d := 84) (v := .slice (some ⟨bs, offs, none⟩) m c2) rfl rfl (by kernel_rfl) (by kernel_rfl) (by kernel_rfl) (fun _ _ _ h => h) (by rfl) ?_ hHeld ?_
        · intro wz hSw
          (try dsimp only at hSw)
          go_simp
        simp only [List.setIfInBounds_toArray, List.set_cons_zero, List.set_cons_succ]
        refine takeH (i := 2) (d := 85) (v := .int .i64 (k : Int)) rfl rfl (by kernel_rfl) (by kernel_rfl) (by kernel_rfl) (fun _ _ _ h => h) (by rfl) ?_ hHeld ?_
        · intro wz hSw
          (try dsimp only at hSw)
          go_simp
        simp only [List.setIfInBounds_toArray, List.set_cons_zero, List.set_cons_succ]
        refine takeH (i := 3) (d := 86) (v := .pointer (some ⟨bs, offs + k, none⟩)) rfl rfl (by kernel_rfl) (by kernel_rfl) (by kernel_rfl) (fun _ _ _ h => h) (by rfl) ?_ hHeld ?_
        · intro wz hSw
          (try dsimp only at hSw)
          go_simp
        simp only [List.setIfInBounds_toArray, List.set_cons_zero, List.set_cons_succ]
        refine takeH (i := 4) (d := 87) (v := .int .i64 6) rfl rfl (by kernel_rfl) (by kernel_rfl) (by kernel_rfl) (fun _ _ _ h => h) (by rfl) ?_ hHeld ?_
        · intro wz hSw
          (try dsimp only at hSw)
          go_simp
        simp only [List.setIfInBounds_toArray, List.set_cons_zero, List.set_cons_succ]
        refine takeH (i := 6) (d := 89) (v := .pointer (some ⟨g2, 0, none⟩)) rfl rfl (by kernel_rfl) (by kernel_rfl) (by kernel_rfl) (fun _ _ _ h => h) (by rfl) ?_ hHeld ?_
        · intro wz hSw
          (try dsimp only at hSw)
          go_simp
        simp only [List.setIfInBounds_toArray, List.set_cons_zero, List.set_cons_succ]
        refine takeH (i := 7) (d := 90) (v := .slice (some ⟨bs, offs, none⟩) m c2) rfl rfl (by kernel_rfl) (by kernel_rfl) (by kernel_rfl) (fun _ _ _ h => h) (by rfl) ?_ hHeld ?_
        · intro wz hSw
          (try dsimp only at hSw)
          go_simp
        simp only [List.setIfInBounds_toArray, List.set_cons_zero, List.set_cons_succ]
        refine takeH (i := 8) (d := 91) (v := .int .i64 (k : Int)) rfl rfl (by kernel_rfl) (by kernel_rfl) (by kernel_rfl) (fun _ _ _ h => h) (by rfl) ?_ hHeld ?_
        · intro wz hSw
          (try dsimp only at hSw)
          go_simp
        simp only [List.setIfInBounds_toArray, List.set_cons_zero, List.set_cons_succ]
        refine takeH (i := 9) (d := 92) (v := .pointer (some ⟨bs, offs + k, none⟩)) rfl rfl (by kernel_rfl) (by kernel_rfl) (by kernel_rfl) (fun _ _ _ h => h) (by rfl) ?_ hHeld ?_
        · intro wz hSw
          (try dsimp only at hSw)
          go_simp
        simp only [List.setIfInBounds_toArray, List.set_cons_zero, List.set_cons_succ]
        refine takeH (i := 10) (d := 93) (v := .int .i64 6) rfl rfl (by kernel_rfl) (by kernel_rfl) (by kernel_rfl) (fun _ _ _ h => h) (by rfl) ?_ hHeld ?_
        · intro wz hSw
          (try dsimp only at hSw)
          go_simp
        simp only [List.setIfInBounds_toArray, List.set_cons_zero, List.set_cons_succ]
        refine callH (i := 5) (d := 88) (f := 35) (vals := #[.pointer (some ⟨g1, 0, none⟩), .int .i64 6]) rfl rfl (by kernel_rfl) (by rfl) ?_ ?_
        · go_simp
        refine (rnum_any (HR.out.drew) 6 (by decide) (by decide) (by omega)).mono ?_
        rintro e w1 ⟨rfl, hR1, hg1⟩
        replace hg1 := grown_undrew hg1
        have hQ1 := HQ.out.grown hg1 hne.symm HGE1.out
        have hB1 := (HB.out.grown hg1 HB.out.size (fun i hi => by injection hi with hi; subst hi; exact HGE1.out))
        have HR1 := Lib.hid hR1
        have HQ1 := Lib.hid hQ1
        have HB1 := Lib.hid hB1
        clear hR1 hQ1 hB1 hg1
        clear hcell
        have hcell : w1.cell? ⟨bs, offs + k, none⟩ = some (.int .i64 6) := (HB1.out.cell (p := ⟨bs, offs + k, none⟩) hbs).trans HCW.out
        clear hHeld
        refine ⟨_, rfl, hcell, fun hHeld => ?_⟩
        simp only [List.setIfInBounds_toArray, List.set_cons_zero, List.set_cons_succ]
        refine callH (i := 11) (d := 94) (f := 31) (vals := #[.pointer (some ⟨g2, 0, none⟩), .int .i64 6]) rfl rfl (by kernel_rfl) (by rfl) ?_ ?_
        · go_simp
        refine (qnum_any HQ1.out 6 (by decide) (by decide) (by omega)).mono ?_
        rintro e w2 ⟨rfl, hQ2, hg2⟩
        have hR2 := HR1.out.grown hg2 hne HGE2.out
        have hB2 := (HB1.out.grown hg2 HB1.out.size (fun i hi => by injection hi with hi; subst hi; exact HGE2.out))
        clear hg2
        clear hcell
        have HB2 := Lib.hid hB2
        have hcell : w2.cell? ⟨bs, offs + k, none⟩ = some (.int .i64 6) := (HB2.out.cell (p := ⟨bs, offs + k, none⟩) hbs).trans HCW.out
        clear HB2
        clear hHeld
        refine ⟨_, rfl, hcell, fun hHeld => ?_⟩
        simp only [List.setIfInBounds_toArray, List.set_cons_zero, List.set_cons_succ]
        refine takeH (i := 12) (d := 95) (v := .bool true) rfl rfl (by kernel_rfl) (by kernel_rfl) (by kernel_rfl) (fun _ _ _ h => h) (by rfl) ?_ hHeld ?_
        · intro wz hSw
          (try dsimp only at hSw)
          go_simp
        simp only [List.setIfInBounds_toArray, List.set_cons_zero, List.set_cons_succ]
        refine takeH (i := 13) (d := 8) (v := .bool true) rfl rfl (by kernel_rfl) (by kernel_rfl) (by kernel_rfl) (fun _ _ _ h => h) (by rfl) ?_ hHeld ?_
        · intro wz hSw
          (try dsimp only at hSw)
          go_simp
        simp only [List.setIfInBounds_toArray, List.set_cons_zero, List.set_cons_succ]
        refine wpAnyH_done (by kernel_rfl) ?_ _
        have hv := rdVal_lt 6 l1 HIB.out
        generalize rdVal 6 l1 = vv at *
        have HLEN : (rdRest 6 l1).length ≤ l1.length := rdRest_len _ _
        have HR2 := Lib.hid hR2
        have HQ2 := Lib.hid hQ2
        have HB2 := Lib.hid hB2
        clear hR2 hQ2 hB2
        generalize rdRest 6 l1 = l2 at *
        generalize (bad1 || rdBad 6 l1) = bad2 at *
        clear hHeld
        go_wp2_with fail
        have hL2 : l2.length ≤ 300 := Nat.le_trans HLEN hL
        obtain ⟨Aw, cw, bw, sw, w3, w4, w5, w6⟩ := HQ2.out
        have d0 : w2.cell? ⟨g2, 0, none⟩ = some (.slice Aw l2.length cw) := (bw.cell 0).trans rfl
        have d1 : w2.cell? ⟨g2, 1, none⟩ = some (.bool bad2) := (bw.cell 1).trans rfl
        clear bw sw w3 w4 w5 w6
        have hbb : (bad2 == bad2) = true := by simp
        have hbn : (bad2 != bad2) = false := by simp
        have hll : ((l2.length : Int) == (l2.length : Int)) = true := by simp
        have hln : ((l2.length : Int) != (l2.length : Int)) = false := by simp
        have hee : ((endC bad2 l2.length : Int) == (endC bad2 l2.length : Int)) = true := by simp
        have hen : ((endC bad2 l2.length : Int) != (endC bad2 l2.length : Int)) = false := by simp
        go_quiet (first
          | (go_at_call 38; exact Calls.quiet_of_same ((left_any (HR2.out.drewN _)).mono (fun e w' h => ⟨h.1, h.2.symm⟩)))
          | (go_at_call 39; exact Calls.quiet_of_same ((isbad_any (HR2.out.drewN _)).mono (fun e w' h => ⟨h.1, h.2.symm⟩)))
          | (go_at_call 40; exact Calls.quiet_of_same ((rend_any (HR2.out.drewN _)).mono (fun e w' h => ⟨h.1, h.2.symm⟩)))
          | (go_at_call 41; exact Calls.quiet_of_same ((qend_any (HQ2.out.drewN _)).mono (fun e w' h => ⟨h.1, h.2.symm⟩))))
        go_wp2_with fail
        go_roundw
        case rel => exact ⟨k + 1, l2, bad2, by omega, by go_num, HR2.out.drewN _, HQ2.out.drewN _, Bdrew HB2.out _, hL2⟩
        case measure => simp [intOf]; omega
      by_cases q7 : q = 7
      · subst q7
        go_wp2_with fail
        refine wp_region_held_drew (S := fun wx => wx.cell? ⟨bs, offs + k, none⟩ = some (.int .i64 7)) (by kernel_rfl) hcell (fun hHeld => ?_)
        refine takeH (i := 0) (d := 83) (v := .pointer (some ⟨g1, 0, none⟩)) rfl rfl (by kernel_rfl) (by kernel_rfl) (by kernel_rfl) (fun _ _ _ h => h) (by rfl) ?_ hHeld ?_
        · intro wz hSw
          (try dsimp only at hSw)
          go_simp
        simp only [List.setIfInBounds_toArray, List.set_cons_zero, List.set_cons_succ]
        refine takeH (i := 1) (d := 84) (v := .slice (some ⟨bs, offs, none⟩) m c2) rfl rfl (by kernel_rfl) (by kernel_rfl) (by kernel_rfl) (fun _ _ _ h => h) (by rfl) ?_ hHeld ?_
        · intro wz hSw
          (try dsimp only at hSw)
          go_simp
        simp only [List.setIfInBounds_toArray, List.set_cons_zero, List.set_cons_succ]
        refine takeH (i := 2) (d := 85) (v := .int .i64 (k : Int)) rfl rfl (by kernel_rfl) (by kernel_rfl) (by kernel_rfl) (fun _ _ _ h => h) (by rfl) ?_ hHeld ?_
        · intro wz hSw
          (try dsimp only at hSw)
          go_simp
        simp only [List.setIfInBounds_toArray, List.set_cons_zero, List.set_cons_succ]
        refine takeH (i := 3) (d := 86) (v := .pointer (some ⟨bs, offs + k, none⟩)) rfl rfl (by kernel_rfl) (by kernel_rfl) (by kernel_rfl) (fun _ _ _ h => h) (by rfl) ?_ hHeld ?_
        · intro wz hSw
          (try dsimp only at hSw)
          go_simp
        simp only [List.setIfInBounds_toArray, List.set_cons_zero, List.set_cons_succ]
        refine takeH (i := 4) (d := 87) (v := .int .i64 7) rfl rfl (by kernel_rfl) (by kernel_rfl) (by kernel_rfl) (fun _ _ _ h => h) (by rfl) ?_ hHeld ?_
        · intro wz hSw
          (try dsimp only at hSw)
          go_simp
        simp only [List.setIfInBounds_toArray, List.set_cons_zero, List.set_cons_succ]
        refine takeH (i := 6) (d := 89) (v := .pointer (some ⟨g2, 0, none⟩)) rfl rfl (by kernel_rfl) (by kernel_rfl) (by kernel_rfl) (fun _ _ _ h => h) (by rfl) ?_ hHeld ?_
        · intro wz hSw
          (try dsimp only at hSw)
          go_simp
        simp only [List.setIfInBounds_toArray, List.set_cons_zero, List.set_cons_succ]
        refine takeH (i := 7) (d := 90) (v := .slice (some ⟨bs, offs, none⟩) m c2) rfl rfl (by kernel_rfl) (by kernel_rfl) (by kernel_rfl) (fun _ _ _ h => h) (by rfl) ?_ hHeld ?_
        · intro wz hSw
          (try dsimp only at hSw)
          go_simp
        simp only [List.setIfInBounds_toArray, List.set_cons_zero, List.set_cons_succ]
        refine takeH (i := 8) (d := 91) (v := .int .i64 (k : Int)) rfl rfl (by kernel_rfl) (by kernel_rfl) (by kernel_rfl) (fun _ _ _ h => h) (by rfl) ?_ hHeld ?_
        · intro wz hSw
          (try dsimp only at hSw)
          go_simp
        simp only [List.setIfInBounds_toArray, List.set_cons_zero, List.set_cons_succ]
        refine takeH (i := 9) (d := 92) (v := .pointer (some ⟨bs, offs + k, none⟩)) rfl rfl (by kernel_rfl) (by kernel_rfl) (by kernel_rfl) (fun _ _ _ h => h) (by rfl) ?_ hHeld ?_
        · intro wz hSw
          (try dsimp only at hSw)
          go_simp
        simp only [List.setIfInBounds_toArray, List.set_cons_zero, List.set_cons_succ]
        refine takeH (i := 10) (d := 93) (v := .int .i64 7) rfl rfl (by kernel_rfl) (by kernel_rfl) (by kernel_rfl) (fun _ _ _ h => h) (by rfl) ?_ hHeld ?_
        · intro wz hSw
          (try dsimp only at hSw)
          go_simp
        simp only [List.setIfInBounds_toArray, List.set_cons_zero, List.set_cons_succ]
        refine callH (i := 5) (d := 88) (f := 35) (vals := #[.pointer (some ⟨g1, 0, none⟩), .int .i64 7]) rfl rfl (by kernel_rfl) (by rfl) ?_ ?_
        · go_simp
        refine (rnum_any (HR.out.drew) 7 (by decide) (by decide) (by omega)).mono ?_
        rintro e w1 ⟨rfl, hR1, hg1⟩
        replace hg1 := grown_undrew hg1
        have hQ1 := HQ.out.grown hg1 hne.symm HGE1.out
        have hB1 := (HB.out.grown hg1 HB.out.size (fun i hi => by injection hi with hi; subst hi; exact HGE1.out))
        have HR1 := Lib.hid hR1
        have HQ1 := Lib.hid hQ1
        have HB1 := Lib.hid hB1
        clear hR1 hQ1 hB1 hg1
        clear hcell
        have hcell : w1.cell? ⟨bs, offs + k, none⟩ = some (.int .i64 7) := (HB1.out.cell (p := ⟨bs, offs + k, none⟩) hbs).trans HCW.out
        clear hHeld
        refine ⟨_, rfl, hcell, fun hHeld => ?_⟩
        simp only [List.setIfInBounds_toArray, List.set_cons_zero, List.set_cons_succ]
        refine callH (i := 11) (d := 94) (f := 31) (vals := #[.pointer (some ⟨g2, 0, none⟩), .int .i64 7]) rfl rfl (by kernel_rfl) (by rfl) ?_ ?_
        · go_simp
        refine (qnum_any HQ1.out 7 (by decide) (by decide) (by omega)).mono ?_
        rintro e w2 ⟨rfl, hQ2, hg2⟩
        have hR2 := HR1.out.grown hg2 hne HGE2.out
        have hB2 := (HB1.out.grown hg2 HB1.out.size (fun i hi => by injection hi with hi; subst hi; exact HGE2.out))
        clear hg2
        clear hcell
        have HB2 := Lib.hid hB2
        have hcell : w2.cell? ⟨bs, offs + k, none⟩ = some (.int .i64 7) := (HB2.out.cell (p := ⟨bs, offs + k, none⟩) hbs).trans HCW.out
        clear HB2
        clear hHeld
        refine ⟨_, rfl, hcell, fun hHeld => ?_⟩
        simp only [List.setIfInBounds_toArray, List.set_cons_zero, List.set_cons_succ]
        refine takeH (i := 12) (d := 95) (v := .bool true) rfl rfl (by kernel_rfl) (by kernel_rfl) (by kernel_rfl) (fun _ _ _ h => h) (by rfl) ?_ hHeld ?_
        · intro wz hSw
          (try dsimp only at hSw)
          go_simp
        simp only [List.setIfInBounds_toArray, List.set_cons_zero, List.set_cons_succ]
        refine takeH (i := 13) (d := 8) (v := .bool true) rfl rfl (by kernel_rfl) (by kernel_rfl) (by kernel_rfl) (fun _ _ _ h => h) (by rfl) ?_ hHeld ?_
        · intro wz hSw
          (try dsimp only at hSw)
          go_simp
        simp only [List.setIfInBounds_toArray, List.set_cons_zero, List.set_cons_succ]
        refine wpAnyH_done (by kernel_rfl) ?_ _
        have hv := rdVal_lt 7 l1 HIB.out
        generalize rdVal 7 l1 = vv at *
        have HLEN : (rdRest 7 l1).length ≤ l1.length := rdRest_len _ _
        have HR2 := Lib.hid hR2
        have HQ2 := Lib.hid hQ2
        have HB2 := Lib.hid hB2
        clear hR2 hQ2 hB2
        generalize rdRest 7 l1 = l2 at *
        generalize (bad1 || rdBad 7 l1) = bad2 at *
        clear hHeld
        go_wp2_with fail
        have hL2 : l2.length ≤ 300 := Nat.le_trans HLEN hL
        obtain ⟨Aw, cw, bw, sw, w3, w4, w5, w6⟩ := HQ2.out
        have d0 : w2.cell? ⟨g2, 0, none⟩ = some (.slice Aw l2.length cw) := (bw.cell 0).trans rfl
        have d1 : w2.cell? ⟨g2, 1, none⟩ = some (.bool bad2) := (bw.cell 1).trans rfl
        clear bw sw w3 w4 w5 w6
        have hbb : (bad2 == bad2) = true := by simp
        have hbn : (bad2 != bad2) = false := by simp
        have hll : ((l2.length : Int) == (l2.length : Int)) = true := by simp
        have hln : ((l2.length : Int) != (l2.length : Int)) = false := by simp
        have hee : ((endC bad2 l2.length : Int) == (endC bad2 l2.length : Int)) = true := by simp
        have hen : ((endC bad2 l2.length : Int) != (endC bad2 l2.length : Int)) = false := by simp
        go_quiet (first
          | (go_at_call 38; exact Calls.quiet_of_same ((left_any (HR2.out.drewN _)).mono (fun e w' h => ⟨h.1, h.2.symm⟩)))
          | (go_at_call 39; exact Calls.quiet_of_same ((isbad_any (HR2.out.drewN _)).mono (fun e w' h => ⟨h.1, h.2.symm⟩)))
          | (go_at_call 40; exact Calls.quiet_of_same ((rend_any (HR2.out.drewN _)).mono (fun e w' h => ⟨h.1, h.2.symm⟩)))
          | (go_at_call 41; exact Calls.quiet_of_same ((qend_any (HQ2.out.drewN _)).mono (fun e w' h => ⟨h.1, h.2.symm⟩))))
        go_wp2_with fail
        go_roundw
        case rel => exact ⟨k + 1, l2, bad2, by omega, by go_num, HR2.out.drewN _, HQ2.out.drewN _, Bdrew HB2.out _, hL2⟩
        case measure => simp [intOf]; omega
      have n1 : (q == 1) = false := by rw [beq_eq_false_iff_ne]; exact q1
      have n2 : (q == 2) = false := by rw [beq_eq_false_iff_ne]; exact q2
      have n3 : (q == 3) = false := by rw [beq_eq_false_iff_ne]; exact q3
      have n4 : (q == 4) = false := by rw [beq_eq_false_iff_ne]; exact q4
      have n5 : (q == 5) = false := by rw [beq_eq_false_iff_ne]; exact q5
      have n6 : (q == 6) = false := by rw [beq_eq_false_iff_ne]; exact q6
      have n7 : (q == 7) = false := by rw [beq_eq_false_iff_ne]; exact q7
      have n8 : (q == 8) = false := by rw [beq_eq_false_iff_ne]; exact q8
      clear q1 q2 q3 q4 q5 q6 q7 q8
      by_cases hq : q < 0 ∨ (l1.length : Int) < q
      ·
        go_wp2_with fail
        refine wp_region_held_drew (S := fun wx => wx.cell? ⟨bs, offs + k, none⟩ = some (.int .i64 q)) (by kernel_rfl) hcell (fun hHeld => ?_)
        refine takeH (i := 0) (d := 34) (v := .pointer (some ⟨g1, 0, none⟩)) rfl rfl (by kernel_rfl) (by kernel_rfl) (by kernel_rfl) (fun _ _ _ h => h) (by rfl) ?_ hHeld ?_
        · intro wz hSw
          (try dsimp only at hSw)
          go_simp
        simp only [List.setIfInBounds_toArray, List.set_cons_zero, List.set_cons_succ]
        refine takeH (i := 1) (d := 35) (v := .slice (some ⟨bs, offs, none⟩) m c2) rfl rfl (by kernel_rfl) (by kernel_rfl) (by kernel_rfl) (fun _ _ _ h => h) (by rfl) ?_ hHeld ?_
        · intro wz hSw
          (try dsimp only at hSw)
          go_simp
        simp only [List.setIfInBounds_toArray, List.set_cons_zero, List.set_cons_succ]
        refine takeH (i := 2) (d := 36) (v := .int .i64 (k : Int)) rfl rfl (by kernel_rfl) (by kernel_rfl) (by kernel_rfl) (fun _ _ _ h => h) (by rfl) ?_ hHeld ?_
        · intro wz hSw
          (try dsimp only at hSw)
          go_simp
        simp only [List.setIfInBounds_toArray, List.set_cons_zero, List.set_cons_succ]
        refine takeH (i := 3) (d := 37) (v := .pointer (some ⟨bs, offs + k, none⟩)) rfl rfl (by kernel_rfl) (by kernel_rfl) (by kernel_rfl) (fun _ _ _ h => h) (by rfl) ?_ hHeld ?_
        · intro wz hSw
          (try dsimp only at hSw)
          go_simp
        simp only [List.setIfInBounds_toArray, List.set_cons_zero, List.set_cons_succ]
        refine takeH (i := 4) (d := 38) (v := .int .i64 q) rfl rfl (by kernel_rfl) (by kernel_rfl) (by kernel_rfl) (fun _ _ _ h => h) (by rfl) ?_ hHeld ?_
        · intro wz hSw
          (try dsimp only at hSw)
          go_simp
        simp only [List.setIfInBounds_toArray, List.set_cons_zero, List.set_cons_succ]
        refine takeH (i := 6) (d := 40) (v := .pointer (some ⟨g2, 0, none⟩)) rfl rfl (by kernel_rfl) (by kernel_rfl) (by kernel_rfl) (fun _ _ _ h => h) (by rfl) ?_ hHeld ?_
        · intro wz hSw
          (try dsimp only at hSw)
          go_simp
        simp only [List.setIfInBounds_toArray, List.set_cons_zero, List.set_cons_succ]
        refine takeH (i := 7) (d := 41) (v := .slice (some ⟨bs, offs, none⟩) m c2) rfl rfl (by kernel_rfl) (by kernel_rfl) (by kernel_rfl) (fun _ _ _ h => h) (by rfl) ?_ hHeld ?_
        · intro wz hSw
          (try dsimp only at hSw)
          go_simp
        simp only [List.setIfInBounds_toArray, List.set_cons_zero, List.set_cons_succ]
        refine takeH (i := 8) (d := 42) (v := .int .i64 (k : Int)) rfl rfl (by kernel_rfl) (by kernel_rfl) (by kernel_rfl) (fun _ _ _ h => h) (by rfl) ?_ hHeld ?_
        · intro wz hSw
          (try dsimp only at hSw)
          go_simp
        simp only [List.setIfInBounds_toArray, List.set_cons_zero, List.set_cons_succ]
        refine takeH (i := 9) (d := 43) (v := .pointer (some ⟨bs, offs + k, none⟩)) rfl rfl (by kernel_rfl) (by kernel_rfl) (by kernel_rfl) (fun _ _ _ h => h) (by rfl) ?_ hHeld ?_
        · intro wz hSw
          (try dsimp only at hSw)
          go_simp
        simp only [List.setIfInBounds_toArray, List.set_cons_zero, List.set_cons_succ]
        refine takeH (i := 10) (d := 44) (v := .int .i64 q) rfl rfl (by kernel_rfl) (by kernel_rfl) (by kernel_rfl) (fun _ _ _ h => h) (by rfl) ?_ hHeld ?_
        · intro wz hSw
          (try dsimp only at hSw)
          go_simp
        simp only [List.setIfInBounds_toArray, List.set_cons_zero, List.set_cons_succ]
        refine callH (i := 5) (d := 39) (f := 36) (vals := #[.pointer (some ⟨g1, 0, none⟩), .int .i64 q]) rfl rfl (by kernel_rfl) (by rfl) ?_ ?_
        · go_simp
        refine (rbytes_none HR.out.drew q hq).mono ?_
        rintro e w1 ⟨rfl, hR1, hg1⟩
        replace hg1 := grown_undrew hg1
        have hQ1 := HQ.out.grown hg1 hne.symm HGE1.out
        have hB1 := (HB.out.grown hg1 HB.out.size (fun i hi => by injection hi with hi; subst hi; exact HGE1.out))
        have HR1 := Lib.hid hR1
        have HQ1 := Lib.hid hQ1
        have HB1 := Lib.hid hB1
        clear hR1 hQ1 hB1 hg1
        clear hcell
        have hcell : w1.cell? ⟨bs, offs + k, none⟩ = some (.int .i64 q) := (HB1.out.cell (p := ⟨bs, offs + k, none⟩) hbs).trans HCW.out
        clear hHeld
        refine ⟨_, rfl, hcell, fun hHeld => ?_⟩
        simp only [List.setIfInBounds_toArray, List.set_cons_zero, List.set_cons_succ]
        refine callH (i := 11) (d := 45) (f := 37) (vals := #[.pointer (some ⟨g2, 0, none⟩), .int .i64 q]) rfl rfl (by kernel_rfl) (by rfl) ?_ ?_
        · go_simp
        refine (qbytes_none HQ1.out q hq).mono ?_
        rintro e w2 ⟨rfl, hQ2, hg2⟩
        have hR2 := HR1.out.grown hg2 hne HGE2.out
        have hB2 := (HB1.out.grown hg2 HB1.out.size (fun i hi => by injection hi with hi; subst hi; exact HGE2.out))
        clear hg2
        clear hcell
        have HB2 := Lib.hid hB2
        have hcell : w2.cell? ⟨bs, offs + k, none⟩ = some (.int .i64 q) := (HB2.out.cell (p := ⟨bs, offs + k, none⟩) hbs).trans HCW.out
        clear HB2
        clear hHeld
        refine ⟨_, rfl, hcell, fun hHeld => ?_⟩
        simp only [List.setIfInBounds_toArray, List.set_cons_zero, List.set_cons_succ]
        refine callH (i := 12) (d := 46) (f := 26) (vals := #[.slice none 0 0, .slice none 0 0]) rfl rfl (by kernel_rfl) (by rfl) ?_ ?_
        · go_simp
        refine (equal_any (A := none) (A' := none) (n := 0) (m := 0) (B := 0) (B' := 0) (l := []) (k := []) 0 0 (Seg.empty _) (Seg.empty _) IsB.nil IsB.nil).mono ?_
        rintro e w3 ⟨rfl, rfl⟩
        rw [decide_eq_true rfl]
        clear hHeld
        refine ⟨_, rfl, hcell, fun hHeld => ?_⟩
        simp only [List.setIfInBounds_toArray, List.set_cons_zero, List.set_cons_succ]
        refine takeH (i := 13) (d := 8) (v := .bool true) rfl rfl (by kernel_rfl) (by kernel_rfl) (by kernel_rfl) (fun _ _ _ h => h) (by rfl) ?_ hHeld ?_
        · intro wz hSw
          (try dsimp only at hSw)
          go_simp
        simp only [List.setIfInBounds_toArray, List.set_cons_zero, List.set_cons_succ]
        refine wpAnyH_done (by kernel_rfl) ?_ _
        obtain ⟨l2, hl2⟩ : ∃ l2 : List Nat, l2 = [] := ⟨_, rfl⟩
        obtain ⟨bad2, hbad2⟩ : ∃ b : Bool, b = true := ⟨_, rfl⟩
        rw [← hl2, ← hbad2] at hR2 hQ2
        have HLEN : l2.length ≤ l1.length := by rw [hl2]; simp
        have HR2 := Lib.hid hR2
        have HQ2 := Lib.hid hQ2
        have HB2 := Lib.hid hB2
        clear hR2 hQ2 hB2 hl2 hbad2
        clear hHeld
        go_wp2_with fail
        have hL2 : l2.length ≤ 300 := Nat.le_trans HLEN hL
        obtain ⟨Aw, cw, bw, sw, w3, w4, w5, w6⟩ := HQ2.out
        have d0 : w2.cell? ⟨g2, 0, none⟩ = some (.slice Aw l2.length cw) := (bw.cell 0).trans rfl
        have d1 : w2.cell? ⟨g2, 1, none⟩ = some (.bool bad2) := (bw.cell 1).trans rfl
        clear bw sw w3 w4 w5 w6
        have hbb : (bad2 == bad2) = true := by simp
        have hbn : (bad2 != bad2) = false := by simp
        have hll : ((l2.length : Int) == (l2.length : Int)) = true := by simp
        have hln : ((l2.length : Int) != (l2.length : Int)) = false := by simp
        have hee : ((endC bad2 l2.length : Int) == (endC bad2 l2.length : Int)) = true := by simp
        have hen : ((endC bad2 l2.length : Int) != (endC bad2 l2.length : Int)) = false := by simp
        go_quiet (first
          | (go_at_call 38; exact Calls.quiet_of_same ((left_any (HR2.out.drewN _)).mono (fun e w' h => ⟨h.1, h.2.symm⟩)))
          | (go_at_call 39; exact Calls.quiet_of_same ((isbad_any (HR2.out.drewN _)).mono (fun e w' h => ⟨h.1, h.2.symm⟩)))
          | (go_at_call 40; exact Calls.quiet_of_same ((rend_any (HR2.out.drewN _)).mono (fun e w' h => ⟨h.1, h.2.symm⟩)))
          | (go_at_call 41; exact Calls.quiet_of_same ((qend_any (HQ2.out.drewN _)).mono (fun e w' h => ⟨h.1, h.2.symm⟩))))
        go_wp2_with fail
        go_roundw
        case rel => exact ⟨k + 1, l2, bad2, by omega, by go_num, HR2.out.drewN _, HQ2.out.drewN _, Bdrew HB2.out _, hL2⟩
        case measure => simp [intOf]; omega
      · obtain ⟨kk, rfl⟩ := Int.eq_ofNat_of_zero_le (by omega : 0 ≤ q)
        have hkk : kk ≤ l1.length := by omega
        clear hq
        go_wp2_with fail
        refine wp_region_held_drew (S := fun wx => wx.cell? ⟨bs, offs + k, none⟩ = some (.int .i64 (kk : Int))) (by kernel_rfl) hcell (fun hHeld => ?_)
        refine takeH (i := 0) (d := 34) (v := .pointer (some ⟨g1, 0, none⟩)) rfl rfl (by kernel_rfl) (by kernel_rfl) (by kernel_rfl) (fun _ _ _ h => h) (by rfl) ?_ hHeld ?_
        · intro wz hSw
          (try dsimp only at hSw)
          go_simp
        simp only [List.setIfInBounds_toArray, List.set_cons_zero, List.set_cons_succ]
        refine takeH (i := 1) (d := 35) (v := .slice (some ⟨bs, offs, none⟩) m c2) rfl rfl (by kernel_rfl) (by kernel_rfl) (by kernel_rfl) (fun _ _ _ h => h) (by rfl) ?_ hHeld ?_
        · intro wz hSw
          (try dsimp only at hSw)
          go_simp
        simp only [List.setIfInBounds_toArray, List.set_cons_zero, List.set_cons_succ]
        refine takeH (i := 2) (d := 36) (v := .int .i64 (k : Int)) rfl rfl (by kernel_rfl) (by kernel_rfl) (by kernel_rfl) (fun _ _ _ h => h) (by rfl) ?_ hHeld ?_
        · intro wz hSw
          (try dsimp only at hSw)
          go_simp
        simp only [List.setIfInBounds_toArray, List.set_cons_zero, List.set_cons_succ]
        refine takeH (i := 3) (d := 37) (v := .pointer (some ⟨bs, offs + k, none⟩)) rfl rfl (by kernel_rfl) (by kernel_rfl) (by kernel_rfl) (fun _ _ _ h => h) (by rfl) ?_ hHeld ?_
        · intro wz hSw
          (try dsimp only at hSw)
          go_simp
        simp only [List.setIfInBounds_toArray, List.set_cons_zero, List.set_cons_succ]
        refine takeH (i := 4) (d := 38) (v := .int .i64 (kk : Int)) rfl rfl (by kernel_rfl) (by kernel_rfl) (by kernel_rfl) (fun _ _ _ h => h) (by rfl) ?_ hHeld ?_
        · intro wz hSw
          (try dsimp only at hSw)
          go_simp
        simp only [List.setIfInBounds_toArray, List.set_cons_zero, List.set_cons_succ]
        refine takeH (i := 6) (d := 40) (v := .pointer (some ⟨g2, 0, none⟩)) rfl rfl (by kernel_rfl) (by kernel_rfl) (by kernel_rfl) (fun _ _ _ h => h) (by rfl) ?_ hHeld ?_
        · intro wz hSw
          (try dsimp only at hSw)
          go_simp
        simp only [List.setIfInBounds_toArray, List.set_cons_zero, List.set_cons_succ]
        refine takeH (i := 7) (d := 41) (v := .slice (some ⟨bs, offs, none⟩) m c2) rfl rfl (by kernel_rfl) (by kernel_rfl) (by kernel_rfl) (fun _ _ _ h => h) (by rfl) ?_ hHeld ?_
        · intro wz hSw
          (try dsimp only at hSw)
          go_simp
        simp only [List.setIfInBounds_toArray, List.set_cons_zero, List.set_cons_succ]
        refine takeH (i := 8) (d := 42) (v := .int .i64 (k : Int)) rfl rfl (by kernel_rfl) (by kernel_rfl) (by kernel_rfl) (fun _ _ _ h => h) (by rfl) ?_ hHeld ?_
        · intro wz hSw
          (try dsimp only at hSw)
          go_simp
        simp only [List.setIfInBounds_toArray, List.set_cons_zero, List.set_cons_succ]
        refine takeH (i := 9) (d := 43) (v := .pointer (some ⟨bs, offs + k, none⟩)) rfl rfl (by kernel_rfl) (by kernel_rfl) (by kernel_rfl) (fun _ _ _ h => h) (by rfl) ?_ hHeld ?_
        · intro wz hSw
          (try dsimp only at hSw)
          go_simp
        simp only [List.setIfInBounds_toArray, List.set_cons_zero, List.set_cons_succ]
        refine takeH (i := 10) (d := 44) (v := .int .i64 (kk : Int)) rfl rfl (by kernel_rfl) (by kernel_rfl) (by kernel_rfl) (fun _ _ _ h => h) (by rfl) ?_ hHeld ?_
        · intro wz hSw
          (try dsimp only at hSw)
          go_simp
        simp only [List.setIfInBounds_toArray, List.set_cons_zero, List.set_cons_succ]
        refine callH (i := 5) (d := 39) (f := 36) (vals := #[.pointer (some ⟨g1, 0, none⟩), .int .i64 (kk : Int)]) rfl rfl (by kernel_rfl) (by rfl) ?_ ?_
        · go_simp
        refine (rbytes_some HR.out.drew kk (by omega) (by omega)).mono ?_
        rintro e w1 ⟨Aa, ca, rfl, hown1, hR1, hg1⟩
        replace hg1 := grown_undrew hg1
        have HO1 := Lib.hid (hown1.seg)
        have HNE2 := Lib.hid (show ∀ b off, Aa = some ⟨b, off, none⟩ → b ≠ g2 from fun b off e => by subst e; have h9 : wr.heap.size ≤ b := (hown1.lt b rfl).1; have := HQ.out.lt; omega)
        clear hown1
        have hQ1 := HQ.out.grown hg1 hne.symm HGE1.out
        have hB1 := (HB.out.grown hg1 HB.out.size (fun i hi => by injection hi with hi; subst hi; exact HGE1.out))
        have HR1 := Lib.hid hR1
        have HQ1 := Lib.hid hQ1
        have HB1 := Lib.hid hB1
        clear hR1 hQ1 hB1 hg1
        clear hcell
        have hcell : w1.cell? ⟨bs, offs + k, none⟩ = some (.int .i64 (kk : Int)) := (HB1.out.cell (p := ⟨bs, offs + k, none⟩) hbs).trans HCW.out
        clear hHeld
        refine ⟨_, rfl, hcell, fun hHeld => ?_⟩
        simp only [List.setIfInBounds_toArray, List.set_cons_zero, List.set_cons_succ]
        refine callH (i := 11) (d := 45) (f := 37) (vals := #[.pointer (some ⟨g2, 0, none⟩), .int .i64 (kk : Int)]) rfl rfl (by kernel_rfl) (by rfl) ?_ ?_
        · go_simp
        refine (qbytes_some HQ1.out kk (by omega) (by omega)).mono ?_
        rintro e w2 ⟨Ab, cb, rfl, hown2, hQ2, hg2⟩
        have HO2 := Lib.hid (hown2.seg)
        have HO1' := Lib.hid (Seg.keepg HO1.out hg2 HNE2.out (Nat.le_refl _))
        clear hown2
        have hR2 := HR1.out.grown hg2 hne HGE2.out
        have hB2 := (HB1.out.grown hg2 HB1.out.size (fun i hi => by injection hi with hi; subst hi; exact HGE2.out))
        clear hg2
        clear hcell
        have HB2 := Lib.hid hB2
        have hcell : w2.cell? ⟨bs, offs + k, none⟩ = some (.int .i64 (kk : Int)) := (HB2.out.cell (p := ⟨bs, offs + k, none⟩) hbs).trans HCW.out
        clear HB2
        clear hHeld
        refine ⟨_, rfl, hcell, fun hHeld => ?_⟩
        simp only [List.setIfInBounds_toArray, List.set_cons_zero, List.set_cons_succ]
        refine callH (i := 12) (d := 46) (f := 26) (vals := #[.slice Aa kk ca, .slice Ab kk cb]) rfl rfl (by kernel_rfl) (by rfl) ?_ ?_
        · go_simp
        refine (equal_any ca cb HO1'.out HO2.out (HIB.out.take kk) (HIB.out.take kk)).mono ?_
        rintro e w3 ⟨rfl, rfl⟩
        rw [decide_eq_true rfl]
        clear hHeld
        refine ⟨_, rfl, hcell, fun hHeld => ?_⟩
        simp only [List.setIfInBounds_toArray, List.set_cons_zero, List.set_cons_succ]
        refine takeH (i := 13) (d := 8) (v := .bool true) rfl rfl (by kernel_rfl) (by kernel_rfl) (by kernel_rfl) (fun _ _ _ h => h) (by rfl) ?_ hHeld ?_
        · intro wz hSw
          (try dsimp only at hSw)
          go_simp
        simp only [List.setIfInBounds_toArray, List.set_cons_zero, List.set_cons_succ]
        refine wpAnyH_done (by kernel_rfl) ?_ _
        have HLEN : (l1.drop kk).length ≤ l1.length := by simp
        have HR2 := Lib.hid hR2
        have HQ2 := Lib.hid hQ2
        have HB2 := Lib.hid hB2
        clear hR2 hQ2 hB2
        generalize l1.drop kk = l2 at *
        generalize bad1 = bad2 at *
        clear hHeld
        go_wp2_with fail
        have hL2 : l2.length ≤ 300 := Nat.le_trans HLEN hL
        obtain ⟨Aw, cw, bw, sw, w3, w4, w5, w6⟩ := HQ2.out
        have d0 : w2.cell? ⟨g2, 0, none⟩ = some (.slice Aw l2.length cw) := (bw.cell 0).trans rfl
        have d1 : w2.cell? ⟨g2, 1, none⟩ = some (.bool bad2) := (bw.cell 1).trans rfl
        clear bw sw w3 w4 w5 w6
        have hbb : (bad2 == bad2) = true := by simp
        have hbn : (bad2 != bad2) = false := by simp
        have hll : ((l2.length : Int) == (l2.length : Int)) = true := by simp
        have hln : ((l2.length : Int) != (l2.length : Int)) = false := by simp
        have hee : ((endC bad2 l2.length : Int) == (endC bad2 l2.length : Int)) = true := by simp
        have hen : ((endC bad2 l2.length : Int) != (endC bad2 l2.length : Int)) = false := by simp
        go_quiet (first
          | (go_at_call 38; exact Calls.quiet_of_same ((left_any (HR2.out.drewN _)).mono (fun e w' h => ⟨h.1, h.2.symm⟩)))
          | (go_at_call 39; exact Calls.quiet_of_same ((isbad_any (HR2.out.drewN _)).mono (fun e w' h => ⟨h.1, h.2.symm⟩)))
          | (go_at_call 40; exact Calls.quiet_of_same ((rend_any (HR2.out.drewN _)).mono (fun e w' h => ⟨h.1, h.2.symm⟩)))
          | (go_at_call 41; exact Calls.quiet_of_same ((qend_any (HQ2.out.drewN _)).mono (fun e w' h => ⟨h.1, h.2.symm⟩))))
        go_wp2_with fail
        go_roundw
        case rel => exact ⟨k + 1, l2, bad2, by omega, by go_num, HR2.out.drewN _, HQ2.out.drewN _, Bdrew HB2.out _, hL2⟩
        case measure => simp [intOf]; omega
    · go_wp2_with fail
      refine (alive_true _).mono ?_
      rintro e w9 ⟨rfl, hb⟩
      go_wp2_with fail
      go_ret
      exact ⟨rfl, nextB HB.out (Nat.le_refl _) hb⟩

theorem reads_many (A A2 : Option Addr) (n c m c2 : Nat) (w : World) (h : 300 < n ∨ (n ≤ 300 ∧ 50 < m)) :
    Calls Try.prog 10 #[.slice A n c, .slice A2 m c2] w fun e w' => e = .returned (.bool true) ∧ Below w.heap.size w w' := by
  rcases h with h | ⟨h, h2⟩
  · have t1 : decide ((300 : Int) < (n : Int)) = true := by simp; omega
    go_enter Try.func10, Try.ntmps10
    go_wp2_with fail
    go_ret
    exact ⟨rfl, Below.refl _ _⟩
  · have t1 : decide ((300 : Int) < (n : Int)) = false := by simp; omega
    have t2 : decide ((50 : Int) < (m : Int)) = true := by simp; omega
    go_enter Try.func10, Try.ntmps10
    go_wp2_with fail
    go_ret
    exact ⟨rfl, Below.refl _ _⟩

set_option maxRecDepth 100000 in
theorem reads_main {H : Type} {enc : TypeId × Value → H} {base : Nat} (W : World) {v0 v1 : Value} {d0 d1 : DataW H} {p0 p1 : List MemPlace}
    (h0 : DataW.Trod enc Try.prog W 0 (fun _ => true) true 37 v0 d0 p0) (k0 : Value.okWide Try.prog W .any base 37 v0)
    (h1 : DataW.Trod enc Try.prog W 0 (fun _ => true) true 52 v1 d1 p1) (k1 : Value.okWide Try.prog W .any base 52 v1) :
    Calls Try.prog 10 #[v0, v1] W fun e W' => e = .returned (.bool true) ∧ Below W.heap.size W W' := by
  obtain ⟨A, n, c, l, rfl, hnc, hc, hl, hs⟩ := open_bytes h0 k0
  obtain ⟨A2, m, c2, zs, rfl, hmc, hc2, hz, hs2⟩ := open_seg Try.underlying52 Try.underlying3 (by kernel_rfl) h1 k1
  by_cases c1 : 300 < n
  · exact reads_many A A2 n c m c2 W (.inl c1)
  by_cases c3 : 50 < m
  · exact reads_many A A2 n c m c2 W (.inr ⟨by omega, c3⟩)
  exact reads_walk A A2 n c m c2 l zs W hs hl hnc hc hs2 hmc (by omega) (by omega)
end Go.Proofs.Ytigebiknlodghaa.fix
