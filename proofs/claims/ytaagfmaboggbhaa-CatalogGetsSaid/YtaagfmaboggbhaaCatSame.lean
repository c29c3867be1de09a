/-
  The walk of the law's Same, of catalogs that are the same.
-/
import Derived.Test.YtaagfmaboggbhaaCatEq
namespace Go.Proofs.Ytaagfmaboggbhaa.cat
open Go.RowKit
set_option linter.unusedVariables false

def Vol.p (z : Vol) : Int × Nat × List (Nat × Nat) := (z.id, z.born, z.l)
def Grp.p (z : Grp) : Int × List Int := (z.id, z.l)
def Bk.p (z : Bk) : Int × Nat × List Int := (z.id, z.seq, z.l)
/-- Two catalogs say the same. -/
structure SameC (a c : Cat) : Prop where
  nv : a.nv = c.nv
  ng : a.ng = c.ng
  nb : a.nb = c.nb
  floor : a.floor = c.floor
  v : a.v.map Vol.p = c.v.map Vol.p
  g : a.g.map Grp.p = c.g.map Grp.p
  b : a.b.map Bk.p = c.b.map Bk.p
  k : a.k = c.k
  t : a.t = c.t
theorem SameC.refl (a : Cat) : SameC a a := ⟨rfl, rfl, rfl, rfl, rfl, rfl, rfl, rfl, rfl⟩
theorem SameC.symm {a b : Cat} (h : SameC a b) : SameC b a := ⟨h.nv.symm, h.ng.symm, h.nb.symm, h.floor.symm, h.v.symm, h.g.symm, h.b.symm, h.k.symm, h.t.symm⟩
theorem map_at {α β : Type} {f : α → β} {L M : List α} (h : L.map f = M.map f) {k : Nat} (h1 : k < L.length) (h2 : k < M.length) : f L[k] = f M[k] := by
  have e : (L.map f)[k]? = (M.map f)[k]? := by rw [h]
  rw [List.getElem?_map, List.getElem?_map, List.getElem?_eq_getElem h1, List.getElem?_eq_getElem h2] at e
  simpa using e
theorem map_len {α β : Type} {f : α → β} {L M : List α} (h : L.map f = M.map f) : L.length = M.length := by
  have := congrArg List.length h
  simpa using this

set_option maxRecDepth 100000 in
set_option maxHeartbeats 12800000 in
theorem same_true {w : World} {a c : Cat} (ha : CatOk w w.heap.size a) (hc : CatOk w w.heap.size c) (hs : SameC a c) (hsh : a.Short) :
    Calls Try.prog 44 #[a.val, c.val] w fun e w' => e = .returned (.bool true) ∧ Below w.heap.size w w' := by
  have HA := Lib.hid ha
  have HC := Lib.hid hc
  have HS := Lib.hid hs
  have HSH := Lib.hid hsh
  have ev : a.vn = c.vn := by rw [← ha.v.len, ← hc.v.len, map_len hs.v]
  have eg : a.gn = c.gn := by rw [← ha.g.len, ← hc.g.len, map_len hs.g]
  have eb : a.bn = c.bn := by rw [← ha.b.len, ← hc.b.len, map_len hs.b]
  have ek : a.kn = c.kn := by have h1 := ha.k.1; have h2 := hc.k.1; rw [us_len] at h1 h2; rw [← h1, ← h2, hs.k]
  have et : a.tn = c.tn := by rw [← ha.t.len, ← hc.t.len, hs.t]
  have e1 := hs.nv
  have e2 := hs.ng
  have e3 := hs.nb
  have e4 := hs.floor
  have e5 := hs.k
  have e6 := hs.t
  clear ha hc hs hsh
  obtain ⟨nv, ng, nb, fl, vA, vn, vc, v, gA, gn, gc, g, bA, bn, bc, b, kA, kn, kc, kl, tA, tn, tc, t⟩ := a
  obtain ⟨nv2, ng2, nb2, fl2, vA2, vn2, vc2, v2, gA2, gn2, gc2, g2, bA2, bn2, bc2, b2, kA2, kn2, kc2, kl2, tA2, tn2, tc2, t2⟩ := c
  simp only at ev eg eb ek et e1 e2 e3 e4 e5 e6
  subst ev eg eb ek et e1 e2 e3 e4 e5 e6
  have HV1 := Lib.hid HA.out.v
  have HV2 := Lib.hid HC.out.v
  have HG1 := Lib.hid HA.out.g
  have HG2 := Lib.hid HC.out.g
  have HBB1 := Lib.hid HA.out.b
  have HBB2 := Lib.hid HC.out.b
  have HK1 := Lib.hid HA.out.k
  have HK2 := Lib.hid HC.out.k
  have HT1 := Lib.hid HA.out.t
  have HT2 := Lib.hid HC.out.t
  have hsh := HSH.out
  have HEV := Lib.hid HS.out.v
  have HEG := Lib.hid HS.out.g
  have HEB := Lib.hid HS.out.b
  simp only at HV1 HV2 HG1 HG2 HBB1 HBB2 HK1 HK2 HT1 HT2 HEV HEG HEB
  have z1 := hsh.1
  have z2 := hsh.2.1
  have z3 := hsh.2.2.1
  have z4 := hsh.2.2.2.1
  have z5 := hsh.2.2.2.2.1
  simp only at z1 z2 z3 z4 z5
  have HZ6 := Lib.hid hsh.2.2.2.2.2
  clear hsh HA HC HS HSH
  have HB1 := Lib.hid ((Box.new w #[.int .i64 nv, .int .i64 ng, .int .i64 nb, .int .u64 (fl : Int), .slice vA vn vc, .slice gA gn gc, .slice bA bn bc, .slice kA kn kc, .slice tA tn tc] 68).alloc (.cells #[.int .i64 nv, .int .i64 ng, .int .i64 nb, .int .u64 (fl : Int), .slice vA2 vn vc2, .slice gA2 gn gc2, .slice bA2 bn bc2, .slice kA2 kn kc2, .slice tA2 tn tc2] 68))
  have HB2 := Lib.hid (show Box ((w.alloc (.cells #[.int .i64 nv, .int .i64 ng, .int .i64 nb, .int .u64 (fl : Int), .slice vA vn vc, .slice gA gn gc, .slice bA bn bc, .slice kA kn kc, .slice tA tn tc] 68)).alloc (.cells #[.int .i64 nv, .int .i64 ng, .int .i64 nb, .int .u64 (fl : Int), .slice vA2 vn vc2, .slice gA2 gn gc2, .slice bA2 bn bc2, .slice kA2 kn kc2, .slice tA2 tn tc2] 68)) (w.heap.size + 1) 68 #[.int .i64 nv, .int .i64 ng, .int .i64 nb, .int .u64 (fl : Int), .slice vA2 vn vc2, .slice gA2 gn gc2, .slice bA2 bn bc2, .slice kA2 kn kc2, .slice tA2 tn tc2] by
    have h9 := Box.new (w.alloc (.cells #[.int .i64 nv, .int .i64 ng, .int .i64 nb, .int .u64 (fl : Int), .slice vA vn vc, .slice gA gn gc, .slice bA bn bc, .slice kA kn kc, .slice tA tn tc] 68)) #[.int .i64 nv, .int .i64 ng, .int .i64 nb, .int .u64 (fl : Int), .slice vA2 vn vc2, .slice gA2 gn gc2, .slice bA2 bn bc2, .slice kA2 kn kc2, .slice tA2 tn tc2] 68
    rw [show (w.alloc (.cells #[.int .i64 nv, .int .i64 ng, .int .i64 nb, .int .u64 (fl : Int), .slice vA vn vc, .slice gA gn gc, .slice bA bn bc, .slice kA kn kc, .slice tA tn tc] 68)).heap.size = w.heap.size + 1 by simp] at h9
    exact h9)
  have HW := Lib.hid (show Below w.heap.size w ((w.alloc (.cells #[.int .i64 nv, .int .i64 ng, .int .i64 nb, .int .u64 (fl : Int), .slice vA vn vc, .slice gA gn gc, .slice bA bn bc, .slice kA kn kc, .slice tA tn tc] 68)).alloc (.cells #[.int .i64 nv, .int .i64 ng, .int .i64 nb, .int .u64 (fl : Int), .slice vA2 vn vc2, .slice gA2 gn gc2, .slice bA2 bn bc2, .slice kA2 kn kc2, .slice tA2 tn tc2] 68)) from ((Below.refl _ _).alloc (Nat.le_refl _) _).alloc (by simp) _)
  unfold Cat.val Cat.cells
  go_enter Try.func44, Try.ntmps44
  go_wp2_with fail
  generalize hwA : (w.alloc (.cells #[.int .i64 nv, .int .i64 ng, .int .i64 nb, .int .u64 (fl : Int), .slice vA vn vc, .slice gA gn gc, .slice bA bn bc, .slice kA kn kc, .slice tA tn tc] 68)).alloc (.cells #[.int .i64 nv, .int .i64 ng, .int .i64 nb, .int .u64 (fl : Int), .slice vA2 vn vc2, .slice gA2 gn gc2, .slice bA2 bn bc2, .slice kA2 kn kc2, .slice tA2 tn tc2] 68) = wA at *
  clear hwA
  refine (equ_true (HK1.out.below HW.out) (HK2.out.below HW.out) (by omega)).mono ?_
  rintro e w3 ⟨rfl, m1, hm1⟩
  have HD3 := Lib.hid (show Dr wA w3 from ⟨m1, hm1⟩)
  clear hm1
  have a4 : w3.cell? ⟨w.heap.size, 4, none⟩ = some (.slice vA vn vc) := (HD3.out.cell _).trans ((HB1.out.cell 4).trans rfl)
  have b4 : w3.cell? ⟨w.heap.size + 1, 4, none⟩ = some (.slice vA2 vn vc2) := (HD3.out.cell _).trans ((HB2.out.cell 4).trans rfl)
  have a5 : w3.cell? ⟨w.heap.size, 5, none⟩ = some (.slice gA gn gc) := (HD3.out.cell _).trans ((HB1.out.cell 5).trans rfl)
  have b5 : w3.cell? ⟨w.heap.size + 1, 5, none⟩ = some (.slice gA2 gn gc2) := (HD3.out.cell _).trans ((HB2.out.cell 5).trans rfl)
  have a6 : w3.cell? ⟨w.heap.size, 6, none⟩ = some (.slice bA bn bc) := (HD3.out.cell _).trans ((HB1.out.cell 6).trans rfl)
  have b6 : w3.cell? ⟨w.heap.size + 1, 6, none⟩ = some (.slice bA2 bn bc2) := (HD3.out.cell _).trans ((HB2.out.cell 6).trans rfl)
  have a8 : w3.cell? ⟨w.heap.size, 8, none⟩ = some (.slice tA tn tc) := (HD3.out.cell _).trans ((HB1.out.cell 8).trans rfl)
  have b8 : w3.cell? ⟨w.heap.size + 1, 8, none⟩ = some (.slice tA2 tn tc2) := (HD3.out.cell _).trans ((HB2.out.cell 8).trans rfl)
  go_wp2_with fail
  refine (eqm_true (HT1.out.below (HW.out.trans (HD3.out.below _))) (HT2.out.below (HW.out.trans (HD3.out.below _))) (by omega)).mono ?_
  rintro e w4 ⟨rfl, m1, hm1⟩
  have HD4 := Lib.hid (HD3.out.trans ⟨m1, hm1⟩)
  clear hm1 a4 a5 a6 a8 b4 b5 b6 b8
  have a4 : w4.cell? ⟨w.heap.size, 4, none⟩ = some (.slice vA vn vc) := (HD4.out.cell _).trans ((HB1.out.cell 4).trans rfl)
  have b4 : w4.cell? ⟨w.heap.size + 1, 4, none⟩ = some (.slice vA2 vn vc2) := (HD4.out.cell _).trans ((HB2.out.cell 4).trans rfl)
  have a5 : w4.cell? ⟨w.heap.size, 5, none⟩ = some (.slice gA gn gc) := (HD4.out.cell _).trans ((HB1.out.cell 5).trans rfl)
  have b5 : w4.cell? ⟨w.heap.size + 1, 5, none⟩ = some (.slice gA2 gn gc2) := (HD4.out.cell _).trans ((HB2.out.cell 5).trans rfl)
  have a6 : w4.cell? ⟨w.heap.size, 6, none⟩ = some (.slice bA bn bc) := (HD4.out.cell _).trans ((HB1.out.cell 6).trans rfl)
  have b6 : w4.cell? ⟨w.heap.size + 1, 6, none⟩ = some (.slice bA2 bn bc2) := (HD4.out.cell _).trans ((HB2.out.cell 6).trans rfl)
  have s1 : ((vn : Int) != (vn : Int)) = false := by simp
  have s2 : ((gn : Int) != (gn : Int)) = false := by simp
  have s3 : ((bn : Int) != (bn : Int)) = false := by simp
  go_wp2_with fail
  clear a4 a5 a6 b4 b5 b6
  go_loopw [5] (fun iv wr => ∃ k : Nat, k ≤ vn ∧ iv = .int .i64 (k : Int) ∧ Dr wA wr) (fun iv _ => vn - (intOf iv).toNat)
  case atStart => exact ⟨0, by omega, rfl, HD4.out⟩
  case round =>
    clear HD4
    obtain ⟨k, hk, rfl, hd⟩ := hrel
    have HD := Lib.hid hd
    clear hd
    have HWR := Lib.hid (HW.out.trans (HD.out.below _))
    have a4 : wr.cell? ⟨w.heap.size, 4, none⟩ = some (.slice vA vn vc) := (HD.out.cell _).trans ((HB1.out.cell 4).trans rfl)
    have b4 : wr.cell? ⟨w.heap.size + 1, 4, none⟩ = some (.slice vA2 vn vc2) := (HD.out.cell _).trans ((HB2.out.cell 4).trans rfl)
    by_cases hlt : k < vn
    · obtain ⟨bo, off, hkl, rfl, _, c0, c1, c2, hz1⟩ := (HV1.out.below HWR.out).at_ hlt
      obtain ⟨bo2, off2, hkl2, rfl, _, d0, d1, d2, hz2⟩ := (HV2.out.below HWR.out).at_ hlt
      have he := map_at HEV.out hkl hkl2
      have HZ1 := Lib.hid hz1.seg
      have HZ2 := Lib.hid hz2.seg
      have hzn := HZ6.out.1 _ (List.getElem_mem hkl)
      have hzq : v[k].n = v2[k].n := by rw [← hz1.len, ← hz2.len]; have h5 := congrArg (fun q => q.2.2) he; (try simp only [Vol.p] at h5); rw [h5]
      clear hz1 hz2
      generalize v[k] = z at *
      generalize v2[k] = z2 at *
      obtain ⟨zi, zb, zA, zn, zc, zl⟩ := z
      obtain ⟨zi2, zb2, zA2, zn2, zc2, zl2⟩ := z2
      simp only at hzq hzn c0 c1 c2 d0 d1 d2
      subst hzq
      unfold Vol.p at he
      simp only [Prod.mk.injEq] at he
      obtain ⟨rfl, rfl, rfl⟩ := he
      have i0 : (0 : Int) ≤ (k : Int) := by omega
      have i1 : (k : Int) < (vn : Int) := by omega
      have i2 : ((k : Int)).toNat = k := by omega
      have y1 : (zi == zi) = true := by simp
      have y2 : (zi != zi) = false := by simp
      have y3 : ((zb : Int) == (zb : Int)) = true := by simp
      have y4 : ((zb : Int) != (zb : Int)) = false := by simp
      have z9 : zn ≤ 100000 := by omega
      go_wp2_with fail
      go_quiet ((go_at_call 82; exact Calls.quiet_of (eqm_true (HZ1.out.below (Bdrew (Below.refl _ _) _)) (HZ2.out.below (Bdrew (Below.refl _ _) _)) z9)))
      go_wp2_with fail
      go_roundw
      case rel => exact ⟨k + 1, by omega, by go_num, HD.out.drewN _⟩
      case measure => simp [intOf]; omega
    · obtain rfl : vn = k := by omega
      have a5 : wr.cell? ⟨w.heap.size, 5, none⟩ = some (.slice gA gn gc) := (HD.out.cell _).trans ((HB1.out.cell 5).trans rfl)
      have b5 : wr.cell? ⟨w.heap.size + 1, 5, none⟩ = some (.slice gA2 gn gc2) := (HD.out.cell _).trans ((HB2.out.cell 5).trans rfl)
      go_wp2_with fail
      clear hlt hk HWR
      have HDx := HD
      clear HD
      generalize wr = w5 at *
      go_loopw [6] (fun iv wr => ∃ k : Nat, k ≤ gn ∧ iv = .int .i64 (k : Int) ∧ Dr wA wr) (fun iv _ => gn - (intOf iv).toNat)
      case atStart => exact ⟨0, by omega, rfl, HDx.out⟩
      case round =>
        clear HDx
        obtain ⟨k, hk, rfl, hd⟩ := hrel
        have HD := Lib.hid hd
        clear hd
        have HWR := Lib.hid (HW.out.trans (HD.out.below _))
        have a5 : wr.cell? ⟨w.heap.size, 5, none⟩ = some (.slice gA gn gc) := (HD.out.cell _).trans ((HB1.out.cell 5).trans rfl)
        have b5 : wr.cell? ⟨w.heap.size + 1, 5, none⟩ = some (.slice gA2 gn gc2) := (HD.out.cell _).trans ((HB2.out.cell 5).trans rfl)
        by_cases hlt : k < gn
        · obtain ⟨bo, off, hkl, rfl, _, c0, c1, hz1⟩ := (HG1.out.below HWR.out).at_ hlt
          obtain ⟨bo2, off2, hkl2, rfl, _, d0, d1, hz2⟩ := (HG2.out.below HWR.out).at_ hlt
          have he := map_at HEG.out hkl hkl2
          have HZ1 := Lib.hid hz1.seg.1
          have HZ2 := Lib.hid hz2.seg.1
          have hzn := HZ6.out.2.1 _ (List.getElem_mem hkl)
          have hzq : g[k].n = g2[k].n := by rw [← hz1.len, ← hz2.len]; have h5 := congrArg (fun q => q.2) he; (try simp only [Grp.p] at h5); rw [h5]
          clear hz1 hz2
          generalize g[k] = z at *
          generalize g2[k] = z2 at *
          obtain ⟨zi, zA, zn, zc, zl⟩ := z
          obtain ⟨zi2, zA2, zn2, zc2, zl2⟩ := z2
          simp only at hzq hzn c0 c1 d0 d1
          subst hzq
          unfold Grp.p at he
          simp only [Prod.mk.injEq] at he
          obtain ⟨rfl, rfl⟩ := he
          have i0 : (0 : Int) ≤ (k : Int) := by omega
          have i1 : (k : Int) < (gn : Int) := by omega
          have i2 : ((k : Int)).toNat = k := by omega
          have y1 : (zi == zi) = true := by simp
          have y2 : (zi != zi) = false := by simp
          have z9 : zn ≤ 100000 := by omega
          go_wp2_with fail
          go_quiet ((go_at_call 54; exact Calls.quiet_of (eqi_true (HZ1.out.below (Bdrew (Below.refl _ _) _)) (HZ2.out.below (Bdrew (Below.refl _ _) _)) z9)))
          go_wp2_with fail
          go_roundw
          case rel => exact ⟨k + 1, by omega, by go_num, HD.out.drewN _⟩
          case measure => simp [intOf]; omega
        · obtain rfl : gn = k := by omega
          have a6 : wr.cell? ⟨w.heap.size, 6, none⟩ = some (.slice bA bn bc) := (HD.out.cell _).trans ((HB1.out.cell 6).trans rfl)
          have b6 : wr.cell? ⟨w.heap.size + 1, 6, none⟩ = some (.slice bA2 bn bc2) := (HD.out.cell _).trans ((HB2.out.cell 6).trans rfl)
          go_wp2_with fail
          clear hlt hk HWR
          have HDy := HD
          clear HD
          generalize wr = w6 at *
          go_loopw [7] (fun iv wr => ∃ k : Nat, k ≤ bn ∧ iv = .int .i64 (k : Int) ∧ Dr wA wr) (fun iv _ => bn - (intOf iv).toNat)
          case atStart => exact ⟨0, by omega, rfl, HDy.out⟩
          case round =>
            clear HDy
            obtain ⟨k, hk, rfl, hd⟩ := hrel
            have HD := Lib.hid hd
            clear hd
            have HWR := Lib.hid (HW.out.trans (HD.out.below _))
            have a6 : wr.cell? ⟨w.heap.size, 6, none⟩ = some (.slice bA bn bc) := (HD.out.cell _).trans ((HB1.out.cell 6).trans rfl)
            have b6 : wr.cell? ⟨w.heap.size + 1, 6, none⟩ = some (.slice bA2 bn bc2) := (HD.out.cell _).trans ((HB2.out.cell 6).trans rfl)
            by_cases hlt : k < bn
            · obtain ⟨bo, off, hkl, rfl, _, c0, c1, c2, hz1⟩ := (HBB1.out.below HWR.out).at_ hlt
              obtain ⟨bo2, off2, hkl2, rfl, _, d0, d1, d2, hz2⟩ := (HBB2.out.below HWR.out).at_ hlt
              have he := map_at HEB.out hkl hkl2
              have HZ1 := Lib.hid hz1.seg.1
              have HZ2 := Lib.hid hz2.seg.1
              have hzn := HZ6.out.2.2 _ (List.getElem_mem hkl)
              have hzq : b[k].n = b2[k].n := by rw [← hz1.len, ← hz2.len]; have h5 := congrArg (fun q => q.2.2) he; (try simp only [Bk.p] at h5); rw [h5]
              clear hz1 hz2
              generalize b[k] = z at *
              generalize b2[k] = z2 at *
              obtain ⟨zi, zb, zA, zn, zc, zl⟩ := z
              obtain ⟨zi2, zb2, zA2, zn2, zc2, zl2⟩ := z2
              simp only at hzq hzn c0 c1 c2 d0 d1 d2
              subst hzq
              unfold Bk.p at he
              simp only [Prod.mk.injEq] at he
              obtain ⟨rfl, rfl, rfl⟩ := he
              have i0 : (0 : Int) ≤ (k : Int) := by omega
              have i1 : (k : Int) < (bn : Int) := by omega
              have i2 : ((k : Int)).toNat = k := by omega
              have y1 : (zi == zi) = true := by simp
              have y2 : (zi != zi) = false := by simp
              have y3 : ((zb : Int) == (zb : Int)) = true := by simp
              have y4 : ((zb : Int) != (zb : Int)) = false := by simp
              have z9 : zn ≤ 100000 := by omega
              go_wp2_with fail
              go_quiet ((go_at_call 54; exact Calls.quiet_of (eqi_true (HZ1.out.below (Bdrew (Below.refl _ _) _)) (HZ2.out.below (Bdrew (Below.refl _ _) _)) z9)))
              go_wp2_with fail
              go_roundw
              case rel => exact ⟨k + 1, by omega, by go_num, HD.out.drewN _⟩
              case measure => simp [intOf]; omega
            · obtain rfl : bn = k := by omega
              go_wp2_with fail
              go_ret
              exact ⟨rfl, HWR.out⟩
end Go.Proofs.Ytaagfmaboggbhaa.cat
