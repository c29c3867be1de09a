/-
  The walk of the law's alive.
-/
import Derived.Test.YtaagfmaboggbhaaCatAlive
namespace Go.Proofs.Ytaagfmaboggbhaa.cat
open Go.RowKit
set_option linter.unusedVariables false
open fix (endC leB leB_len)

theorem made19 (w : World) : Seg (w.alloc (.cells (made (.int .u8 0) 19) 5)) (w.heap.size + 1) (some ⟨w.heap.size, 0, none⟩) 19 (bts (List.replicate 19 0)) := by
  rw [bts_rep]; exact Seg.made w (.int .u8 0) 19 5
set_option maxRecDepth 100000 in
set_option maxHeartbeats 6400000 in
/-- The chapter's example. -/
theorem alive_true (w : World) : Calls Try.prog 41 #[] w fun e w' => e = .returned (.bool true) ∧ Below w.heap.size w w' := by
  have hp := put_yes (zero_ok w w.heap.size) zero_right
  rw [zero_put] at hp
  have HP := Lib.hid hp
  clear hp
  have hmk : ∀ W : World, (Instr.makeSlice 22 (.int .i64 19) (.int .i64 19)).run Try.prog W = .ok (.slice (some ⟨W.heap.size, 0, none⟩) 19 19) (W.alloc (.cells (made (.int .u8 0) 19) 5)) := fun W => run_mk elemB rfl 19 (by decide) (by decide) W
  go_enter Try.func41, Try.ntmps41
  go_wp2_with fail
  refine (HP.out).mono ?_
  rintro e w1 ⟨A, n, c', rfl, hn, hown, hb⟩
  have hn2 : n = 19 := hn
  subst hn2
  have HO := Lib.hid hown
  have HB1 := Lib.hid hb
  have HS1 := Lib.hid ((made19 w1).more (show w1.heap.size + 1 ≤ (w1.alloc (.cells (made (.int .u8 0) 19) 5)).heap.size by simp))
  have HBA := Lib.hid (hb.alloc hb.size (.cells (made (.int .u8 0) 19) 5))
  clear hn hown hb
  go_wp2_with fail
  refine (get_any HS1.out (IsB.rep 19) (Nat.le_refl _) (by unfold maxLen; decide) (by decide)).mono ?_
  rintro e w2 hg
  rw [← zero_put] at hg
  obtain ⟨c, rfl, hc, hpl, hsh, hb2⟩ := get_back (zero_ok w 0) zero_right hg
  have HB2 := Lib.hid (nextB HBA.out (Nat.le_refl _) hb2)
  have HO2 := Lib.hid ((HO.out.alloc (.cells (made (.int .u8 0) 19) 5)).below hb2)
  have HC2 := Lib.hid hc
  have HSAME := Lib.hid (same_plain hpl)
  have HR := Lib.hid ((right_same hpl).2 zero_right)
  have HLEN := Lib.hid (show (putC c).length = 19 by rw [putC_p, hpl, ← putC_p, zero_put]; rfl)
  have HSH := Lib.hid hsh
  clear hg hc hpl hsh hb2 HP HS1 HBA HO HB1
  obtain ⟨nv, ng, nb, fl, vA, vn, vc, v, gA, gn, gc, g, bA, bn, bc, b, kA, kn, kc, kl, tA, tn, tc, t⟩ := c
  have HX := Lib.hid ((Box.new w2 #[.int .i64 nv, .int .i64 ng, .int .i64 nb, .int .u64 (fl : Int), .slice vA vn vc, .slice gA gn gc, .slice bA bn bc, .slice kA kn kc, .slice tA tn tc] 68).alloc (.cells (made (.int .u8 0) 19) 5))
  have hsz3 : ((w2.alloc (.cells #[.int .i64 nv, .int .i64 ng, .int .i64 nb, .int .u64 (fl : Int), .slice vA vn vc, .slice gA gn gc, .slice bA bn bc, .slice kA kn kc, .slice tA tn tc] 68)).alloc (.cells (made (.int .u8 0) 19) 5)).heap.size = w2.heap.size + 1 + 1 := by simp
  have HSZ3 := Lib.hid hsz3
  clear hsz3
  have HM2 := Lib.hid (show Seg ((w2.alloc (.cells #[.int .i64 nv, .int .i64 ng, .int .i64 nb, .int .u64 (fl : Int), .slice vA vn vc, .slice gA gn gc, .slice bA bn bc, .slice kA kn kc, .slice tA tn tc] 68)).alloc (.cells (made (.int .u8 0) 19) 5)) (w2.heap.size + 1 + 1) (some ⟨w2.heap.size + 1, 0, none⟩) 19 (bts (List.replicate 19 0)) by
    have h9 := made19 (w2.alloc (.cells #[.int .i64 nv, .int .i64 ng, .int .i64 nb, .int .u64 (fl : Int), .slice vA vn vc, .slice gA gn gc, .slice bA bn bc, .slice kA kn kc, .slice tA tn tc] 68))
    rw [show (w2.alloc (.cells #[.int .i64 nv, .int .i64 ng, .int .i64 nb, .int .u64 (fl : Int), .slice vA vn vc, .slice gA gn gc, .slice bA bn bc, .slice kA kn kc, .slice tA tn tc] 68)).heap.size = w2.heap.size + 1 by simp] at h9
    exact h9)
  have HB3 := Lib.hid ((HB2.out.alloc HB2.out.size (.cells #[.int .i64 nv, .int .i64 ng, .int .i64 nb, .int .u64 (fl : Int), .slice vA vn vc, .slice gA gn gc, .slice bA bn bc, .slice kA kn kc, .slice tA tn tc] 68)).alloc (Nat.le_trans HB2.out.size (by simp)) (.cells (made (.int .u8 0) 19) 5))
  have HO3 := Lib.hid ((HO2.out.alloc (.cells #[.int .i64 nv, .int .i64 ng, .int .i64 nb, .int .u64 (fl : Int), .slice vA vn vc, .slice gA gn gc, .slice bA bn bc, .slice kA kn kc, .slice tA tn tc] 68)).alloc (.cells (made (.int .u8 0) 19) 5))
  have HC3 := Lib.hid (((HC2.out.below ((Below.refl _ _).alloc (Nat.le_refl _) (.cells #[.int .i64 nv, .int .i64 ng, .int .i64 nb, .int .u64 (fl : Int), .slice vA vn vc, .slice gA gn gc, .slice bA bn bc, .slice kA kn kc, .slice tA tn tc] 68))).below ((Below.refl _ _).alloc (show w2.heap.size ≤ (w2.alloc (.cells #[.int .i64 nv, .int .i64 ng, .int .i64 nb, .int .u64 (fl : Int), .slice vA vn vc, .slice gA gn gc, .slice bA bn bc, .slice kA kn kc, .slice tA tn tc] 68)).heap.size by simp) (.cells (made (.int .u8 0) 19) 5))).more (show w2.heap.size ≤ ((w2.alloc (.cells #[.int .i64 nv, .int .i64 ng, .int .i64 nb, .int .u64 (fl : Int), .slice vA vn vc, .slice gA gn gc, .slice bA bn bc, .slice kA kn kc, .slice tA tn tc] 68)).alloc (.cells (made (.int .u8 0) 19) 5)).heap.size by simp; omega))
  unfold Cat.val Cat.cells
  go_wp2_with fail
  generalize hwx : (w2.alloc (.cells #[.int .i64 nv, .int .i64 ng, .int .i64 nb, .int .u64 (fl : Int), .slice vA vn vc, .slice gA gn gc, .slice bA bn bc, .slice kA kn kc, .slice tA tn tc] 68)).alloc (.cells (made (.int .u8 0) 19) 5) = w3 at *
  clear hwx
  refine (equal_any c' 19 HO3.out.seg HM2.out (IsB.rep 19) (IsB.rep 19)).mono ?_
  rintro e w4 ⟨rfl, rfl⟩
  rw [decide_eq_true rfl]
  have k0 : w3.cell? ⟨w2.heap.size, 0, none⟩ = some (.int .i64 nv) := (HX.out.cell 0).trans rfl
  have k1 : w3.cell? ⟨w2.heap.size, 1, none⟩ = some (.int .i64 ng) := (HX.out.cell 1).trans rfl
  have k2 : w3.cell? ⟨w2.heap.size, 2, none⟩ = some (.int .i64 nb) := (HX.out.cell 2).trans rfl
  have k3 : w3.cell? ⟨w2.heap.size, 3, none⟩ = some (.int .u64 (fl : Int)) := (HX.out.cell 3).trans rfl
  have k4 : w3.cell? ⟨w2.heap.size, 4, none⟩ = some (.slice vA vn vc) := (HX.out.cell 4).trans rfl
  have k5 : w3.cell? ⟨w2.heap.size, 5, none⟩ = some (.slice gA gn gc) := (HX.out.cell 5).trans rfl
  have k6 : w3.cell? ⟨w2.heap.size, 6, none⟩ = some (.slice bA bn bc) := (HX.out.cell 6).trans rfl
  have k7 : w3.cell? ⟨w2.heap.size, 7, none⟩ = some (.slice kA kn kc) := (HX.out.cell 7).trans rfl
  have k8 : w3.cell? ⟨w2.heap.size, 8, none⟩ = some (.slice tA tn tc) := (HX.out.cell 8).trans rfl
  go_wp2_with fail
  refine (same_true HC3.out (zero_ok w3 _) HSAME.out HSH.out).mono ?_
  rintro e w5 ⟨rfl, hb⟩
  have HC5 := Lib.hid ((HC3.out.below hb).more hb.size)
  have HX5 := Lib.hid (HX.out.below hb HX.out.lt)
  have HB5 := Lib.hid (nextB HB3.out (Nat.le_refl _) hb)
  clear hb k0 k1 k2 k3 k4 k5 k6 k7 k8
  have k0 : w5.cell? ⟨w2.heap.size, 0, none⟩ = some (.int .i64 nv) := (HX5.out.cell 0).trans rfl
  have k1 : w5.cell? ⟨w2.heap.size, 1, none⟩ = some (.int .i64 ng) := (HX5.out.cell 1).trans rfl
  have k2 : w5.cell? ⟨w2.heap.size, 2, none⟩ = some (.int .i64 nb) := (HX5.out.cell 2).trans rfl
  have k3 : w5.cell? ⟨w2.heap.size, 3, none⟩ = some (.int .u64 (fl : Int)) := (HX5.out.cell 3).trans rfl
  have k4 : w5.cell? ⟨w2.heap.size, 4, none⟩ = some (.slice vA vn vc) := (HX5.out.cell 4).trans rfl
  have k5 : w5.cell? ⟨w2.heap.size, 5, none⟩ = some (.slice gA gn gc) := (HX5.out.cell 5).trans rfl
  have k6 : w5.cell? ⟨w2.heap.size, 6, none⟩ = some (.slice bA bn bc) := (HX5.out.cell 6).trans rfl
  have k7 : w5.cell? ⟨w2.heap.size, 7, none⟩ = some (.slice kA kn kc) := (HX5.out.cell 7).trans rfl
  have k8 : w5.cell? ⟨w2.heap.size, 8, none⟩ = some (.slice tA tn tc) := (HX5.out.cell 8).trans rfl
  go_wp2_with fail
  have hsz := size_yes HC5.out HR.out
  rw [HLEN.out] at hsz
  refine hsz.mono ?_
  rintro e w6 ⟨rfl, hb⟩
  have HB6 := Lib.hid (nextB HB5.out (Nat.le_refl _) hb)
  clear hb hsz
  go_wp2_with fail
  go_ret
  exact ⟨rfl, HB6.out⟩
end Go.Proofs.Ytaagfmaboggbhaa.cat
