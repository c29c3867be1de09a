/-
  The walks of catalog.vols and catalog.marks.
-/
import Derived.Test.YtaagfmaboggbhaaCatMem
namespace Go.Proofs.Ytaagfmaboggbhaa.cat
open Go.RowKit
set_option linter.unusedVariables false

theorem elemI : Elem Try.prog 85 3 (.int .i64 0) 8 := Elem.of Try.underlying85 (by kernel_rfl) rfl
theorem one_int (x : Int) : ∀ u ∈ [Value.int .i64 x], u.oneCell' = true := by
  intro u hu
  obtain rfl : u = .int .i64 x := by simpa using hu
  rfl
theorem ids_snoc {α : Type} (f : α → Int) (L : List α) {k : Nat} (h : k < L.length) : nums ((L.take (k + 1)).map f) = nums ((L.take k).map f) ++ [.int .i64 (f L[k])] := by
  rw [List.take_succ_eq_append_getElem h, List.map_append]; simp [nums]
theorem one2 (w : World) (o : Obj) (v : Value) (t : TypeId) : Seg ((w.alloc o).alloc (.cells #[v] t)) (w.heap.size + 1 + 1) (some ⟨w.heap.size + 1, 0, none⟩) 1 [v] := by
  have := Seg.one (w.alloc o) v t
  simpa using this
theorem keptB {W w1 : World} {g base n c : Nat} {e t : TypeId} {cs : Array Value} {A : Option Addr} {xs : List Value} (hb : Box W g t cs) (ho : Own W base e A n c xs) (hne : e ≠ t) (hg : W.grownBy w1 (blk A)) : Box w1 g t cs := hb.grown hg (hb.own_ne ho hne)
theorem mem_upto {α : Type} (p : α → Prop) (L : List α) (h : ∀ j (hj : j < L.length), p L[j]) : ∀ z ∈ L, p z := fun z hz => by
  obtain ⟨j, hj, rfl⟩ := List.mem_iff_getElem.1 hz
  exact h j hj

set_option maxRecDepth 100000 in
set_option maxHeartbeats 3200000 in
theorem vols_any {w : World} {c : Cat} (h : CatOk w w.heap.size c) (hs : c.Short) :
    Calls Try.prog 63 #[c.val] w fun e w' => Says e (VolsOk c) ∧ Below w.heap.size w w' := by
  have hv := h.v
  have hvn := hs.1
  have hvs := hs.2.2.2.2.2.1
  have HOK := Lib.hid (show VolsOk c ↔ ((∀ z ∈ c.v, SizesOk z.l) ∧ Rise (c.v.map Vol.id) c.nv ∧ c.v.length ≤ 8) from Iff.rfl)
  clear h hs
  obtain ⟨nv, ng, nb, fl, vA, vn, vc, v, gA, gn, gc, g, bA, bn, bc, b, kA, kn, kc, kl, tA, tn, tc, t⟩ := c
  simp only at hv hvn hvs
  generalize hVO : VolsOk _ = VO at *
  clear hVO
  have HV := Lib.hid hv
  have HL := Lib.hid hv.len
  have HVS := Lib.hid hvs
  have HW0 := Lib.hid ((Below.refl w.heap.size w).alloc (Nat.le_refl _) (.cells #[.int .i64 nv, .int .i64 ng, .int .i64 nb, .int .u64 (fl : Int), .slice vA vn vc, .slice gA gn gc, .slice bA bn bc, .slice kA kn kc, .slice tA tn tc] 68))
  have HB0 := Lib.hid (Box.new w #[.int .i64 nv, .int .i64 ng, .int .i64 nb, .int .u64 (fl : Int), .slice vA vn vc, .slice gA gn gc, .slice bA bn bc, .slice kA kn kc, .slice tA tn tc] 68)
  clear hv hvs
  unfold Cat.val Cat.cells
  go_enter Try.func63, Try.ntmps63
  go_wp2_with fail
  have HS0 := Lib.hid (show (w.alloc (.cells #[.int .i64 nv, .int .i64 ng, .int .i64 nb, .int .u64 (fl : Int), .slice vA vn vc, .slice gA gn gc, .slice bA bn bc, .slice kA kn kc, .slice tA tn tc] 68)).heap.size = w.heap.size + 1 by simp)
  go_loopw [3, 9] (fun ov iv wr => ∃ k : Nat, ∃ A1 c1, k ≤ vn ∧ iv = .int .i64 (k : Int) ∧ ov = .slice A1 k c1 ∧ Own wr (w.heap.size + 1) 3 A1 k c1 (nums ((v.take k).map Vol.id)) ∧ Box wr w.heap.size 68 #[.int .i64 nv, .int .i64 ng, .int .i64 nb, .int .u64 (fl : Int), .slice vA vn vc, .slice gA gn gc, .slice bA bn bc, .slice kA kn kc, .slice tA tn tc] ∧ (∀ j (hj : j < v.length), j < k → SizesOk v[j].l) ∧ Below w.heap.size w wr ∧ w.heap.size + 1 ≤ wr.heap.size) (fun _ iv _ => vn - (intOf iv).toNat)
  case atStart => exact ⟨0, none, 0, by omega, rfl, rfl, by simpa [nums] using Own.nil _ _ _, HB0.out, (fun j hj h => absurd h (Nat.not_lt_zero _)), HW0.out, by rw [HS0.out]; exact Nat.le_refl _⟩
  case round =>
    obtain ⟨k, A1, c1, hk, rfl, rfl, hown, hbx, hso, hbel, hsz⟩ := hrel
    have HO := Lib.hid hown
    have HX := Lib.hid hbx
    have HZ := Lib.hid hso
    have HW := Lib.hid hbel
    clear hown hbx hso hbel HW0 HB0 HS0
    by_cases hlt : k < vn
    · obtain ⟨b0, off, hkl, rfl, hbb, c0, c1', c2', hz⟩ := (HV.out.below HW.out).at_ hlt
      have HZW := Lib.hid ((HV.out.ok _ (List.getElem_mem hkl)).seg)
      have HSN := Lib.hid (ids_snoc Vol.id v hkl)
      have HNO := Lib.hid (show ¬ SizesOk v[k].l → ¬ VO from fun h e => h ((HOK.out.1 e).1 _ (List.getElem_mem hkl)))
      have HYES := Lib.hid (show SizesOk v[k].l → ∀ j (hj : j < v.length), j < k + 1 → SizesOk v[j].l from fun h j hj h2 => by
        by_cases e : j = k
        · subst e; exact h
        · exact HZ.out j hj (by omega))
      have hzn := HVS.out _ (List.getElem_mem hkl)
      clear hz
      have i0 : (0 : Int) ≤ (k : Int) := by omega
      have i1 : (k : Int) < (vn : Int) := by omega
      have i2 : ((k : Int)).toNat = k := by omega
      generalize v[k] = z at *
      obtain ⟨zi, zb, zA, zn, zc, zl⟩ := z
      simp only at c0 c1' c2' hzn
      go_wp2_with ((at_builtin; (refine wpList_app _ rfl (.tmp 13) (.tmp 16) elemI rfl (w.heap.size + 1) rfl ((HO.out.alloc _).alloc _) _ rfl (one2 wr _ _ _) (one_int _) (by unfold maxLen; omega) (by omega) (by simp; try omega) ?_; intro A2 c2 w1 hown1 hg1 hat1; have HO2 := Lib.hid hown1; have HG2 := Lib.hid hg1; have hm2 : w1.cell? ⟨wr.heap.size, 2, none⟩ = some (.slice zA zn zc) := ((keptB ((Box.new wr #[.int .i64 zi, .int .u64 (zb : Int), .slice zA zn zc] 92).alloc (.cells #[.int .i64 zi] 3)) ((HO.out.alloc (.cells #[.int .i64 zi, .int .u64 (zb : Int), .slice zA zn zc] 92)).alloc (.cells #[.int .i64 zi] 3)) (by decide) hg1).cell 2).trans rfl; clear hown1 hg1 hat1)))
      have HW1 := Lib.hid (below_app ((HW.out.alloc HW.out.size (.cells #[.int .i64 zi, .int .u64 (zb : Int), .slice zA zn zc] 92)).alloc (by simp; omega) (.cells #[.int .i64 zi] 3)) (Nat.le_succ _) (by simp; omega) ((HO.out.alloc (.cells #[.int .i64 zi, .int .u64 (zb : Int), .slice zA zn zc] 92)).alloc (.cells #[.int .i64 zi] 3)) HG2.out)
      have HX1 := Lib.hid (keptB ((HX.out.alloc (.cells #[.int .i64 zi, .int .u64 (zb : Int), .slice zA zn zc] 92)).alloc (.cells #[.int .i64 zi] 3)) ((HO.out.alloc (.cells #[.int .i64 zi, .int .u64 (zb : Int), .slice zA zn zc] 92)).alloc (.cells #[.int .i64 zi] 3)) (by decide) HG2.out)
      have hsz1 : w.heap.size + 1 ≤ w1.heap.size := Nat.le_trans (by simp; omega) HG2.out.size
      have HMZ := Lib.hid (show MkSeg w1 w1.heap.size zA zn zl from (HZW.out.below HW1.out).more (by omega))
      refine (sizes_any HMZ.out (by omega)).mono ?_
      rintro e w2 ⟨hsay, hb2⟩
      obtain ⟨bb, rfl, hsay⟩ := hsay
      have HSAY := Lib.hid hsay
      have HB2 := Lib.hid (nextB HW1.out (Nat.le_refl _) hb2)
      have HO3 := Lib.hid (HO2.out.below hb2)
      have HX2 := Lib.hid (HX1.out.below hb2 HX1.out.lt)
      have hsz2 : w.heap.size + 1 ≤ w2.heap.size := Nat.le_trans hsz1 hb2.size
      clear hsay hb2
      cases bb with
      | false =>
        go_wp2_with fail
        go_ret
        exact ⟨says_no (HNO.out (fun h => by have := HSAY.out.2 h; cases this)), HB2.out⟩
      | true =>
        go_wp2_with fail
        go_roundw
        case rel => exact ⟨k + 1, A2, c2, by omega, by go_num, rfl, by rw [HSN.out]; exact HO3.out, HX2.out, HYES.out (HSAY.out.1 (by first | rfl | trivial)), HB2.out, hsz2⟩
        case measure => simp [intOf]; omega
    · obtain rfl : k = vn := by omega
      have e1 : v.take k = v := List.take_of_length_le (by rw [HL.out]; omega)
      rw [e1] at HO
      have HALL := Lib.hid (mem_upto (fun z => SizesOk z.l) v (fun j hj => HZ.out j hj (by have := HL.out; omega)))
      clear e1
      have m0 := (HX.out.cell 0).trans rfl
      go_wp2_with fail
      refine (rising_any HO.out.seg nv (by omega)).mono ?_
      rintro e w2 ⟨hsay, rfl⟩
      obtain ⟨bb, rfl, hsay⟩ := hsay
      have HSAY := Lib.hid hsay
      clear hsay
      cases bb with
      | false =>
        go_wp2_with fail
        go_ret
        exact ⟨says_no (fun h => by have := HSAY.out.2 ((HOK.out.1 h).2.1); cases this), HW.out⟩
      | true =>
        go_wp2_with fail
        go_ret
        exact ⟨says_iff (by rw [HOK.out]; simp; exact ⟨fun h => ⟨HALL.out, HSAY.out.1 (by first | rfl | trivial), by have := HL.out; omega⟩, fun h => by have := HL.out; have := h.2.2; omega⟩), HW.out⟩
end Go.Proofs.Ytaagfmaboggbhaa.cat
