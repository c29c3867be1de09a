/-
  The walk of the law's told.
-/
import Derived.Test.YtaagfmaboggbhaaBitMore
import Derived.StillTailTactics
namespace Go.Proofs.Ytaagfmaboggbhaa.bit
open Go.RowKit
set_option linter.unusedVariables false

theorem elemI : Elem Try.prog 85 3 (.int .i64 0) 8 := Elem.of Try.underlying85 (by kernel_rfl) rfl
def valF : Option Nat → Int | some i => i | none => 0
def okF : Option Nat → Bool | some _ => true | none => false
theorem encF_eq (r : Option Nat) : encF r = .tuple #[.int .i64 (valF r), .bool (okF r)] := by cases r <;> rfl
/-- What a search for so many tells, whatever number is asked for. -/
def LF (f : Nat → Bool) (n lo : Nat) (many : Int) (r : Option Nat) : Prop := (many < 1 ∧ r = none) ∨ ∃ k : Nat, many = (k : Int) ∧ 0 < k ∧ IsFree f n lo k r
theorem LF.uniq {f g : Nat → Bool} {n lo : Nat} {many : Int} {r r' : Option Nat} (h : LF f n lo many r) (h' : LF g n lo many r') (he : ∀ i, i < n → f i = g i) : r = r' := by
  rcases h with ⟨h1, rfl⟩ | ⟨k, rfl, hk, hf⟩
  · rcases h' with ⟨_, rfl⟩ | ⟨k', h2, hk', _⟩
    · rfl
    · omega
  · rcases h' with ⟨h2, _⟩ | ⟨k', h2, hk', hf'⟩
    · omega
    · obtain rfl : k' = k := by omega
      exact (hf.congr he).uniq hf'
theorem run_any {w : World} {g r n : Nat} {l : List Nat} (h : IsMap w g r n l) (q : Int) (a1 : q ≤ 9223372036854775807) :
    Calls Try.prog 53 #[.pointer (some ⟨g, 0, none⟩), .int .i64 q] w fun e w' => (∃ r, LF (bitAt l) n 0 q r ∧ e = .returned (.tuple #[.int .i64 (valF r), .bool (okF r)])) ∧ w = w' := by
  by_cases hq : q < 1
  · exact (run_none h q hq).mono fun e w' ⟨he, hw⟩ => ⟨⟨none, .inl ⟨hq, rfl⟩, he⟩, hw⟩
  · obtain ⟨k, rfl⟩ := Int.eq_ofNat_of_zero_le (by omega : 0 ≤ q)
    exact (run_some h k (by omega) a1).mono fun e w' ⟨⟨r, hr, he⟩, hw⟩ => ⟨⟨r, .inr ⟨k, rfl, by omega, hr⟩, by rw [← encF_eq]; exact he⟩, hw⟩
theorem free2_any {w : World} {g r n : Nat} {l : List Nat} (h : IsMap w g r n l) (q : Int) (a1 : q ≤ 9223372036854775807) :
    Calls Try.prog 51 #[.pointer (some ⟨g, 0, none⟩), .int .i64 q] w fun e w' => (∃ r, LF (bitAt l) n q.toNat 1 r ∧ e = .returned (.tuple #[.int .i64 (valF r), .bool (okF r)])) ∧ w = w' :=
  (free_any h q a1).mono fun e w' ⟨⟨r, hr, he⟩, hw⟩ => ⟨⟨r, .inr ⟨1, rfl, by omega, hr⟩, by rw [← encF_eq]; exact he⟩, hw⟩
theorem lfree_any {w : World} {A : Option Addr} {B n c : Nat} {F : List Bool} (h : Seg w B A n (bls F)) (from_ many : Int) (hf : from_ ≤ 9223372036854775807) (hn : n ≤ 100000) :
    Calls Try.prog 52 #[.slice A n c, .int .i64 from_, .int .i64 many] w fun e w' => (∃ r, LF (fL F) n from_.toNat many r ∧ e = .returned (.tuple #[.int .i64 (valF r), .bool (okF r)])) ∧ w = w' := by
  by_cases h1 : many < 1
  · exact (lfree_out from_ many (.inl h1) hf hn).mono fun e w' ⟨he, hw⟩ => ⟨⟨none, .inl ⟨h1, rfl⟩, he⟩, hw⟩
  · obtain ⟨k, rfl⟩ := Int.eq_ofNat_of_zero_le (by omega : 0 ≤ many)
    by_cases h2 : (n : Int) < (k : Int)
    · exact (lfree_out from_ k (.inr h2) hf hn).mono fun e w' ⟨he, hw⟩ => ⟨⟨none, .inr ⟨k, rfl, by omega, fun s _ hs => by omega⟩, he⟩, hw⟩
    · obtain ⟨b, off, rfl, _, _⟩ := h.2 (by omega)
      exact (lfree_some h from_ k (by omega) (by omega) hf hn).mono fun e w' ⟨⟨r, hr, he⟩, hw⟩ => ⟨⟨r, .inr ⟨k, rfl, by omega, hr⟩, by rw [← encF_eq]; exact he⟩, hw⟩

theorem byte_sum : ∀ x < 256, x = x / 1 % 2 + x / 2 % 2 * 2 + x / 4 % 2 * 4 + x / 8 % 2 * 8 + x / 16 % 2 * 16 + x / 32 % 2 * 32 + x / 64 % 2 * 64 + x / 128 % 2 * 128 := by decide +kernel
/-- Bytes are their bits. -/
theorem bits_ext {l m : List Nat} (hl : IsB l) (hm : IsB m) (hlen : l.length = m.length) (h : ∀ i, bitAt l i = bitAt m i) : l = m := by
  apply List.ext_getElem hlen
  intro j h1 h2
  have x1 := hl.at_ h1
  have x2 := hm.at_ h2
  have e1 : l.getD j 0 = l[j] := by rw [List.getD_eq_getElem?_getD, List.getElem?_eq_getElem h1]; rfl
  have e2 : m.getD j 0 = m[j] := by rw [List.getD_eq_getElem?_getD, List.getElem?_eq_getElem h2]; rfl
  have key : ∀ r, r < 8 → l[j] / 2 ^ r % 2 = m[j] / 2 ^ r % 2 := fun r hr => by
    have := h (8 * j + r)
    unfold bitAt at this
    rw [show (8 * j + r) / 8 = j by omega, show (8 * j + r) % 8 = r by omega, e1, e2] at this
    have c1 : l[j] / 2 ^ r % 2 = 0 ∨ l[j] / 2 ^ r % 2 = 1 := by omega
    have c2 : m[j] / 2 ^ r % 2 = 0 ∨ m[j] / 2 ^ r % 2 = 1 := by omega
    rcases c1 with c1 | c1 <;> rcases c2 with c2 | c2 <;> rw [c1, c2] at this ⊢ <;> cases this
  have k0 := key 0 (by omega); have k1 := key 1 (by omega); have k2 := key 2 (by omega); have k3 := key 3 (by omega)
  have k4 := key 4 (by omega); have k5 := key 5 (by omega); have k6 := key 6 (by omega); have k7 := key 7 (by omega)
  simp only [Nat.pow_zero, Nat.reducePow] at k0 k1 k2 k3 k4 k5 k6 k7
  rw [byte_sum _ x1, byte_sum _ x2, k0, k1, k2, k3, k4, k5, k6, k7]
theorem bitAt_rep (m i : Nat) : bitAt (List.replicate m 0) i = false := by
  unfold bitAt
  have : (List.replicate m 0).getD (i / 8) 0 = 0 := by
    rw [List.getD_eq_getElem?_getD, List.getElem?_replicate]; split <;> rfl
  rw [this]; simp
theorem add_bit (x i : Nat) (hx : x < 256) (hb : x / 2 ^ (i % 8) % 2 = 0) : IntKind.u8.wrap ((x : Int) + IntKind.u8.wrap (2 ^ ((i : Int) % 8).toNat)) = ((x + 2 ^ (i % 8) : Nat) : Int) := by
  have hr : i % 8 < 8 := Nat.mod_lt _ (by decide)
  have h1 : 2 ^ (i % 8) < 256 := Nat.pow_lt_pow_of_lt (a := 2) (by decide) hr
  have h2 := (set_bits (i % 8) hr x hx hb).2.1
  rw [show ((i : Int) % 8).toNat = i % 8 by omega, show ((2 : Int) ^ (i % 8)) = ((2 ^ (i % 8) : Nat) : Int) by simp]
  generalize 2 ^ (i % 8) = p at *
  rw [IntWalk.u8_in (p : Int) (by omega), IntWalk.u8_in _ (by omega)]
  simp
theorem one_int (x : Int) : ∀ u ∈ [Value.int .i64 x], u.oneCell' = true := by
  intro u hu
  obtain rfl : u = .int .i64 x := by simpa using hu
  rfl
theorem ints_snoc (l : List Nat) (k : Nat) : ints (l ++ [k]) = ints l ++ [.int .i64 (k : Int)] := by simp [ints]

set_option maxRecDepth 100000 in
set_option maxHeartbeats 6400000 in
theorem told_true {w : World} {g r n : Nat} {L : List Nat} (h : IsMap w g r n L) (hz : ∀ i, n ≤ i → bitAt L i = false) {A : Option Addr} {c : Nat} {F : List Bool} (hF : Seg w w.heap.size A n (bls F)) (hf : ∀ i, i < n → fL F i = bitAt L i) (q : Int)
    (a0 : -9223372036854775808 ≤ q) (a1 : q ≤ 9223372036854775807) :
    Calls Try.prog 35 #[.pointer (some ⟨g, 0, none⟩), .slice A n c, .int .i64 q] w fun e w' => e = .returned (.bool true) ∧ Below w.heap.size w w' := by
  have hmax := h.max
  have hlen := h.len
  have HM := Lib.hid h
  have HZ := Lib.hid hz
  have HF := Lib.hid hF
  have HV := Lib.hid hf
  obtain ⟨m, hm⟩ : ∃ m, m = (n + 7) / 8 := ⟨_, rfl⟩
  have hmk := fun W => run_mk elemB rfl m (by omega) (by omega) W
  have e1 : ((n : Int) + 7) / 8 = (m : Int) := by omega
  have HMM := Lib.hid hm
  have HLL := Lib.hid (hlen.trans hm.symm)
  have hm5 : m ≤ 1000 := by omega
  have hn8 : n ≤ 8 * m := by omega
  clear h hz hF hf hm hlen
  go_enter Try.func35, Try.ntmps35
  go_wp2_with fail
  clear hmk e1
  have HB0 := Lib.hid (show Box (w.alloc (.cells (made (.int .u8 0) m) 5)) w.heap.size 5 (bts (List.replicate m 0)).toArray from by rw [← made_bts]; exact Box.new w _ _)
  have HW0 := Lib.hid ((Below.refl w.heap.size w).alloc (Nat.le_refl _) (.cells (made (.int .u8 0) m) 5))
  have HS0 := Lib.hid (show (w.alloc (.cells (made (.int .u8 0) m) 5)).heap.size = w.heap.size + 1 by simp)
  go_loopw [7, 9] (fun ov iv wr => ∃ k : Nat, ∃ A1 c1 bb, k ≤ n ∧ iv = .int .i64 (k : Int) ∧ ov = .slice A1 (setL L k).length c1 ∧ Own wr (w.heap.size + 1) 3 A1 (setL L k).length c1 (ints (setL L k)) ∧ Box wr w.heap.size 5 (bts bb).toArray ∧ bb.length = m ∧ IsB bb ∧ (∀ i, bitAt bb i = (decide (i < k) && bitAt L i)) ∧ Below w.heap.size w wr ∧ w.heap.size + 1 ≤ wr.heap.size) (fun _ iv _ => n - (intOf iv).toNat)
  case atStart => exact ⟨0, none, 0, List.replicate m 0, by omega, rfl, rfl, Own.nil _ _ _, HB0.out, by simp, IsB.rep _, fun i => by rw [bitAt_rep]; simp, HW0.out, by rw [HS0.out]; exact Nat.le_refl _⟩
  case round =>
    obtain ⟨k, A1, c1, bb, hk, rfl, rfl, hown, hbx, hbl, hbi, hbv, hbel, hsz⟩ := hrel
    have HO := Lib.hid hown
    have HX := Lib.hid hbx
    have HXL := Lib.hid hbl
    have HXB := Lib.hid hbi
    have HXV := Lib.hid hbv
    have HW := Lib.hid hbel
    have hsl := setL_len L k
    clear hown hbx hbl hbi hbv hbel HB0 HW0 HS0
    by_cases hlt : k < n
    · obtain ⟨b, off, rfl, hbo, _⟩ := (HF.out.below HW.out).2 (by omega)
      obtain ⟨hkl, hc⟩ := Seg.bool (HF.out.below HW.out) hlt
      have hv : F[k] = bitAt L k := by rw [← fL_at hkl]; exact HV.out k hlt
      rw [hv] at hc
      clear hv
      cases hb : bitAt L k with
      | false =>
        rw [hb] at hc
        have HS := Lib.hid (setL_no hb)
        have HB := Lib.hid hb
        clear hb
        go_wp2_with fail
        go_roundw
        case rel => exact ⟨k + 1, A1, c1, bb, by omega, by go_num, by rw [HS.out], by rw [HS.out]; exact HO.out, HX.out, HXL.out, HXB.out, (fun i => by
          rw [HXV.out i]
          by_cases e : i = k
          · subst e; rw [HB.out]; simp
          · rw [show decide (i < k + 1) = decide (i < k) by simp; omega]), HW.out, hsz⟩
        case measure => simp [intOf]; omega
      | true =>
        rw [hb] at hc
        have HS := Lib.hid (setL_yes hb)
        have HB := Lib.hid hb
        have hbk : bitAt bb k = false := by rw [HXV.out k]; simp
        have HBK := Lib.hid hbk
        have h8 : k / 8 < bb.length := by rw [HXL.out]; omega
        have hbyte := HXB.out.at_ h8
        have hx : bb.getD (k / 8) 0 = bb[k / 8] := by rw [List.getD_eq_getElem?_getD, List.getElem?_eq_getElem h8]; rfl
        have hbz : bb[k / 8] / 2 ^ (k % 8) % 2 = 0 := by
          unfold bitAt at hbk
          rw [hx] at hbk
          have := beq_eq_false_iff_ne.1 hbk
          omega
        have HADD := Lib.hid (add_bit bb[k / 8] k hbyte hbz)
        have HGX := Lib.hid hx
        clear hb hbk hx hbz
        have hk0 : (0 : Int) ≤ (k : Int) / 8 := by omega
        have hk1 : (k : Int) / 8 < (m : Int) := by omega
        have hk2 : ((k : Int) / 8).toNat = k / 8 := by omega
        have hk3 : (0 : Int) ≤ (k : Int) % 8 := by omega
        have hk4 : IntKind.i64.wrap ((k : Int) / 8) = (k : Int) / 8 := IntWalk.i64_in _ (by omega)
        have hk5 : ((k : Int)).tmod 8 = (k : Int) % 8 := Int.tmod_eq_emod_of_nonneg (by omega)
        go_wp2_with ((at_builtin; refine wpList_app _ rfl (.tmp 33) (.tmp 35) elemI rfl (w.heap.size + 1) rfl (HO.out.alloc _) _ rfl (Seg.one wr _ _) (one_int _) (by unfold maxLen; omega) (by omega) (by simp; omega) ?_; intro A2 c2 w1 hown1 hg1 hat1; have HO2 := Lib.hid hown1; have HG2 := Lib.hid hg1; clear hown1 hg1 hat1))
        have HX1 := Lib.hid ((HX.out.alloc (.cells #[.int .i64 (k : Int)] 3)).grown HG2.out ((HX.out.alloc (.cells #[.int .i64 (k : Int)] 3)).own_ne (HO.out.alloc (.cells #[.int .i64 (k : Int)] 3)) (by decide)))
        have HW1 := Lib.hid (below_app (HW.out.alloc HW.out.size (.cells #[.int .i64 (k : Int)] 3)) (Nat.le_succ _) (by simp; omega) (HO.out.alloc (.cells #[.int .i64 (k : Int)] 3)) HG2.out)
        have hsz1 : w.heap.size + 1 ≤ w1.heap.size := Nat.le_trans hsz (Nat.le_trans (by simp) HG2.out.size)
        have hcell : w1.cell? ⟨w.heap.size, k / 8, none⟩ = some (.int .u8 ((bb[k / 8] : Nat) : Int)) := by
          rw [HX1.out.cell (k / 8)]
          have := bts_at bb (k / 8)
          rw [List.getElem?_eq_getElem h8] at this
          simpa using this
        have hfr : w1.frozen? ⟨w.heap.size, k / 8, none⟩ = false := HX1.out.frozen _
        go_still_tail 10, (by kernel_rfl)
        change wpList _ _ _ _ _ w1.drew
        rw [HADD.out]
        generalize hvv : bb[k / 8] + 2 ^ (k % 8) = vv at *
        have HVV := Lib.hid hvv
        clear hvv
        go_wp2_with fail
        go_roundw
        case rel =>
          refine ⟨k + 1, A2, c2, setB bb k, by omega, by go_num, by rw [HS.out]; simp, ?_, ?_, by rw [setB_len]; exact HXL.out, setB_isB HXB.out HBK.out h8, fun i => ?_, (HW1.out.setCell (p := ⟨w.heap.size, k / 8, none⟩) (Nat.le_refl _) _).drew, by simpa using hsz1⟩
          · rw [HS.out, ints_snoc]
            have := HO2.out.setFar (p := ⟨w.heap.size, k / 8, none⟩) (fun e => by have h9 := (HO2.out.lt _ e).1; simp at h9; omega) (.int .u8 (vv : Int))
            simpa using this.drew
          · have := HX1.out.set_ (k / 8) (.int .u8 (vv : Int))
            unfold setB
            rw [HGX.out, HVV.out, bts_set]
            show Box (w1.setCell ⟨w.heap.size, k / 8, none⟩ (.int .u8 (vv : Int))) _ _ _
            simpa using this
          · rw [setB_bit HXB.out HBK.out h8 i, HXV.out i]
            by_cases e : i = k
            · subst e; rw [HB.out]; simp
            · rw [if_neg e, show decide (i < k + 1) = decide (i < k) by simp; omega]
        case measure => simp [intOf]; omega
    · obtain rfl : k = n := by omega
      have hbbL : bb = L := bits_ext HXB.out HM.out.isB (by rw [HXL.out, HLL.out]) (fun i => by
        rw [HXV.out i]
        by_cases e : i < k
        · simp [e]
        · rw [HZ.out i (by omega)]; simp)
      have HBL := Lib.hid hbbL
      clear hbbL
      rw [HBL.out] at HX
      have HMr := Lib.hid (HM.out.below HW.out)
      have HFr := Lib.hid ((HF.out.below HW.out).more HW.out.size)
      have hcn : cntB L L.length = (setL L k).length := by
        rw [cntB_setL L L.length (Nat.le_refl _), setL_over L k (8 * L.length) (by rw [HLL.out]; omega) HZ.out]
      have HCN := Lib.hid hcn
      clear hcn
      generalize hsv : setL L k = sl at *
      have HSV := Lib.hid hsv
      clear hsv
      go_wp2_with fail
      refine (free2_any HMr.out q a1).mono ?_
      rintro e w1 ⟨⟨r1, hr1, rfl⟩, rfl⟩
      have HR1 := Lib.hid hr1
      clear hr1
      go_wp2_with fail
      refine (lfree_any HFr.out q 1 a1 (by omega)).mono ?_
      rintro e w2 ⟨⟨r2, hr2, rfl⟩, rfl⟩
      obtain rfl : r2 = r1 := hr2.uniq HR1.out HV.out
      clear hr2 HR1
      go_wp2_with fail
      refine (run_any HMr.out q a1).mono ?_
      rintro e w3 ⟨⟨r3, hr3, rfl⟩, rfl⟩
      have HR3 := Lib.hid hr3
      clear hr3
      go_wp2_with fail
      refine (lfree_any HFr.out 0 q (by decide) (by omega)).mono ?_
      rintro e w4 ⟨⟨r4, hr4, rfl⟩, rfl⟩
      obtain rfl : r4 = r3 := hr4.uniq HR3.out HV.out
      clear hr4 HR3
      generalize valF r2 = v2 at *
      generalize okF r2 = o2 at *
      generalize valF r4 = v4 at *
      generalize okF r4 = o4 at *
      have s1 : (v2 == v2) = true := by simp
      have s2 : (o2 == o2) = true := by simp
      have s3 : (v4 == v4) = true := by simp
      have s4 : (o4 == o4) = true := by simp
      go_wp2_with fail
      refine (lall_any HMr.out).mono ?_
      rw [HSV.out]
      rintro e w5 ⟨A5, c5, rfl, hown5, hb5⟩
      have HO5 := Lib.hid hown5.seg
      have HB5 := Lib.hid hb5
      have HM5 := Lib.hid (HMr.out.below hb5)
      have HF5 := Lib.hid ((HFr.out.below hb5).more hb5.size)
      have HO1' := Lib.hid (HO.out.seg.below hb5)
      have HX5 := Lib.hid (HX.out.below hb5 HX.out.lt)
      clear hown5 hb5
      go_wp2_with fail
      refine (eqints_true HO5.out HO1'.out (by omega)).mono ?_
      rintro e w6 ⟨rfl, hb6⟩
      have HB6 := Lib.hid (nextB HB5.out (Nat.le_refl _) hb6)
      have HM6 := Lib.hid (HM5.out.below hb6)
      have HF6 := Lib.hid ((HF5.out.below hb6).more hb6.size)
      have HX6 := Lib.hid (HX5.out.below hb6 HX5.out.lt)
      clear hb6
      go_wp2_with fail
      refine (count_any HM6.out).mono ?_
      rw [HCN.out]
      rintro e w7 ⟨rfl, rfl⟩
      go_wp2_with fail
      refine (bytes_any HM6.out).mono ?_
      rw [HLL.out]
      rintro e w8 ⟨A8, c8, rfl, hown8, hb8⟩
      have HO8 := Lib.hid hown8.seg
      have HB8 := Lib.hid (nextB HW.out (Nat.le_refl _) (nextB HB6.out (Nat.le_refl _) hb8))
      have HM8 := Lib.hid (HM6.out.below hb8)
      have HF8 := Lib.hid ((HF6.out.below hb8).more hb8.size)
      have HX8 := Lib.hid (row_seg (HX6.out.below hb8 HX6.out.lt))
      rw [HLL.out] at HX8
      clear hown8 hb8
      go_wp2_with fail
      refine (equal_any c8 m HO8.out HX8.out HM.out.isB HM.out.isB).mono ?_
      rintro e w9 ⟨rfl, rfl⟩
      rw [decide_eq_true rfl]
      by_cases q0 : q < 0
      · have HH := Lib.hid (has_out HM8.out q (.inl q0))
        have p0 : decide ((0 : Int) ≤ q) = false := decide_eq_false (by omega)
        go_wp2_with fail
        refine (HH.out).mono ?_
        rintro e w9 ⟨rfl, rfl⟩
        go_wp2_with fail
        go_ret
        exact ⟨rfl, HB8.out⟩
      · by_cases q1 : (k : Int) ≤ q
        · have HH := Lib.hid (has_out HM8.out q (.inr q1))
          have p0 : decide ((0 : Int) ≤ q) = true := decide_eq_true (by omega)
          have p1 : decide (q < (k : Int)) = false := decide_eq_false (by omega)
          go_wp2_with fail
          refine (HH.out).mono ?_
          rintro e w9 ⟨rfl, rfl⟩
          go_wp2_with fail
          go_ret
          exact ⟨rfl, HB8.out⟩
        · obtain ⟨z, rfl⟩ := Int.eq_ofNat_of_zero_le (by omega : 0 ≤ q)
          have hzk : z < k := by omega
          have HH := Lib.hid (has_in HM8.out z hzk)
          have p0 : decide ((0 : Int) ≤ (z : Int)) = true := decide_eq_true (by omega)
          have p1 : decide ((z : Int) < (k : Int)) = true := decide_eq_true (by omega)
          obtain ⟨b, off, rfl, hbo, _⟩ := HF8.out.2 (by omega)
          obtain ⟨hkl, hc⟩ := Seg.bool HF8.out hzk
          have hv : F[z] = bitAt L z := by rw [← fL_at hkl]; exact HV.out z hzk
          rw [hv] at hc
          clear hv
          generalize bitAt L z = bz at *
          have s5 : (bz == bz) = true := by simp
          go_wp2_with fail
          refine (HH.out).mono ?_
          rintro e w9 ⟨rfl, rfl⟩
          go_wp2_with fail
          go_ret
          exact ⟨rfl, HB8.out⟩
end Go.Proofs.Ytaagfmaboggbhaa.bit
