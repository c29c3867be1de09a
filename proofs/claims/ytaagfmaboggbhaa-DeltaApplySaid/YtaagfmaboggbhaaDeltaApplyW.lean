/-
  The walk of the law DeltaApply, the loops.
-/
import Derived.Test.YtaagfmaboggbhaaDeltaApplyL
namespace Go.Proofs.Ytaagfmaboggbhaa.delta
open Go.RowKit Go.ChangeShapes Go.WideShapes Go.ChangeAt
set_option linter.unusedVariables false

theorem apply_many {A A2 : Option Addr} {n m c c2 : Nat} (w : World) (h : 200 < n ∨ (n ≤ 200 ∧ 30 < m)) :
    Calls Try.prog 5 #[.slice A n c, .slice A2 m c2] w fun e w' => e = .returned (.bool true) ∧ Below w.heap.size w w' := by
  rcases h with h | ⟨h, h2⟩
  · have t1 : decide ((200 : Int) < (n : Int)) = true := decide_eq_true (by omega)
    go_enter Try.func5, Try.ntmps5
    go_wp2_with fail
    go_ret
    exact ⟨rfl, Below.refl _ _⟩
  · have t1 : decide ((200 : Int) < (n : Int)) = false := decide_eq_false (by omega)
    have t2 : decide ((30 : Int) < (m : Int)) = true := decide_eq_true (by omega)
    go_enter Try.func5, Try.ntmps5
    go_wp2_with fail
    go_ret
    exact ⟨rfl, Below.refl _ _⟩
/-- How far the law's own doing has come: K edits are done; bad, if one beyond the bytes has come up. -/
def Come (n : Nat) (L : List Ed) (k K : Nat) (bad : Bool) : Prop := (∀ (j : Nat) (hj : j < L.length), j < K → fits n L[j].e = true) ∧ ((bad = false ∧ K = k) ∨ (bad = true ∧ K < k ∧ ∀ hj : K < L.length, fits n L[K].e = false))
theorem come_more {n : Nat} {L : List Ed} {k K : Nat} (h : Come n L k K true) : Come n L (k + 1) K true := by
  refine ⟨h.1, .inr ?_⟩
  rcases h.2 with ⟨h, _⟩ | ⟨_, h1, h2⟩
  · cases h
  · exact ⟨rfl, by omega, h2⟩
theorem come_fit {n : Nat} {L : List Ed} {k : Nat} (h : Come n L k k false) (hk : k < L.length) (hf : fits n L[k].e = true) : Come n L (k + 1) (k + 1) false := by
  refine ⟨fun j hj h2 => ?_, .inl ⟨rfl, rfl⟩⟩
  by_cases e : j = k
  · subst e; exact hf
  · exact h.1 j hj (by omega)
theorem come_bad {n : Nat} {L : List Ed} {k : Nat} (h : Come n L k k false) (hk : k < L.length) (hf : fits n L[k].e = false) : Come n L (k + 1) k true :=
  ⟨h.1, .inr ⟨rfl, by omega, fun _ => hf⟩⟩
theorem come_k {n : Nat} {L : List Ed} {k K : Nat} (h : Come n L k K false) : K = k := by
  rcases h.2 with ⟨_, h⟩ | ⟨h, _⟩
  · exact h
  · cases h
theorem fits_iff {n : Nat} {z : Ed} {w : World} {B : Nat} (h : PcOk w B z.x) : fits n z.e = decide (0 ≤ z.pos ∧ z.pos + (z.x.n : Int) ≤ (n : Int)) := by
  unfold fits
  simp only [Ed.e, h.len]

set_option maxRecDepth 100000 in
set_option maxHeartbeats 12800000 in
theorem apply_walk {A A2 : Option Addr} {n m c c2 : Nat} {a : List Nat} {L : List Ed} (w : World) (ha : Seg w w.heap.size A n (bts a)) (hab : IsB a) (hc : n ≤ c) (hE : EdSeg w w.heap.size A2 m L) (hn : n ≤ 200) (hm : m ≤ 30) :
    Calls Try.prog 5 #[.slice A n c, .slice A2 m c2] w fun e w' => e = .returned (.bool true) ∧ Below w.heap.size w w' := by
  have hal : a.length = n := by rw [← bts_len]; exact ha.1
  have HAL := Lib.hid hal
  have HA := Lib.hid ha
  have HAB := Lib.hid hab
  have HE := Lib.hid hE
  have HL := Lib.hid hE.len
  have t1 : decide ((200 : Int) < (n : Int)) = false := decide_eq_false (by omega)
  have t2 : decide ((30 : Int) < (m : Int)) = false := decide_eq_false (by omega)
  clear ha hab hE hal
  go_enter Try.func5, Try.ntmps5
  go_wp2_with ((at_builtin; refine wpList_app _ rfl (.tmp 23) (.tmp 24) elemB rfl w.heap.size rfl (Own.lit w #[] 5 (Nat.le_refl _) (Nat.zero_le _)) w.heap.size rfl (HA.out.alloc (Nat.le_refl _) _) (bts_one _) (by unfold maxLen; simp; omega) (by simp; omega) (by simp) ?_; intro A1 c1 w1 hown hg hat; simp only [Nat.zero_add, List.nil_append] at hown; have HO1 := Lib.hid hown; have HB1 := Lib.hid (below_app ((Below.refl w.heap.size w).alloc (Nat.le_refl _) (Obj.cells #[] 5)) (Nat.le_refl _) (by simp) (Own.lit w #[] 5 (Nat.le_refl _) (Nat.zero_le _)) hg); clear hown hg hat))
  go_loopw [6, 7, 8] (fun v bv iv wr => ∃ k K : Nat, ∃ bad : Bool, k ≤ m ∧ iv = .int .i64 (k : Int) ∧ v = .int .i64 ((size (es (L.take k)) : Nat) : Int) ∧ bv = .bool bad ∧ size (es (L.take k)) ≤ k * 100 ∧ (∀ (j : Nat) (hj : j < L.length), j < k → L[j].x.n ≤ 100) ∧ Come n L k K bad ∧ Own wr w.heap.size 5 A1 n c1 (bts (appd a (L.take K))) ∧ Below w.heap.size w wr) (fun _ _ iv _ => m - (intOf iv).toNat)
  case atStart => exact ⟨0, 0, false, by omega, rfl, rfl, rfl, by simp [size, es], fun j hj h => absurd h (Nat.not_lt_zero _), ⟨fun j hj h => absurd h (Nat.not_lt_zero _), .inl ⟨rfl, rfl⟩⟩, by simpa [appd, doAll, es] using HO1.out, HB1.out⟩
  case round =>
    obtain ⟨k, K, bad, hk, rfl, rfl, rfl, hsz, hxn, hcm, hown, hb⟩ := hrel
    have HX := Lib.hid hxn
    have HC := Lib.hid hcm
    have HO := Lib.hid hown
    have HB := Lib.hid hb
    clear hxn hcm hown hb HO1 HB1
    by_cases hlt : k < m
    · obtain ⟨be, oe, hkl, rfl, hbe, k0, k1, hp⟩ := (HE.out.below HB.out).at_ hlt
      have HF := Lib.hid (fits_iff (n := n) hp)
      have hst : size (es (L.take (k + 1))) = size (es (L.take k)) + L[k].x.n := by rw [es_take_succ L hkl, size_snoc]; exact congrArg _ hp.len
      have HST := Lib.hid hst
      have HP := Lib.hid hp
      have HS := Lib.hid (appd_snoc a L hkl)
      have HXN := Lib.hid (show L[k].x.n ≤ 100 → ∀ (j : Nat) (hj : j < L.length), j < k + 1 → L[j].x.n ≤ 100 from fun h j hj h2 => by
        by_cases e : j = k
        · subst e; exact h
        · exact HX.out j hj (by omega))
      have HCF := Lib.hid (fun (h : Come n L k k false) (hf : fits n L[k].e = true) => come_fit h hkl hf)
      have HCB := Lib.hid (fun (h : Come n L k k false) (hf : fits n L[k].e = false) => come_bad h hkl hf)
      clear hp hst
      have i0 : (0 : Int) ≤ (k : Int) := by omega
      have i1 : (k : Int) < (m : Int) := by omega
      have i2 : ((k : Int)).toNat = k := by omega
      generalize size (es (L.take k)) = s at *
      generalize L[k] = z at *
      obtain ⟨q, x⟩ := z
      simp only at k0 k1
      by_cases hx : 100 < x.n
      · go_wp2_with fail
        go_ret
        exact ⟨rfl, HB.out⟩
      · cases bad with
        | true =>
          go_wp2_with fail
          all_goals
            go_loop [10] (fun kv => kv = .int .i64 0) (fun _ => 0)
            case atStart => exact rfl
            case round =>
              obtain rfl := hrel
              go_wp2_with fail
              all_goals
                go_roundw
                case rel => exact ⟨k + 1, K, true, by omega, by go_num, by rw [HST.out]; go_num, rfl, by rw [HST.out]; omega, HXN.out (by omega), come_more HC.out, HO.out, HB.out⟩
                case measure => simp [intOf]; omega
        | false =>
          obtain rfl : K = k := come_k HC.out
          cases hf : fits n (Ed.e ⟨q, x⟩) with
          | false =>
            have HBAD := Lib.hid (HCB.out HC.out hf)
            have hff := HF.out
            rw [hf] at hff
            replace hff := of_decide_eq_false hff.symm
            simp only at hff
            clear hf HCF HCB HF
            by_cases q0 : q < 0
            · clear hff
              go_wp2_with fail
              all_goals
                go_loop [10] (fun kv => kv = .int .i64 0) (fun _ => 0)
                case atStart => exact rfl
                case round =>
                  obtain rfl := hrel
                  go_wp2_with fail
                  all_goals
                    go_roundw
                    case rel => exact ⟨K + 1, K, true, by omega, by go_num, by rw [HST.out]; go_num, rfl, by rw [HST.out]; omega, HXN.out (by omega), HBAD.out, HO.out, HB.out⟩
                    case measure => simp [intOf]; omega
            · by_cases q1 : (n : Int) < q
              · clear hff
                go_wp2_with fail
                all_goals
                  go_loop [10] (fun kv => kv = .int .i64 0) (fun _ => 0)
                  case atStart => exact rfl
                  case round =>
                    obtain rfl := hrel
                    go_wp2_with fail
                    all_goals
                      go_roundw
                      case rel => exact ⟨K + 1, K, true, by omega, by go_num, by rw [HST.out]; go_num, rfl, by rw [HST.out]; omega, HXN.out (by omega), HBAD.out, HO.out, HB.out⟩
                      case measure => simp [intOf]; omega
              · have q2 : (n : Int) < q + (x.n : Int) := by omega
                clear hff
                go_wp2_with fail
                all_goals
                  go_loop [10] (fun kv => kv = .int .i64 0) (fun _ => 0)
                  case atStart => exact rfl
                  case round =>
                    obtain rfl := hrel
                    go_wp2_with fail
                    all_goals
                      go_roundw
                      case rel => exact ⟨K + 1, K, true, by omega, by go_num, by rw [HST.out]; go_num, rfl, by rw [HST.out]; omega, HXN.out (by omega), HBAD.out, HO.out, HB.out⟩
                      case measure => simp [intOf]; omega
          | true =>
            have HGOOD := Lib.hid (HCF.out HC.out hf)
            have hff := HF.out
            rw [hf] at hff
            replace hff := of_decide_eq_true hff.symm
            simp only at hff
            obtain ⟨p, rfl⟩ := Int.eq_ofNat_of_zero_le hff.1
            have hpn : p + x.n ≤ n := by omega
            have hol : (appd a (L.take K)).length = n := by rw [← bts_len]; exact HO.out.len
            have HOL := Lib.hid hol
            have HS' := Lib.hid (show appd a (L.take (K + 1)) = lay (appd a (L.take K)) p x.l from HS.out)
            have HXL := Lib.hid HP.out.len
            clear hf HCF HCB HF hff HS hol
            go_wp2_with fail
            go_loopw [10] (fun kv wr => ∃ j : Nat, j ≤ x.n ∧ kv = .int .i64 (j : Int) ∧ Own wr w.heap.size 5 A1 n c1 (bts (lay (appd a (L.take K)) p (x.l.take j))) ∧ Below w.heap.size w wr) (fun kv _ => x.n - (intOf kv).toNat)
            case atStart => exact ⟨0, by omega, rfl, by rw [List.take_zero, lay_nil _ _ _ rfl]; exact HO.out, HB.out⟩
            case round =>
              obtain ⟨j, hj, rfl, hown, hb⟩ := hrel
              have HOj := Lib.hid hown
              have HBj := Lib.hid hb
              have hlj : (lay (appd a (L.take K)) p (x.l.take j)).length = n := by rw [← bts_len]; exact hown.len
              have HLJ := Lib.hid hlj
              have hsame : ∀ y : Addr, y.block < w.heap.size → wr.cell? y = _ := fun y hy => (hb.cell hy).trans (HB.out.cell hy).symm
              have k0' := (hsame ⟨be, oe + K * 2, none⟩ hbe).trans k0
              have k1' := (hsame ⟨be, oe + K * 2 + 1, none⟩ hbe).trans k1
              have hxs := HP.out.seg.keep hsame
              clear hown hb HO HB k0 k1 hsame hlj
              by_cases hjx : j < x.n
              · obtain ⟨bx, ox, hlx, hAx, _, hcx⟩ := hxs.byte hjx
                rw [hAx] at k1'
                have hls := lay_set (appd a (L.take K)) p x.l (j := j) (by rw [HOL.out, HXL.out]; omega) hlx
                have HLS := Lib.hid hls
                obtain ⟨g, hA1, hbg, hgl, hfr, hcl, hst⟩ := HOj.out.store (k := p + j) (by omega) (.int .u8 ((x.l[j] : Nat) : Int))
                rw [bts_at, List.getElem?_eq_getElem (by rw [HLJ.out]; omega)] at hcl
                simp only [Option.map_some] at hcl
                rw [← bts_set, HLS.out] at hst
                have HST2 := Lib.hid hst
                subst hA1
                clear hst hls hxs hAx
                generalize x.l[j] = xb at *
                have j0 : (0 : Int) ≤ (j : Int) := by omega
                have j1 : (j : Int) < (x.n : Int) := by omega
                have j2 : ((j : Int)).toNat = j := by omega
                go_wp2_with fail
                go_roundw
                case rel => exact ⟨j + 1, by omega, by go_num, HST2.out, HBj.out.setCell (p := ⟨g, p + j, none⟩) hbg _⟩
                case measure => simp [intOf]; omega
              · obtain hjx2 : j = x.n := by omega
                have ht : x.l.take j = x.l := List.take_of_length_le (by rw [HXL.out]; omega)
                have HT := Lib.hid ht
                have HON := Lib.hid (show Own wr w.heap.size 5 A1 n c1 (bts (appd a (L.take (K + 1)))) by rw [HS'.out, ← HT.out]; rw [HT.out]; have := HOj.out; rw [HT.out] at this; exact this)
                clear hjx2 ht hxs
                go_wp2_with fail
                go_roundw
                case rel => exact ⟨K + 1, K + 1, false, by omega, by go_num, by rw [HST.out]; go_num, rfl, by rw [HST.out]; omega, HXN.out (by omega), HGOOD.out, HON.out, HBj.out⟩
                case measure => simp [intOf]; omega
    · obtain rfl : k = m := by omega
      have e1 : L.take k = L := List.take_of_length_le (by rw [HL.out]; omega)
      have hszs : ∀ z ∈ L, z.x.n ≤ 100000 := fun z hz => by
        obtain ⟨j, hj, rfl⟩ := List.getElem_of_mem hz
        have := HX.out j hj (by rw [← HL.out]; exact hj)
        omega
      rw [e1] at hsz ⊢
      have HZ := Lib.hid hszs
      have HAr := Lib.hid (seg_later HA.out (Nat.le_refl _) HB.out)
      have HEr := Lib.hid (HE.out.later (Nat.le_refl _) HB.out)
      clear hszs
      cases bad with
      | true =>
        have hbd : K < k ∧ ∀ hj : K < L.length, fits n L[K].e = false := by
          rcases HC.out.2 with ⟨h, _⟩ | ⟨_, h1, h2⟩
          · cases h
          · exact ⟨h1, h2⟩
        have HBD := Lib.hid hbd
        clear e1 hbd
        generalize hsv : size (es L) = sv at *
        have HSV := Lib.hid hsv
        clear hsv
        go_wp2_with fail
        refine (apply_bad (c := c) (c2 := c2) HAr.out HAB.out HEr.out K HBD.out.1 HC.out.1 HBD.out.2 (by omega) (by omega)).mono ?_
        rintro e w2 ⟨rfl, hb2⟩
        have HR2 := Lib.hid hb2
        have HA2 := Lib.hid (seg_later HAr.out (Nat.le_refl _) hb2)
        have HE2 := Lib.hid (HEr.out.later (Nat.le_refl _) hb2)
        clear hb2
        go_wp2_with fail
        refine (turn_bad (c := c) (c2 := c2) HA2.out HAB.out HE2.out K HBD.out.1 HC.out.1 HBD.out.2 (by omega) (by omega)).mono ?_
        rintro e w3 ⟨rfl, hb3⟩
        have HR3 := Lib.hid (nextB HR2.out (Nat.le_refl _) hb3)
        have HE3 := Lib.hid (HE2.out.later (Nat.le_refl _) hb3)
        clear hb3
        go_wp2_with fail
        refine (size_any (c := c2) HE3.out (by omega) HZ.out).mono ?_
        rintro e w4 ⟨rfl, hb4⟩
        rw [HSV.out]
        have HR4 := Lib.hid (nextB HR3.out (Nat.le_refl _) hb4)
        clear hb4
        go_wp2_with fail
        refine (alive_true _).mono ?_
        rintro e w5 ⟨rfl, hb5⟩
        have HRX := Lib.hid (nextB HB.out (Nat.le_refl _) (nextB HR4.out (Nat.le_refl _) hb5))
        clear hb5
        go_wp2_with fail
        go_ret
        exact ⟨rfl, HRX.out⟩
      | false =>
        obtain rfl : K = k := come_k HC.out
        have hf : ∀ z ∈ L, fits n z.e = true := fun z hz => by
          obtain ⟨j, hj, rfl⟩ := List.getElem_of_mem hz
          exact HC.out.1 j hj (by rw [← HL.out]; exact hj)
        have HF := Lib.hid hf
        have hisb : IsB (appd a L) := appd_isB HAB.out (fun z hz => (HE.out.pcs z hz).isB)
        have HIS := Lib.hid hisb
        have HO' := HO.out
        rw [e1] at HO'
        have HOL := Lib.hid (show (appd a L).length = n by rw [← bts_len]; exact HO'.len)
        have HOS := Lib.hid HO'.seg
        have HOC := Lib.hid HO'.cap
        clear e1 hf hisb HO'
        generalize hsv : size (es L) = sv at *
        have HSV := Lib.hid hsv
        clear hsv
        go_wp2_with fail
        refine (apply_ok (c := c) (c2 := c2) HAr.out HAB.out HEr.out HF.out (by omega) (by omega)).mono ?_
        rintro e w2 ⟨A2', c2', rfl, hown2, hb2⟩
        have HR2 := Lib.hid hb2
        have HO2 := Lib.hid hown2
        have HA2 := Lib.hid (seg_later HAr.out (Nat.le_refl _) hb2)
        have HW2 := Lib.hid (seg_later HOS.out (Nat.le_refl _) hb2)
        have HE2 := Lib.hid (HEr.out.later (Nat.le_refl _) hb2)
        clear hb2 hown2
        go_wp2_with fail
        refine (turn_ok (c := c) (c2 := c2) HA2.out HAB.out HE2.out HF.out (by omega) (by omega)).mono ?_
        rintro e w3 ⟨A3, k3, c3, M, rfl, hed3, hes3, hk3, hb3⟩
        have HM := Lib.hid hed3.seg
        have HMS := Lib.hid hes3
        have HR3 := Lib.hid (nextB HR2.out (Nat.le_refl _) hb3)
        have HO3 := Lib.hid (seg_later HO2.out.seg (Nat.le_refl _) hb3)
        have HA3 := Lib.hid (seg_later HA2.out (Nat.le_refl _) hb3)
        have HW3 := Lib.hid (seg_later HW2.out (Nat.le_refl _) hb3)
        have HE3 := Lib.hid (HE2.out.later (Nat.le_refl _) hb3)
        clear hb3 hed3 hes3
        go_wp2_with fail
        refine (size_any (c := c2) HE3.out (by omega) HZ.out).mono ?_
        rintro e w4 ⟨rfl, hb4⟩
        rw [HSV.out]
        have HR4 := Lib.hid (nextB HR3.out (Nat.le_refl _) hb4)
        have HO4 := Lib.hid (seg_later HO3.out (Nat.le_refl _) hb4)
        have HA4 := Lib.hid (seg_later HA3.out (Nat.le_refl _) hb4)
        have HW4 := Lib.hid (seg_later HW3.out (Nat.le_refl _) hb4)
        have HM4 := Lib.hid (HM.out.later (Nat.le_refl _) hb4)
        clear hb4
        go_wp2_with fail
        refine (equal_any c2' c1 HO4.out HW4.out HIS.out HIS.out).mono ?_
        rintro e w6 ⟨rfl, rfl⟩
        rw [decide_eq_true rfl]
        go_wp2_with fail
        refine (edits_any (c := c1) (c2 := c) HW4.out HA4.out HAB.out hc (by omega)).mono ?_
        rintro e w8 ⟨A8, k8, c8, N8, rfl, hed8, hes8, hk8, hb8⟩
        rw [edS_ofS (appd a L) a n (by rw [HAL.out]; exact Nat.le_refl _), ← HMS.out] at hes8
        have hl8 : k8 = k3 := by have h1 := congrArg List.length hes8; rw [es_len, es_len, hed8.len, HM4.out.len] at h1; exact h1
        subst hl8
        have HN8 := Lib.hid hed8.seg
        have HNS8 := Lib.hid hes8
        have HR8 := Lib.hid (nextB HR4.out (Nat.le_refl _) hb8)
        have HM8 := Lib.hid (HM4.out.later (Nat.le_refl _) hb8)
        clear hed8 hes8 hb8
        go_wp2_with fail
        refine (same_true (c := c3) (c2 := c8) HM8.out HN8.out HNS8.out.symm (by omega)).mono ?_
        rintro e w9 ⟨rfl, hb9⟩
        have HR9 := Lib.hid (nextB HR8.out (Nat.le_refl _) hb9)
        clear hb9
        go_wp2_with fail
        refine (alive_true _).mono ?_
        rintro e w10 ⟨rfl, hb10⟩
        have HRX := Lib.hid (nextB HB.out (Nat.le_refl _) (nextB HR9.out (Nat.le_refl _) hb10))
        clear hb10
        go_wp2_with fail
        go_ret
        exact ⟨rfl, HRX.out⟩

set_option maxRecDepth 100000 in
theorem deltaapply_main {H : Type} {enc : TypeId × Value → H} {base : Nat} (W : World) {v0 v1 : Value} {d0 d1 : DataW H} {p0 p1 : List MemPlace}
    (h0 : DataW.Trod enc Try.prog W 0 (fun _ => true) true 22 v0 d0 p0) (k0 : Value.okWide Try.prog W .any base 22 v0)
    (h1 : DataW.Trod enc Try.prog W 0 (fun _ => true) true 33 v1 d1 p1) (k1 : Value.okWide Try.prog W .any base 33 v1) :
    Calls Try.prog 5 #[v0, v1] W fun e W' => e = .returned (.bool true) ∧ Below W.heap.size W W' := by
  obtain ⟨A, n, c, l, rfl, hnc, hc, hl, hs⟩ := open_bytes h0 k0
  obtain ⟨A2, m, c2, L, rfl, hnc2, hc2, hE⟩ := open_edits h1 k1
  by_cases c1 : 200 < n
  · exact apply_many W (.inl c1)
  by_cases c3 : 30 < m
  · exact apply_many W (.inr ⟨by omega, c3⟩)
  exact apply_walk W hs hl hnc hE (by omega) (by omega)
end Go.Proofs.Ytaagfmaboggbhaa.delta
