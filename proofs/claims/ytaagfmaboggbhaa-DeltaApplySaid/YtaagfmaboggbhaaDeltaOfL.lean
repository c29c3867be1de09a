/-
  The walk of the law DeltaOf.
-/
import Derived.Test.YtaagfmaboggbhaaDeltaTurn
namespace Go.Proofs.Ytaagfmaboggbhaa.delta
open Go.RowKit Go.ChangeShapes Go.WideShapes Go.ChangeAt
set_option linter.unusedVariables false

theorem EdSeg.more {w : World} {B B' n : Nat} {A : Option Addr} {L : List Ed} (h : EdSeg w B A n L) (hB : B ≤ B') : EdSeg w B' A n L :=
  ⟨h.len, fun hn => by
    obtain ⟨b, off, e, hlt, hc⟩ := h.cells hn
    exact ⟨b, off, e, by omega, hc⟩, fun z hz => (h.pcs z hz).more hB⟩
/-- What is read later on. -/
theorem EdSeg.later {w w' : World} {B n : Nat} {A : Option Addr} {L : List Ed} (h : EdSeg w B A n L) (hB : B ≤ w.heap.size) (hb : Below w.heap.size w w') : EdSeg w' w'.heap.size A n L := (h.below (hb.mono hB)).more (Nat.le_trans hB hb.size)
theorem seg_later {w w' : World} {B n : Nat} {A : Option Addr} {xs : List Value} (h : Seg w B A n xs) (hB : B ≤ w.heap.size) (hb : Below w.heap.size w w') : Seg w' w'.heap.size A n xs := (h.below (hb.mono hB)).more (Nat.le_trans hB hb.size)
theorem es_len (L : List Ed) : (es L).length = L.length := by simp [es]
theorem cnt_le (a b : List Nat) (i : Nat) : cnt a b i ≤ i := by
  induction i with
  | zero => exact Nat.le_refl _
  | succ i ih => unfold cnt; split <;> omega

set_option maxHeartbeats 800000 in
theorem of_few {A A2 : Option Addr} {n m c c2 : Nat} (w : World) (h : 200 < n ∨ (n ≤ 200 ∧ 200 < m) ∨ (n ≤ 200 ∧ m ≤ 200 ∧ n ≠ m)) :
    Calls Try.prog 4 #[.slice A n c, .slice A2 m c2] w fun e w' => e = .returned (.bool true) ∧ Below w.heap.size w w' := by
  rcases h with h | ⟨h, h2⟩ | ⟨h, h2, h3⟩
  · have t1 : decide ((200 : Int) < (n : Int)) = true := decide_eq_true (by omega)
    go_enter Try.func4, Try.ntmps4
    go_wp2_with fail
    go_ret
    exact ⟨rfl, Below.refl _ _⟩
  · have t1 : decide ((200 : Int) < (n : Int)) = false := decide_eq_false (by omega)
    have t2 : decide ((200 : Int) < (m : Int)) = true := decide_eq_true (by omega)
    go_enter Try.func4, Try.ntmps4
    go_wp2_with fail
    go_ret
    exact ⟨rfl, Below.refl _ _⟩
  · have t1 : decide ((200 : Int) < (n : Int)) = false := decide_eq_false (by omega)
    have t2 : decide ((200 : Int) < (m : Int)) = false := decide_eq_false (by omega)
    have t3 : ((n : Int) != (m : Int)) = true := by rw [bne_iff_ne]; omega
    have t4 : ((n : Int) == (m : Int)) = false := by rw [beq_eq_false_iff_ne]; omega
    have HO := Lib.hid (of_size (w := w) (A := A) (A2 := A2) (c := c) (c2 := c2) h3)
    clear h3
    go_enter Try.func4, Try.ntmps4
    go_wp2_with fail
    refine (HO.out).mono ?_
    rintro e w1 ⟨rfl, rfl⟩
    go_wp2_with fail
    refine (alive_true _).mono ?_
    rintro e w2 ⟨rfl, hb⟩
    have HB := Lib.hid hb
    clear hb
    go_wp2_with fail
    go_ret
    exact ⟨rfl, HB.out⟩

set_option maxRecDepth 100000 in
set_option maxHeartbeats 3200000 in
theorem of_walk {A A2 : Option Addr} {n c c2 : Nat} {a b : List Nat} (w : World) (ha : Seg w w.heap.size A n (bts a)) (hb : Seg w w.heap.size A2 n (bts b)) (hab : IsB a) (hbb : IsB b) (hc : n ≤ c) (hc2 : n ≤ c2) (hn : n ≤ 200) :
    Calls Try.prog 4 #[.slice A n c, .slice A2 n c2] w fun e w' => e = .returned (.bool true) ∧ Below w.heap.size w w' := by
  have hal : a.length = n := by rw [← bts_len]; exact ha.1
  have hbl : b.length = n := by rw [← bts_len]; exact hb.1
  have HAL := Lib.hid hal
  have HBL := Lib.hid hbl
  have HA := Lib.hid ha
  have HB := Lib.hid hb
  have HAB := Lib.hid hab
  have HBB := Lib.hid hbb
  have t1 : decide ((200 : Int) < (n : Int)) = false := decide_eq_false (by omega)
  clear ha hb hab hbb hal hbl
  go_enter Try.func4, Try.ntmps4
  go_wp2_with fail
  refine (of_any (c := c) (c2 := c2) HA.out HB.out HBB.out (by omega)).mono ?_
  rintro e w1 ⟨A1, m, c1, L, rfl, hed, hes, hm, hb1⟩
  have HE := Lib.hid hed.seg
  have HES := Lib.hid hes
  have HW := Lib.hid hb1
  clear hed hes hb1
  go_wp2_with fail
  go_loopw [7, 8] (fun v iv wr => ∃ i : Nat, i ≤ n ∧ iv = .int .i64 (i : Int) ∧ v = .int .i64 ((cnt a b i : Nat) : Int) ∧ Below w.heap.size w wr ∧ Below w1.heap.size w1 wr) (fun _ iv _ => n - (intOf iv).toNat)
  case atStart => exact ⟨0, by omega, rfl, rfl, HW.out, Below.refl _ _⟩
  case round =>
    obtain ⟨i, hi, rfl, rfl, hwr, hwr1⟩ := hrel
    have HR := Lib.hid hwr
    have HR1 := Lib.hid hwr1
    have hcl := cnt_le a b i
    clear hwr hwr1
    by_cases hlt : i < n
    · obtain ⟨ba, oa, hka, rfl, hba, hca⟩ := (HA.out.below HR.out).byte hlt
      obtain ⟨bb, ob, hkb, rfl, hbb, hcb⟩ := (HB.out.below HR.out).byte hlt
      have hdf := df_at hka hkb
      have i0 : (0 : Int) ≤ (i : Int) := by omega
      have i1 : (i : Int) < (n : Int) := by omega
      have i2 : ((i : Int)).toNat = i := by omega
      have hcs : cnt a b (i + 1) = cnt a b i + if df a b i then 1 else 0 := rfl
      have HCS := Lib.hid hcs
      clear hcs
      cases hd : df a b i with
      | false =>
        have he : a[i] = b[i] := by rw [hd] at hdf; simpa using hdf.symm
        rw [he] at hca
        rw [hd] at HCS
        clear hdf hd he
        generalize b[i] = x at *
        have s1 : ((x : Int) == (x : Int)) = true := by simp
        have s2 : ((x : Int) != (x : Int)) = false := by simp
        go_wp2_with fail
        go_quiet (fail)
        go_wp2_with fail
        go_roundw
        case rel => exact ⟨i + 1, by omega, by go_num, by rw [HCS.out]; simp, Bdrew HR.out _, Bdrew HR1.out _⟩
        case measure => simp [intOf]; omega
      | true =>
        have s1 : (((a[i] : Nat) : Int) != ((b[i] : Nat) : Int)) = true := by rw [castbne, ← hdf, hd]
        have s2 : (((a[i] : Nat) : Int) == ((b[i] : Nat) : Int)) = false := by rw [castbeq, ← hdf, hd]; rfl
        rw [hd] at HCS
        clear hdf hd
        generalize a[i] = x at *
        generalize b[i] = y at *
        go_wp2_with fail
        go_quiet (fail)
        go_wp2_with fail
        go_roundw
        case rel => exact ⟨i + 1, by omega, by go_num, by rw [HCS.out]; simp, Bdrew HR.out _, Bdrew HR1.out _⟩
        case measure => simp [intOf]; omega
    · obtain rfl : i = n := by omega
      have hml : L.length = m := HE.out.len
      have hal := HAL.out
      have hf : ∀ z ∈ L, fits i z.e = true := fun z hz => ofS_fits a b (Nat.le_refl i) z.e (by rw [← HES.out]; exact List.mem_map_of_mem hz)
      have hap : appd a L = b := by
        unfold appd
        rw [HES.out, doAll_ofS a b (by rw [hal, HBL.out]) i (by omega), List.take_of_length_le (by rw [HBL.out]; omega), List.drop_of_length_le (by omega), List.append_nil]
      have hsz : size (es L) = cnt a b i := by rw [HES.out, size_ofS]
      have HF := Lib.hid hf
      have HAP := Lib.hid hap
      have HSZ := Lib.hid hsz
      have HAr := Lib.hid (seg_later HA.out (Nat.le_refl _) HR.out)
      have HBr := Lib.hid (seg_later HB.out (Nat.le_refl _) HR.out)
      have HEr := Lib.hid (HE.out.later (Nat.le_refl _) HR1.out)
      clear hal hf hap hsz hml
      generalize cnt a b i = cn at *
      go_wp2_with fail
      refine (apply_ok (c := c) (c2 := c1) HAr.out HAB.out HEr.out HF.out (by omega) (by omega)).mono ?_
      rintro e w2 ⟨A2', c2', rfl, hown2, hb2⟩
      have HO2 := Lib.hid hown2
      have HR2 := Lib.hid hb2
      rw [HAP.out] at HO2
      have HA2 := Lib.hid (seg_later HAr.out (Nat.le_refl _) hb2)
      have HB2 := Lib.hid (seg_later HBr.out (Nat.le_refl _) hb2)
      have HE2 := Lib.hid (HEr.out.later (Nat.le_refl _) hb2)
      clear hown2 hb2 HAr HBr HEr
      go_wp2_with fail
      refine (turn_ok (c := c) (c2 := c1) HA2.out HAB.out HE2.out HF.out (by omega) (by omega)).mono ?_
      rintro e w3 ⟨A3, k, c3, M, rfl, hed3, hes3, hk3, hb3⟩
      rw [HAP.out] at hes3
      have HM := Lib.hid hed3.seg
      have HMS := Lib.hid hes3
      have HR3 := Lib.hid (nextB HR2.out (Nat.le_refl _) hb3)
      have HO3 := Lib.hid (seg_later HO2.out.seg (Nat.le_refl _) hb3)
      have HA3 := Lib.hid (seg_later HA2.out (Nat.le_refl _) hb3)
      have HB3 := Lib.hid (seg_later HB2.out (Nat.le_refl _) hb3)
      have HE3 := Lib.hid (HE2.out.later (Nat.le_refl _) hb3)
      clear hed3 hes3 hb3 HO2 HA2 HB2 HE2 HR2
      go_wp2_with fail
      refine (edits_any (c := c) (c2 := c2) HA3.out HB3.out HBB.out hc2 (by omega)).mono ?_
      rintro e w4 ⟨A4, k4, c4, N, rfl, hed4, hes4, hk4, hb4⟩
      rw [edS_ofS a b i (by rw [HBL.out]; exact Nat.le_refl _), ← HES.out] at hes4
      have hl4 : k4 = m := by have h1 := congrArg List.length hes4; rw [es_len, es_len, hed4.len, HE.out.len] at h1; exact h1
      subst hl4
      have HN := Lib.hid hed4.seg
      have HNS := Lib.hid hes4
      have HR4 := Lib.hid (nextB HR3.out (Nat.le_refl _) hb4)
      have HO4 := Lib.hid (seg_later HO3.out (Nat.le_refl _) hb4)
      have HA4 := Lib.hid (seg_later HA3.out (Nat.le_refl _) hb4)
      have HB4 := Lib.hid (seg_later HB3.out (Nat.le_refl _) hb4)
      have HE4 := Lib.hid (HE3.out.later (Nat.le_refl _) hb4)
      have HM4 := Lib.hid (HM.out.later (Nat.le_refl _) hb4)
      clear hed4 hes4 hb4 HO3 HA3 HB3 HE3 HR3 HM
      go_wp2_with fail
      refine (same_true (c := c1) (c2 := c4) HE4.out HN.out HNS.out.symm (by omega)).mono ?_
      rintro e w5 ⟨rfl, hb5⟩
      have HR5 := Lib.hid (nextB HR4.out (Nat.le_refl _) hb5)
      have HO5 := Lib.hid (seg_later HO4.out (Nat.le_refl _) hb5)
      have HA5 := Lib.hid (seg_later HA4.out (Nat.le_refl _) hb5)
      have HB5 := Lib.hid (seg_later HB4.out (Nat.le_refl _) hb5)
      have HE5 := Lib.hid (HE4.out.later (Nat.le_refl _) hb5)
      have HM5 := Lib.hid (HM4.out.later (Nat.le_refl _) hb5)
      clear hb5 HO4 HA4 HB4 HE4 HR4 HM4 HN
      go_wp2_with fail
      refine (equal_any c2' c2 HO5.out HB5.out HBB.out HBB.out).mono ?_
      rintro e w6 ⟨rfl, rfl⟩
      rw [decide_eq_true rfl]
      go_wp2_with fail
      refine (size_any (c := c1) HE5.out (by omega) (fun z hz => by
        have h1 := fits_toNat (HF.out z hz)
        have h2 := (HE5.out.pcs z hz).len
        simp only [Ed.e] at h1
        omega)).mono ?_
      rintro e w7 ⟨rfl, hb7⟩
      rw [HSZ.out]
      have HR7 := Lib.hid (nextB HR5.out (Nat.le_refl _) hb7)
      have HA7 := Lib.hid (seg_later HA5.out (Nat.le_refl _) hb7)
      have HB7 := Lib.hid (seg_later HB5.out (Nat.le_refl _) hb7)
      have HM7 := Lib.hid (HM5.out.later (Nat.le_refl _) hb7)
      clear hb7 HO5 HA5 HB5 HE5 HR5 HM5
      go_wp2_with fail
      refine (edits_any (c := c2) (c2 := c) HB7.out HA7.out HAB.out hc (by omega)).mono ?_
      rintro e w8 ⟨A8, k8, c8, N8, rfl, hed8, hes8, hk8, hb8⟩
      rw [edS_ofS b a i (by rw [HAL.out]; exact Nat.le_refl _), ← HMS.out] at hes8
      have hl8 : k8 = k := by have h1 := congrArg List.length hes8; rw [es_len, es_len, hed8.len, HM7.out.len] at h1; exact h1
      subst hl8
      have HN8 := Lib.hid hed8.seg
      have HNS8 := Lib.hid hes8
      have HR8 := Lib.hid (nextB HR7.out (Nat.le_refl _) hb8)
      have HM8 := Lib.hid (HM7.out.later (Nat.le_refl _) hb8)
      clear hed8 hes8 hb8 HM7 HR7 HA7 HB7
      go_wp2_with fail
      refine (same_true (c := c3) (c2 := c8) HM8.out HN8.out HNS8.out.symm (by omega)).mono ?_
      rintro e w9 ⟨rfl, hb9⟩
      have HR9 := Lib.hid (nextB HR8.out (Nat.le_refl _) hb9)
      clear hb9 HR8 HM8 HN8
      go_wp2_with fail
      refine (alive_true _).mono ?_
      rintro e w10 ⟨rfl, hb10⟩
      have HRX := Lib.hid (nextB HR.out (Nat.le_refl _) (nextB HR9.out (Nat.le_refl _) hb10))
      clear hb10
      go_wp2_with fail
      go_ret
      exact ⟨rfl, HRX.out⟩

set_option maxRecDepth 100000 in
theorem deltaof_main {H : Type} {enc : TypeId × Value → H} {base : Nat} (W : World) {v0 v1 : Value} {d0 d1 : DataW H} {p0 p1 : List MemPlace}
    (h0 : DataW.Trod enc Try.prog W 0 (fun _ => true) true 22 v0 d0 p0) (k0 : Value.okWide Try.prog W .any base 22 v0)
    (h1 : DataW.Trod enc Try.prog W 0 (fun _ => true) true 22 v1 d1 p1) (k1 : Value.okWide Try.prog W .any base 22 v1) :
    Calls Try.prog 4 #[v0, v1] W fun e W' => e = .returned (.bool true) ∧ Below W.heap.size W W' := by
  obtain ⟨A, n, c, l, rfl, hnc, hc, hl, hs⟩ := open_bytes h0 k0
  obtain ⟨A2, m, c2, l2, rfl, hnc2, hc2, hl2, hs2⟩ := open_bytes h1 k1
  by_cases c1 : 200 < n
  · exact of_few W (.inl c1)
  by_cases c3 : 200 < m
  · exact of_few W (.inr (.inl ⟨by omega, c3⟩))
  by_cases c4 : n = m
  · subst c4
    exact of_walk W hs hs2 hl hl2 hnc hnc2 (by omega)
  · exact of_few W (.inr (.inr ⟨by omega, by omega, c4⟩))
end Go.Proofs.Ytaagfmaboggbhaa.delta
