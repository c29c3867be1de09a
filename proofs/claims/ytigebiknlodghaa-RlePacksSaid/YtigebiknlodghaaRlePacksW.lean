/-
  The walk of the law RlePacks.
-/
import Derived.Test.YtigebiknlodghaaRleShortW
import Derived.Test.YtigebiknlodghaaRleRef
import Derived.Test.YtigebiknlodghaaRleUnp
namespace Go.Proofs.Ytigebiknlodghaa.rle
open Go.RowKit Go.ChangeShapes Go.WideShapes
set_option linter.unusedVariables false

set_option maxHeartbeats 1600000 in
theorem packs_walk (A : Option Addr) (n c : Nat) (l : List Nat) (most : Int) (w : World) (h : Seg w w.heap.size A n (bts l)) (hl : IsB l) (hnc : n ≤ c) (hc : c ≤ maxLen)
    (m0 : -9223372036854775808 ≤ most) (m1 : most ≤ 9223372036854775807) :
    Calls Try.prog 11 #[.slice A n c, .int .i64 most] w fun e w' => e = .returned (.bool true) ∧ Below w.heap.size w w' := by
  have hc' := hc
  unfold maxLen at hc'
  by_cases c1 : 600 < n
  · go_enter Try.func11, Try.ntmps11
    go_wp2
    go_ret
    exact ⟨rfl, Below.refl _ _⟩
  have hlen : l.length = n := by rw [← bts_len]; exact h.1
  have hpl := pk_len2 l
  have hlo := lo_pk most l []
  simp only [List.length_nil, Nat.zero_add, List.nil_append] at hlo
  rw [hlen] at hpl hlo
  have HLO := Lib.hid hlo
  have HL := Lib.hid hlen
  have HS := Lib.hid h
  have HPI := Lib.hid (pk_isB l hl)
  have HC := Lib.hid (pack_any c h (Nat.le_refl _) hnc (by omega))
  clear hlo hlen h
  generalize hpk : pk l = p at *
  have HPK := Lib.hid hpk
  clear hpk
  have t1 : decide (600 < (n : Int)) = false := by simp; omega
  go_enter Try.func11, Try.ntmps11
  go_wp2_with fail
  refine (HC.out).mono ?_
  rintro e w1 ⟨A1, ca, rfl, hown1, hb1⟩
  have HO1 := Lib.hid hown1
  have HB1 := Lib.hid hb1
  clear hown1 hb1
  go_wp2_with fail
  refine (rpack_any c (HS.out.below HB1.out) HB1.out.size hnc (by omega)).mono ?_
  rw [HPK.out]
  rintro e w2 ⟨A2, cb, rfl, hown2, hb2⟩
  have HO2 := Lib.hid hown2
  have HO12 := Lib.hid (HO1.out.below hb2)
  have HB2 := Lib.hid (nextB HB1.out (Nat.le_refl _) hb2)
  clear hown2 hb2
  go_wp2_with fail
  refine (equal_any ca cb HO12.out.seg HO2.out.seg HPI.out HPI.out).mono ?_
  rintro e w3 ⟨rfl, rfl⟩
  have t2 : decide (p = p) = true := by simp
  rw [t2]
  clear t2
  go_wp2_with fail
  refine (unpack_any ca HO12.out.seg HPI.out (Nat.le_refl _) HO12.out.cap (by omega) most m0 m1).mono ?_
  rintro e w4 hun
  have t3 : decide ((0 : Int) < (n : Int)) = decide (0 < n) := by simp
  by_cases c2 : most < (n : Int) ∧ 0 < n
  · have hne : l ≠ [] := by rintro rfl; have := HL.out; simp at this; omega
    have hr : lo most [] p = .inl 12 := by rw [HLO.out, if_neg hne, if_pos c2.1]
    rcases hun with ⟨code, h1, rfl, hb4⟩ | ⟨out, _, _, h1, _⟩ | ⟨out, h1, _⟩
    · rw [hr] at h1
      injection h1 with h1
      subst h1
      have HB4 := Lib.hid (nextB HB2.out (Nat.le_refl _) hb4)
      have c20 := c2.1
      have c21 := c2.2
      clear hb4 hne hr c2 t3
      go_wp2_with fail
      refine (alive_true _).mono ?_
      rintro e w5 ⟨rfl, hb5⟩
      go_wp2_with fail
      go_ret
      exact ⟨rfl, nextB HB4.out (Nat.le_refl _) hb5⟩
    · rw [hr] at h1; cases h1
    · rw [hr] at h1; cases h1
  · have hr : lo most [] p = .inr l := by
      rw [HLO.out]
      by_cases hne : l = []
      · rw [if_pos hne, hne]
      · have : 0 < n := by rw [← HL.out]; exact List.length_pos_iff.2 hne
        rw [if_neg hne, if_neg (fun h => c2 ⟨h, this⟩)]
    rcases hun with ⟨code, h1, _⟩ | ⟨out, A4, c4, h1, _, rfl, hown4, hob, hb4⟩ | ⟨out, h1, h2, _⟩
    · rw [hr] at h1; cases h1
    · rw [hr] at h1
      injection h1 with h1
      subst h1
      have HO4 := Lib.hid hown4
      have HB4 := Lib.hid (nextB HB2.out (Nat.le_refl _) hb4)
      have HS4 := Lib.hid (HS.out.below HB4.out)
      clear hb4 hr hown4
      by_cases c3 : most < (n : Int)
      · have c4 : n = 0 := by omega
        subst c4
        go_wp2_with fail
        refine (equal_any c4 c HO4.out.seg HS4.out hl hl).mono ?_
        rintro e w5 ⟨rfl, rfl⟩
        have t2 : decide (l = l) = true := by simp
        rw [t2]
        clear t2
        go_wp2_with fail
        refine (alive_true _).mono ?_
        rintro e w6 ⟨rfl, hb6⟩
        go_wp2_with fail
        go_ret
        exact ⟨rfl, nextB HB4.out (Nat.le_refl _) hb6⟩
      · go_wp2_with fail
        refine (equal_any c4 c HO4.out.seg HS4.out hl hl).mono ?_
        rintro e w5 ⟨rfl, rfl⟩
        have t2 : decide (l = l) = true := by simp
        rw [t2]
        clear t2
        go_wp2_with fail
        refine (alive_true _).mono ?_
        rintro e w6 ⟨rfl, hb6⟩
        go_wp2_with fail
        go_ret
        exact ⟨rfl, nextB HB4.out (Nat.le_refl _) hb6⟩
    · rw [hr] at h1
      injection h1 with h1
      subst h1
      exact absurd HPK.out h2

theorem packs_main {H : Type} {enc : TypeId × Value → H} {base : Nat} (W : World) {v0 v1 : Value} {d0 d1 : DataW H} {p0 p1 : List MemPlace}
    (h0 : DataW.Trod enc Try.prog W 0 (fun _ => true) true 37 v0 d0 p0) (k0 : Value.okWide Try.prog W .any base 37 v0)
    (h1 : DataW.Trod enc Try.prog W 0 (fun _ => true) true 3 v1 d1 p1) (k1 : Value.okWide Try.prog W .any base 3 v1) :
    Calls Try.prog 11 #[v0, v1] W fun e W' => e = .returned (.bool true) ∧ Below W.heap.size W W' := by
  obtain ⟨A, n, c, l, rfl, hnc, hc, hl, hs⟩ := open_bytes h0 k0
  obtain ⟨a1, rfl, rfl, rfl, w1⟩ := open_int Try.underlying3 k1 h1
  exact packs_walk A n c l a1 W hs hl hnc hc (i64_bd w1).1 (i64_bd w1).2
end Go.Proofs.Ytigebiknlodghaa.rle
