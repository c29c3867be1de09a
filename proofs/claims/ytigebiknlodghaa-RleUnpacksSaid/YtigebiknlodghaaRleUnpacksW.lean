/-
  The walk of the law RleUnpacks.
-/
import Derived.Test.YtigebiknlodghaaRleShortW
import Derived.Test.YtigebiknlodghaaRleRef
import Derived.Test.YtigebiknlodghaaRleUnp
import Derived.Test.YtigebiknlodghaaRleLoose
namespace Go.Proofs.Ytigebiknlodghaa.rle
open Go.RowKit Go.ChangeShapes Go.WideShapes
set_option linter.unusedVariables false

set_option maxHeartbeats 1600000 in
theorem unpacks_walk (A : Option Addr) (n c : Nat) (l : List Nat) (most : Int) (w : World) (h : Seg w w.heap.size A n (bts l)) (hl : IsB l) (hnc : n ≤ c) (hc : c ≤ maxLen)
    (m0 : -9223372036854775808 ≤ most) (m1 : most ≤ 9223372036854775807) :
    Calls Try.prog 12 #[.slice A n c, .int .i64 most] w fun e w' => e = .returned (.bool true) ∧ Below w.heap.size w w' := by
  have hc' := hc
  unfold maxLen at hc'
  by_cases c1 : 300 < n
  · go_enter Try.func12, Try.ntmps12
    go_wp2
    go_ret
    exact ⟨rfl, Below.refl _ _⟩
  have hlen : l.length = n := by rw [← bts_len]; exact h.1
  have HL := Lib.hid hlen
  have HS := Lib.hid h
  have HC := Lib.hid (unpack_any c h hl (Nat.le_refl _) hnc (by omega) most m0 m1)
  clear hlen h
  have t1 : decide (300 < (n : Int)) = false := by simp; omega
  go_enter Try.func12, Try.ntmps12
  rcases hlo : lo most [] l with code | out
  · have HLO := Lib.hid hlo
    clear hlo
    go_wp2_with fail
    refine (HC.out).mono ?_
    rintro e w1 (⟨code', h1, rfl, hb1⟩ | ⟨_, _, _, h1, _⟩ | ⟨_, h1, _⟩)
    · rw [HLO.out] at h1
      injection h1 with h1
      subst h1
      have HB1 := Lib.hid hb1
      clear hb1
      go_wp2_with fail
      refine (loose_any c (HS.out.below HB1.out) hl HB1.out.size hnc (by omega) most m0 m1).mono ?_
      rintro e w2 (⟨code', h0, h1, rfl, hb2⟩ | ⟨_, _, _, h1, _⟩)
      · rw [HLO.out] at h1
        injection h1 with h1
        subst h1
        have HB2 := Lib.hid (nextB HB1.out (Nat.le_refl _) hb2)
        clear hb2
        have t2 : ((code : Int) != 0) = true := by rw [bne_iff_ne]; omega
        have t2' : ((code : Int) == 0) = false := by rw [beq_eq_false_iff_ne]; omega
        go_wp2_with fail
        refine (alive_true _).mono ?_
        rintro e w5 ⟨rfl, hb5⟩
        go_wp2_with fail
        go_ret
        exact ⟨rfl, nextB HB2.out (Nat.le_refl _) hb5⟩
      · rw [HLO.out] at h1; cases h1
    · rw [HLO.out] at h1; cases h1
    · rw [HLO.out] at h1; cases h1
  · have HLO := Lib.hid hlo
    clear hlo
    by_cases hp : pk out = l
    · have HP := Lib.hid hp
      clear hp
      go_wp2_with fail
      refine (HC.out).mono ?_
      rintro e w1 (⟨_, h1, _⟩ | ⟨out', A1, ca, h1, h2, rfl, hown1, hob, hb1⟩ | ⟨_, h1, h2, _⟩)
      · rw [HLO.out] at h1; cases h1
      · rw [HLO.out] at h1
        injection h1 with h1
        subst h1
        have HO1 := Lib.hid hown1
        have HB1 := Lib.hid hb1
        have HOB := Lib.hid hob
        clear hown1 hb1 h2 hob
        go_wp2_with fail
        refine (loose_any c (HS.out.below HB1.out) hl HB1.out.size hnc (by omega) most m0 m1).mono ?_
        rintro e w2 (⟨_, _, h1, _⟩ | ⟨out', A2, cb, h1, rfl, hown2, hob2, hle, hb2⟩)
        · rw [HLO.out] at h1; cases h1
        · rw [HLO.out] at h1
          injection h1 with h1
          subst h1
          rw [HL.out] at hle
          have HO2 := Lib.hid hown2
          have HO12 := Lib.hid (HO1.out.below hb2)
          have HB2 := Lib.hid (nextB HB1.out (Nat.le_refl _) hb2)
          clear hown2 hb2 hob2
          go_wp2_with fail
          refine (rpack_any cb HO2.out.seg (Nat.le_refl _) HO2.out.cap (by omega)).mono ?_
          rw [HP.out]
          rintro e w3 ⟨A3, cc, rfl, hown3, hb3⟩
          have HO3 := Lib.hid hown3
          have HO13 := Lib.hid (HO12.out.below hb3)
          have HO23 := Lib.hid (HO2.out.below hb3)
          have HB3 := Lib.hid (nextB HB2.out (Nat.le_refl _) hb3)
          clear hown3 hb3
          go_wp2_with fail
          refine (equal_any cc c HO3.out.seg (HS.out.below HB3.out) hl hl).mono ?_
          rintro e w4 ⟨rfl, rfl⟩
          have t2 : decide (l = l) = true := by simp
          rw [t2]
          clear t2
          go_wp2_with fail
          refine (equal_any ca cb HO13.out.seg HO23.out.seg HOB.out HOB.out).mono ?_
          rintro e w5 ⟨rfl, rfl⟩
          have t2 : decide (out = out) = true := by simp
          rw [t2]
          clear t2
          go_wp2_with fail
          refine (alive_true _).mono ?_
          rintro e w6 ⟨rfl, hb6⟩
          go_wp2_with fail
          go_ret
          exact ⟨rfl, nextB HB3.out (Nat.le_refl _) hb6⟩
      · rw [HLO.out] at h1
        injection h1 with h1
        subst h1
        exact absurd HP.out h2
    · have HP := Lib.hid hp
      clear hp
      go_wp2_with fail
      refine (HC.out).mono ?_
      rintro e w1 (⟨_, h1, _⟩ | ⟨out', A1, ca, h1, h2, _⟩ | ⟨out', h1, h2, rfl, hb1⟩)
      · rw [HLO.out] at h1; cases h1
      · rw [HLO.out] at h1
        injection h1 with h1
        subst h1
        exact absurd h2 HP.out
      · have HB1 := Lib.hid hb1
        clear hb1 h1 h2
        go_wp2_with fail
        refine (loose_any c (HS.out.below HB1.out) hl HB1.out.size hnc (by omega) most m0 m1).mono ?_
        rintro e w2 (⟨_, _, h1, _⟩ | ⟨out', A2, cb, h1, rfl, hown2, hob2, hle, hb2⟩)
        · rw [HLO.out] at h1; cases h1
        · rw [HLO.out] at h1
          injection h1 with h1
          subst h1
          rw [HL.out] at hle
          have HPI := Lib.hid (pk_isB _ hob2)
          have HO2 := Lib.hid hown2
          have HB2 := Lib.hid (nextB HB1.out (Nat.le_refl _) hb2)
          clear hown2 hb2 hob2
          go_wp2_with fail
          refine (rpack_any cb HO2.out.seg (Nat.le_refl _) HO2.out.cap (by omega)).mono ?_
          rintro e w3 ⟨A3, cc, rfl, hown3, hb3⟩
          have HO3 := Lib.hid hown3
          have HB3 := Lib.hid (nextB HB2.out (Nat.le_refl _) hb3)
          clear hown3 hb3
          go_wp2_with fail
          refine (equal_any cc c HO3.out.seg (HS.out.below HB3.out) HPI.out hl).mono ?_
          rintro e w4 ⟨rfl, rfl⟩
          have t2 : decide (pk out = l) = false := by simp [HP.out]
          rw [t2]
          clear t2
          go_wp2_with fail
          refine (alive_true _).mono ?_
          rintro e w6 ⟨rfl, hb6⟩
          go_wp2_with fail
          go_ret
          exact ⟨rfl, nextB HB3.out (Nat.le_refl _) hb6⟩

theorem unpacks_main {H : Type} {enc : TypeId × Value → H} {base : Nat} (W : World) {v0 v1 : Value} {d0 d1 : DataW H} {p0 p1 : List MemPlace}
    (h0 : DataW.Trod enc Try.prog W 0 (fun _ => true) true 37 v0 d0 p0) (k0 : Value.okWide Try.prog W .any base 37 v0)
    (h1 : DataW.Trod enc Try.prog W 0 (fun _ => true) true 3 v1 d1 p1) (k1 : Value.okWide Try.prog W .any base 3 v1) :
    Calls Try.prog 12 #[v0, v1] W fun e W' => e = .returned (.bool true) ∧ Below W.heap.size W W' := by
  obtain ⟨A, n, c, l, rfl, hnc, hc, hl, hs⟩ := open_bytes h0 k0
  obtain ⟨a1, rfl, rfl, rfl, w1⟩ := open_int Try.underlying3 k1 h1
  exact unpacks_walk A n c l a1 W hs hl hnc hc (i64_bd w1).1 (i64_bd w1).2
end Go.Proofs.Ytigebiknlodghaa.rle
