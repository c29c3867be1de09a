/-
  The walk of the law CrcSums.
-/
import Derived.Test.YtigebiknlodghaaCrc
import Derived.Test.YtigebiknlodghaaCrcRef
import Derived.Test.YtigebiknlodghaaMake
import Derived.Test.YtigebiknlodghaaOpen
import Derived.WalkLawsBesides
import Derived.Deep.RegionWith
namespace Go.Proofs.Ytigebiknlodghaa.crc
open Go.RowKit Go.ChangeShapes Go.WideShapes
set_option linter.unusedVariables false

set_option maxHeartbeats 1600000 in
theorem sums_walk (A : Option Addr) (n c : Nat) (L : List Piece) (w : World) (h : Pieces w w.heap.size A n L) (hnc : n ≤ c) (hc : c ≤ maxLen) :
    Calls Try.prog 6 #[.slice A n c] w fun e w' => e = .returned (.bool true) ∧ Below w.heap.size w w' := by
  have hc' := hc
  unfold maxLen at hc'
  by_cases c1 : 20 < n
  · go_enter Try.func6, Try.ntmps6
    go_wp2
    go_ret
    exact ⟨rfl, Below.refl _ _⟩
  have hlen := h.len
  have HL := Lib.hid hlen
  clear hlen
  have t1 : decide (20 < (n : Int)) = false := by simp; omega
  go_enter Try.func6, Try.ntmps6
  go_wp2
  go_loopw [3, 4] (fun t i wr => ∃ k m : Nat, ∃ A1 c1, k ≤ n ∧ m ≤ 300 ∧ i = .int .i64 k ∧ t = .slice A1 m c1 ∧ Own wr w.heap.size 5 A1 m c1 (bts (flat (L.take k))) ∧ Below w.heap.size w wr) (fun _ i _ => n - (intOf i).toNat)
  case atStart => exact ⟨0, 0, none, 0, by omega, by omega, rfl, rfl, Own.nil _ _ _, Below.refl _ _⟩
  case round =>
    obtain ⟨k, m, A1, ca, hk, hm, rfl, rfl, hown, hbel⟩ := hrel
    by_cases hlt : k < n
    · have h' := h.below hbel
      obtain ⟨b, off, hlk, rfl, hbB, hcell, hseg, hby, hcap, hmax⟩ := h'.at_ hlt
      have hft := flat_take L hlk
      have HF := Lib.hid hft
      clear hft
      generalize L[k] = x at *
      unfold maxLen at hmax
      have HSEG := Lib.hid hseg
      have HOWN := Lib.hid hown
      have HB := Lib.hid hbel
      clear h' hseg hown hbel
      by_cases c2 : 300 - m < x.n
      · have t2 : decide ((300 : Int) - m < x.n) = true := by simp; omega
        go_wp2
        go_ret
        exact ⟨rfl, HB.out⟩
      · have t2 : decide ((300 : Int) - m < x.n) = false := by simp; omega
        have sz := HB.out.size
        go_wp2_with (at_builtin; refine wpList_app _ rfl (.tmp 25) (.tmp 29) elemB rfl w.heap.size rfl HOWN.out w.heap.size rfl HSEG.out (bts_one _) (by unfold maxLen; omega) (by omega) sz ?_; intro A2 c2 w1 hown1 hg1 hat1; have HO := Lib.hid hown1; have HBB := Lib.hid (below_app HB.out (Nat.le_refl _) sz HOWN.out hg1); clear hown1 hg1 hat1)
        go_roundw
        case rel => exact ⟨k + 1, m + x.n, A2, c2, by omega, by omega, by go_num, rfl, by rw [HF.out, bts_app]; exact HO.out, HBB.out⟩
        case measure => simp [intOf]; omega
    · obtain rfl : k = n := by omega
      have eL : L.take k = L := List.take_of_length_le (by rw [HL.out]; omega)
      rw [eL] at hown
      have hflat := h.flatB
      have HOWN := Lib.hid hown
      have HB := Lib.hid hbel
      clear hown hbel eL
      go_wp2
      generalize hg : wr.heap.size = g at *
      have hbx0 : Box (wr.alloc (.cells #[.int .u32 0] 40)) g 40 #[.int .u32 0] := by rw [← hg]; exact Box.new wr _ _
      have hb0 : Below w.heap.size w (wr.alloc (.cells #[.int .u32 0] 40)) := HB.out.alloc HB.out.size _
      have hg0 : w.heap.size ≤ g := by rw [← hg]; exact HB.out.size
      have HO0 := Lib.hid (HOWN.out.alloc (.cells #[.int .u32 0] 40))
      have HBX := Lib.hid hbx0
      have HB0 := Lib.hid hb0
      clear hbx0 hb0 hg HOWN HB
      go_loopw [6] (fun i wx => ∃ j : Nat, j ≤ k ∧ i = .int .i64 j ∧ Box wx g 40 #[.int .u32 ((adds 0 (flat (L.take j)) : Nat) : Int)] ∧ Own wx w.heap.size 5 A1 m ca (bts (flat L)) ∧ Below w.heap.size w wx) (fun i _ => k - (intOf i).toNat)
      case atStart => exact ⟨0, by omega, rfl, by rw [show flat (L.take 0) = [] from rfl, none_sum]; exact HBX.out, HO0.out, HB0.out⟩
      case round =>
        clear HO0 HBX HB0
        obtain ⟨j, hj, rfl, hbx, hown, hbel⟩ := hrel
        have hb := adds_lt 0 (flat (L.take j))
        by_cases hlt2 : j < k
        · have h' := h.below hbel
          obtain ⟨b, off, hlk, rfl, hbB, hcell, hseg, hby, hcap, hmax⟩ := h'.at_ hlt2
          have ha := adds_append 0 (flat (L.take j)) L[j].l (by decide) ((h.prefix_ hj).flatB)
          rw [← flat_take L hlk] at ha
          have HA := Lib.hid ha
          clear ha
          generalize L[j] = x at *
          unfold maxLen at hmax
          generalize adds 0 (flat (L.take j)) = z at *
          have hc1 : wr.cell? ⟨g, 0, none⟩ = some (.int .u32 (z : Int)) := hbx.cell 0
          have hf1 := hbx.frozen 0
          have hne := hbx.own_ne hown (by decide)
          have hbx2 : Box (wr.setCell ⟨g, 0, none⟩ (.int .u32 ((adds z x.l : Nat) : Int))) g 40 #[.int .u32 ((adds z x.l : Nat) : Int)] := hbx.set_ 0 _
          have hown2 := hown.setFar (p := ⟨g, 0, none⟩) (fun e => hne e.symm) (.int .u32 ((adds z x.l : Nat) : Int))
          have hbel2 := hbel.setCell (p := ⟨g, 0, none⟩) hg0 (.int .u32 ((adds z x.l : Nat) : Int))
          have HBX := Lib.hid hbx2
          have HOW := Lib.hid hown2
          have HBE := Lib.hid hbel2
          have HSEG := Lib.hid hseg
          have HP := Lib.hid (h.below hbel2)
          clear hbx2 hown2 hbel2 hbx hown hbel hne h' hseg
          go_wp2_with (go_at_call 20; refine (add_any g 0 z hb _ hc1 hf1 HSEG.out hby (by omega)).mono ?_; rintro e w' ⟨rfl, rfl⟩)
          have ec := (HBX.out).cell 0
          have ec' : (wr.setCell ⟨g, 0, none⟩ (.int .u32 ((adds z x.l : Nat) : Int))).cell? ⟨g, 0, none⟩ = some (.int .u32 ((adds z x.l : Nat) : Int)) := ec
          clear ec hc1 hf1 hcell
          generalize wr.setCell ⟨g, 0, none⟩ (.int .u32 ((adds z x.l : Nat) : Int)) = wy at *
          rw [HA.out] at ec' HBX
          have hj1 : (j : Int) + 1 ≤ (c : Int) := by omega
          have hj2 : j + 1 ≤ c := by omega
          have hj3 : ¬ c = 0 := by omega
          have hj4 : IntKind.i64.wrap ((j : Int) + 1) = (j : Int) + 1 := IntWalk.i64_in _ (by omega)
          have hj5 : (0 : Int) ≤ (j : Int) + 1 := by omega
          have hj6 : ((j : Int) + 1).toNat = j + 1 := by omega
          have HBA := Lib.hid (HBE.out.size)
          have EC : Hid (wy.drew.cell? ⟨g, 0, none⟩ = some (.int .u32 ((adds 0 (flat (L.take (j + 1))) : Nat) : Int))) := ec'
          clear ec'
          go_region_with (first
            | (go_at_call 21; refine (value_any g 0 _ EC.out).mono ?_; rintro e w' ⟨rfl, rfl⟩)
            | (go_at_call 22; refine (of_any _ (HP.out.drew.prefix_ (show j + 1 ≤ k by omega)) HBA.out (by omega)).mono ?_; rintro e w' ⟨rfl, rfl⟩))
          all_goals
            clear hj4 hj5 hj6
            go_wp2
            go_roundw
            case rel => exact ⟨j + 1, by omega, by go_num, (HBX.out.alloc _).drewN 1, (HOW.out.alloc _).drewN 1, (HBE.out.alloc HBA.out _).drew⟩
            case measure => simp [intOf]; omega
        · obtain rfl : j = k := by omega
          have hp' := h.below hbel
          have hs' := hown.seg
          have hcap := hown.max
          unfold maxLen at hcap
          have HPP := Lib.hid hp'
          have HSS := Lib.hid hs'
          have HBE := Lib.hid hbel
          have szb := hbel.size
          obtain ⟨s1, hs1⟩ : ∃ s : Int, ((adds 0 (flat L) : Nat) : Int) = s := ⟨_, rfl⟩
          have HS1 := Lib.hid hs1
          clear hp' hs' hown hbel hbx hb hs1
          go_wp2_with fail
          refine (of_eq _ HPP.out szb (by omega) s1 HS1.out).mono ?_
          rintro e w3 ⟨rfl, rfl⟩
          go_wp2_with fail
          refine (go_any 0 (by omega) ca ((HSS.out).alloc (Nat.le_refl _) (.cells #[.int .u32 s1] 40)) hflat (by simp) (by omega)).mono ?_
          rintro e w4 ⟨rfl, hb4⟩
          rw [HS1.out]
          go_wp2_with fail
          refine (alive_true _).mono ?_
          rintro e w5 ⟨rfl, hb5⟩
          go_wp2_with fail
          go_ret
          exact ⟨rfl, nextB (nextB (HBE.out.alloc szb _) (Nat.le_refl _) hb4) (Nat.le_refl _) hb5⟩

theorem sums_main {H : Type} {enc : TypeId × Value → H} {base : Nat} (W : World) {v0 : Value} {d0 : DataW H} {p0 : List MemPlace}
    (h0 : DataW.Trod enc Try.prog W 0 (fun _ => true) true 36 v0 d0 p0) (k0 : Value.okWide Try.prog W .any base 36 v0) :
    Calls Try.prog 6 #[v0] W fun e W' => e = .returned (.bool true) ∧ Below W.heap.size W W' := by
  obtain ⟨A, n, c, L, rfl, hnc, hc, hp⟩ := open_pieces Try.underlying36 Try.underlying37 Try.underlying5 (by kernel_rfl) (by kernel_rfl) h0 k0
  exact sums_walk A n c L W hp hnc hc
end Go.Proofs.Ytigebiknlodghaa.crc
