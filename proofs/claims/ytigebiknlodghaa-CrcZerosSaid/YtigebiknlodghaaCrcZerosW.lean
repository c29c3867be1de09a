/-
  The walk of the law CrcZeros.
-/
import Derived.Test.YtigebiknlodghaaCrc
import Derived.Test.YtigebiknlodghaaCrcRef
import Derived.WalkLawsBesides
import Derived.Deep.RegionWith
import Derived.Test.YtigebiknlodghaaMake
namespace Go.Proofs.Ytigebiknlodghaa.crc
open Go.RowKit Go.ChangeShapes Go.WideShapes
set_option linter.unusedVariables false

set_option maxHeartbeats 800000 in
theorem zeros_walk (s : Nat) (hs : s < 4294967296) (n : Int) (n0 : -9223372036854775808 ≤ n) (n1 : n ≤ 9223372036854775807) (w : World) :
    Calls Try.prog 9 #[.int .u32 (s : Int), .int .i64 n] w fun e w' => e = .returned (.bool true) ∧ Below w.heap.size w w' := by
  by_cases c1 : 300 < n
  · go_enter Try.func9, Try.ntmps9
    go_wp2
    go_ret
    exact ⟨rfl, Below.refl _ _⟩
  by_cases c2 : 0 ≤ n
  · obtain ⟨m, rfl⟩ := Int.eq_ofNat_of_zero_le c2
    have hmk := fun W => run_mk elemB rfl m (by omega) (by omega) W
    go_enter Try.func9, Try.ntmps9
    go_wp2
    go_region_with (first
      | (go_at_call 28; refine (zeros_any s hs _ (by omega) _).mono ?_; rintro e w1 ⟨rfl, hb⟩)
      | (go_at_call 23; refine (go_any s hs m (l := List.replicate m 0) (by rw [bts_rep]; first | exact Seg.made _ _ m _ | exact (Seg.made _ _ m _).drew.below (hb.mono (by simp))) (IsB.rep m) (by first | (simp; done) | (have := hb.size; simp at this ⊢; omega)) (by omega)).mono ?_; rintro e w2 ⟨rfl, hb2⟩)
      | (go_at_call 24; refine (alive_true _).mono ?_; rintro e w3 ⟨rfl, hb3⟩))
    all_goals
      go_wp2
      go_ret
      refine ⟨rfl, ?_⟩
      first
        | exact nextB (nextB ((ofDrew hb).alloc hb.size _) (Nat.le_refl _) hb2) (Nat.le_refl _) hb3
        | exact nextB (nextB (nextB ((Below.refl _ _).alloc (Nat.le_refl _) _) (Nat.le_refl _) (ofDrew hb)) (Nat.le_refl _) hb2) (Nat.le_refl _) hb3
  · have hz : n.toNat = 0 := by omega
    have hzs := zeros_any s hs n (by omega)
    rw [hz] at hzs
    have HZS := Lib.hid hzs
    have hmk : ∀ W : World, (Instr.makeSlice 37 (.int .i64 0) (.int .i64 0)).run Try.prog W = .ok (.slice (some ⟨W.heap.size, 0, none⟩) 0 0) (W.alloc (.cells (made (.int .u8 0) 0) 5)) := fun W => run_mk elemB rfl 0 (by omega) (by omega) W
    clear hzs hz
    go_enter Try.func9, Try.ntmps9
    go_wp2
    go_region_with (first
      | (go_at_call 28; refine (HZS.out _).mono ?_; rintro e w1 ⟨rfl, hb⟩)
      | (go_at_call 23; refine (go_any s hs 0 (l := []) (by first | exact Seg.made _ _ 0 _ | exact (Seg.made _ _ 0 _).drew.below (hb.mono (by simp))) IsB.nil (by first | (simp; done) | (have := hb.size; simp at this ⊢; omega)) (by omega)).mono ?_; rintro e w2 ⟨rfl, hb2⟩)
      | (go_at_call 24; refine (alive_true _).mono ?_; rintro e w3 ⟨rfl, hb3⟩))
    all_goals
      go_wp2
      go_ret
      refine ⟨rfl, ?_⟩
      first
        | exact nextB (nextB ((ofDrew hb).alloc hb.size _) (Nat.le_refl _) hb2) (Nat.le_refl _) hb3
        | exact nextB (nextB (nextB ((Below.refl _ _).alloc (Nat.le_refl _) _) (Nat.le_refl _) (ofDrew hb)) (Nat.le_refl _) hb2) (Nat.le_refl _) hb3

theorem zeros_main {H : Type} {enc : TypeId × Value → H} {base : Nat} (W : World) {v0 v1 : Value} {d0 d1 : DataW H} {p0 p1 : List MemPlace}
    (h0 : DataW.Trod enc Try.prog W 0 (fun _ => true) true 31 v0 d0 p0) (k0 : Value.okWide Try.prog W .any base 31 v0)
    (h1 : DataW.Trod enc Try.prog W 0 (fun _ => true) true 3 v1 d1 p1) (k1 : Value.okWide Try.prog W .any base 3 v1) :
    Calls Try.prog 9 #[v0, v1] W fun e W' => e = .returned (.bool true) ∧ Below W.heap.size W W' := by
  obtain ⟨a0, rfl, rfl, rfl, w0⟩ := open_int Try.underlying31 k0 h0
  obtain ⟨a1, rfl, rfl, rfl, w1⟩ := open_int Try.underlying3 k1 h1
  obtain ⟨s, rfl⟩ := Int.eq_ofNat_of_zero_le (u32_bd w0).1
  exact zeros_walk s (by have := (u32_bd w0).2; omega) a1 (i64_bd w1).1 (i64_bd w1).2 W
end Go.Proofs.Ytigebiknlodghaa.crc
