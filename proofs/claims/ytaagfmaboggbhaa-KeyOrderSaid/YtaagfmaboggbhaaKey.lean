/-
  Keys: the walks of cmp.Compare, key.Compare, key.Less and of the document's comparison.
-/
import Derived.Test.YtaagfmaboggbhaaMake
import Derived.Test.YtaagfmaboggbhaaBytes
import Derived.WalkLawsBesides
import Derived.Deep.QuietTactic
import Derived.BigQuiet
import Derived.Lib.SmallJoins
import Derived.Lib.Hide
import Derived.Deep.RegionWith
import Derived.Deep.RegionLaw
import Derived.Laws.Tables
namespace Go.Proofs.Ytaagfmaboggbhaa.key
open Go.RowKit
set_option linter.unusedVariables false

/-- What is said of two numbers: the first test that differs. -/
def cmpI (x y : Int) : Int := if x < y then -1 else if y < x then 1 else 0

theorem cmp16 (x y : Int) (w : World) : Calls Try.prog 48 #[.int .u16 x, .int .u16 y] w fun e w' => e = .returned (.int .i64 (cmpI x y)) ∧ w = w' := by
  unfold cmpI
  by_cases h1 : x < y
  · rw [if_pos h1]
    go_enter Try.func48, Try.ntmps48
    go_wp2
    go_ret
    exact ⟨rfl, rfl⟩
  · rw [if_neg h1]
    by_cases h2 : y < x
    · rw [if_pos h2]
      go_enter Try.func48, Try.ntmps48
      go_wp2
      go_ret
      exact ⟨rfl, rfl⟩
    · rw [if_neg h2]
      go_enter Try.func48, Try.ntmps48
      go_wp2
      go_ret
      exact ⟨rfl, rfl⟩

theorem cmp32 (x y : Int) (w : World) : Calls Try.prog 49 #[.int .u32 x, .int .u32 y] w fun e w' => e = .returned (.int .i64 (cmpI x y)) ∧ w = w' := by
  unfold cmpI
  by_cases h1 : x < y
  · rw [if_pos h1]
    go_enter Try.func49, Try.ntmps49
    go_wp2
    go_ret
    exact ⟨rfl, rfl⟩
  · rw [if_neg h1]
    by_cases h2 : y < x
    · rw [if_pos h2]
      go_enter Try.func49, Try.ntmps49
      go_wp2
      go_ret
      exact ⟨rfl, rfl⟩
    · rw [if_neg h2]
      go_enter Try.func49, Try.ntmps49
      go_wp2
      go_ret
      exact ⟨rfl, rfl⟩

theorem cmp64 (x y : Int) (w : World) : Calls Try.prog 50 #[.int .u64 x, .int .u64 y] w fun e w' => e = .returned (.int .i64 (cmpI x y)) ∧ w = w' := by
  unfold cmpI
  by_cases h1 : x < y
  · rw [if_pos h1]
    go_enter Try.func50, Try.ntmps50
    go_wp2
    go_ret
    exact ⟨rfl, rfl⟩
  · rw [if_neg h1]
    by_cases h2 : y < x
    · rw [if_pos h2]
      go_enter Try.func50, Try.ntmps50
      go_wp2
      go_ret
      exact ⟨rfl, rfl⟩
    · rw [if_neg h2]
      go_enter Try.func50, Try.ntmps50
      go_wp2
      go_ret
      exact ⟨rfl, rfl⟩

/-- A key's order. -/
def cmpK (v b s v' b' s' : Int) : Int := if cmpI v v' ≠ 0 then cmpI v v' else if cmpI b b' ≠ 0 then cmpI b b' else cmpI s s'

set_option maxHeartbeats 800000 in
theorem orI (x y z r : Int) (hr : (if x ≠ 0 then x else if y ≠ 0 then y else z) = r) (w : World) (g : Nat) (h0 : w.cell? ⟨g, 0, none⟩ = some (.int .i64 x)) (h1 : w.cell? ⟨g, 1, none⟩ = some (.int .i64 y)) (h2 : w.cell? ⟨g, 2, none⟩ = some (.int .i64 z)) :
    Calls Try.prog 47 #[.slice (some ⟨g, 0, none⟩) 3 3] w fun e w' => e = .returned (.int .i64 r) ∧ w = w' := by
  have HR := Lib.hid hr
  clear hr
  go_enter Try.func47, Try.ntmps47
  go_wp2
  go_loop [8] (fun i => (i = .int .i64 0) ∨ (i = .int .i64 1 ∧ Hid (x = 0)) ∨ (i = .int .i64 2 ∧ Hid (x = 0 ∧ y = 0)) ∨ (i = .int .i64 3 ∧ Hid (x = 0 ∧ y = 0 ∧ z = 0))) (fun i => 3 - (intOf i).toNat)
  case atStart => exact .inl rfl
  case round =>
    rcases hrel with rfl | ⟨rfl, hx⟩ | ⟨rfl, hx⟩ | ⟨rfl, hx⟩
    · by_cases hz : x = 0
      · have HZ := Lib.hid hz
        rw [hz] at h0
        clear hz
        go_wp2
        go_round
        case rel => exact .inr (.inl ⟨rfl, HZ⟩)
        case measure => simp [intOf]
      · have hr : r = x := by rw [← HR.out, if_pos hz]
        subst hr
        have t1 : (r != 0) = true := by rw [bne_iff_ne]; exact hz
        have t2 : (r == 0) = false := by rw [beq_eq_false_iff_ne]; exact hz
        clear hz
        go_wp2
        go_ret
        exact ⟨rfl, rfl⟩
    · by_cases hz : y = 0
      · have HZ := Lib.hid hz
        rw [hz] at h1
        clear hz
        go_wp2
        go_round
        case rel => exact .inr (.inr (.inl ⟨rfl, Lib.hid ⟨hx.out, HZ.out⟩⟩))
        case measure => simp [intOf]
      · have hr : r = y := by rw [← HR.out, hx.out, if_neg (by simp), if_pos hz]
        subst hr
        have t1 : (r != 0) = true := by rw [bne_iff_ne]; exact hz
        have t2 : (r == 0) = false := by rw [beq_eq_false_iff_ne]; exact hz
        clear hz
        go_wp2
        go_ret
        exact ⟨rfl, rfl⟩
    · by_cases hz : z = 0
      · have HZ := Lib.hid hz
        rw [hz] at h2
        clear hz
        go_wp2
        go_round
        case rel => exact .inr (.inr (.inr ⟨rfl, Lib.hid ⟨hx.out.1, hx.out.2, HZ.out⟩⟩))
        case measure => simp [intOf]
      · have hr : r = z := by rw [← HR.out, hx.out.1, hx.out.2, if_neg (by simp), if_neg (by simp)]
        subst hr
        have t1 : (r != 0) = true := by rw [bne_iff_ne]; exact hz
        have t2 : (r == 0) = false := by rw [beq_eq_false_iff_ne]; exact hz
        clear hz
        go_wp2
        go_ret
        exact ⟨rfl, rfl⟩
    · have hr : r = 0 := by rw [← HR.out, hx.out.1, hx.out.2.1, hx.out.2.2]; rfl
      subst hr
      go_wp2
      go_ret
      exact ⟨rfl, rfl⟩

theorem below_drewN {B : Nat} {a w : World} (h : Below B a w) (n : Nat) : Below B a (w.drewN n) := ⟨h.os, h.tape, h.output, h.size, h.block⟩

theorem cell_new (W : World) (cs : Array Value) (t : TypeId) (g k : Nat) (v : Value) (hg : g = W.heap.size) (h : cs[k]? = some v) : (W.alloc (.cells cs t)).cell? ⟨g, k, none⟩ = some v := by
  subst hg
  rw [(Box.new W cs t).cell k]; exact h

theorem cell_newD (W : World) (cs : Array Value) (t : TypeId) (g k : Nat) (v : Value) (hg : g = W.heap.size) (h : cs[k]? = some v) : (W.alloc (.cells cs t)).drew.cell? ⟨g, k, none⟩ = some v := cell_new W cs t g k v hg h

theorem cell_old {W : World} {o : Obj} {g k : Nat} (h : g < W.heap.size) : (W.alloc o).cell? ⟨g, k, none⟩ = W.cell? ⟨g, k, none⟩ := by
  unfold World.cell?
  rw [Below.heap_alloc W o g h]

set_option maxHeartbeats 3200000 in
theorem law_any (v b s v' b' s' : Int) (a0 : 0 ≤ v) (a1 : v ≤ 65535) (b0 : 0 ≤ b) (b1 : b ≤ 4294967295) (c0 : 0 ≤ v') (c1 : v' ≤ 65535) (d0 : 0 ≤ b') (d1 : b' ≤ 4294967295) (w : World) :
    Calls Try.prog 25 #[.agg #[.int .u16 v, .int .u32 b, .int .u64 s], .agg #[.int .u16 v', .int .u32 b', .int .u64 s']] w fun e w' => e = .returned (.int .i64 (cmpK v b s v' b' s')) ∧ Below w.heap.size w w' := by
  go_enter Try.func25, Try.ntmps25
  have hcmp : cmpK v b s v' b' s' = if v < v' then -1 else if v' < v then 1 else if b < b' then -1 else if b' < b then 1 else if s < s' then -1 else if s' < s then 1 else 0 := by
    unfold cmpK cmpI
    repeat' split
    all_goals first | omega | simp_all
  have HC := Lib.hid hcmp
  generalize hr : cmpK v b s v' b' s' = r at *
  clear hcmp hr
  go_wp2
  have q0 := fun k u h => cell_new ((w.alloc (Obj.cells #[Value.int IntKind.u16 v, Value.int IntKind.u32 b, Value.int IntKind.u64 s] 49)).alloc (Obj.cells #[Value.int IntKind.u16 v', Value.int IntKind.u32 b', Value.int IntKind.u64 s'] 49)) #[Value.int IntKind.u64 v, Value.int IntKind.u64 b, Value.int IntKind.u64 s] 80 (w.heap.size + 1 + 1) k u (by simp) h
  go_loopw [7] (fun i wr => (wr.cell? ⟨w.heap.size + 1 + 1, 0, none⟩ = some (.int .u64 v) ∧ wr.cell? ⟨w.heap.size + 1 + 1, 1, none⟩ = some (.int .u64 b) ∧ wr.cell? ⟨w.heap.size + 1 + 1, 2, none⟩ = some (.int .u64 s) ∧ wr.cell? ⟨w.heap.size + 1 + 1 + 1, 0, none⟩ = some (.int .u64 v') ∧ wr.cell? ⟨w.heap.size + 1 + 1 + 1, 1, none⟩ = some (.int .u64 b') ∧ wr.cell? ⟨w.heap.size + 1 + 1 + 1, 2, none⟩ = some (.int .u64 s') ∧ Hid (Below w.heap.size w wr)) ∧ ((i = .int .i64 0) ∨ (i = .int .i64 1 ∧ Hid (v = v')) ∨ (i = .int .i64 2 ∧ Hid (v = v' ∧ b = b')) ∨ (i = .int .i64 3 ∧ Hid (v = v' ∧ b = b' ∧ s = s')))) (fun i _ => 3 - (intOf i).toNat)
  case atStart =>
    refine ⟨⟨?_, ?_, ?_, cell_new _ _ _ _ _ _ (by simp) rfl, cell_new _ _ _ _ _ _ (by simp) rfl, cell_new _ _ _ _ _ _ (by simp) rfl, Lib.hid ((((Below.refl _ w).alloc (Nat.le_refl _) _).alloc (by simp) _).alloc (by simp; omega) _ |>.alloc (by simp; omega) _)⟩, .inl rfl⟩
    · rw [cell_old (by simp)]; exact q0 0 _ rfl
    · rw [cell_old (by simp)]; exact q0 1 _ rfl
    · rw [cell_old (by simp)]; exact q0 2 _ rfl
  case round =>
    clear q0
    obtain ⟨⟨g0, g1, g2, g3, g4, g5, HB⟩, hrel⟩ := hrel
    rcases hrel with rfl | ⟨rfl, hx⟩ | ⟨rfl, hx⟩ | ⟨rfl, hx⟩
    · by_cases l1 : v < v'
      · have hr : r = -1 := by rw [HC.out]; (repeat' split) <;> omega
        have HR := Lib.hid hr
        clear hr
        go_wp2
        go_region_with fail
        all_goals
          go_wp2
          go_ret
          refine ⟨by rw [HR.out]; rfl, ?_⟩
          first | exact HB.out | exact HB.out.drew | exact HB.out.drew.drew | exact below_drewN HB.out _
      · by_cases l2 : v' < v
        · have hr : r = 1 := by rw [HC.out]; (repeat' split) <;> omega
          have HR := Lib.hid hr
          clear hr
          go_wp2
          go_region_with fail
          all_goals
            go_wp2
            go_region_with fail
            all_goals
              go_wp2
              go_ret
              refine ⟨by rw [HR.out]; rfl, ?_⟩
              first | exact HB.out | exact HB.out.drew | exact HB.out.drew.drew | exact below_drewN HB.out _
        · have HZ := Lib.hid (show v = v' by omega)
          go_wp2
          go_region_with fail
          all_goals
            go_wp2
            go_region_with fail
            all_goals
              go_wp2
              go_roundw
              case rel => refine ⟨⟨g0, g1, g2, g3, g4, g5, Lib.hid (by first | exact HB.out | exact HB.out.drew | exact HB.out.drew.drew)⟩, ?_⟩; exact .inr (.inl ⟨rfl, HZ⟩)
              case measure => simp [intOf]
    · by_cases l1 : b < b'
      · have hr : r = -1 := by rw [HC.out]; have := hx.out; (repeat' split) <;> omega
        have HR := Lib.hid hr
        clear hr
        go_wp2
        go_region_with fail
        all_goals
          go_wp2
          go_ret
          refine ⟨by rw [HR.out]; rfl, ?_⟩
          first | exact HB.out | exact HB.out.drew | exact HB.out.drew.drew | exact below_drewN HB.out _
      · by_cases l2 : b' < b
        · have hr : r = 1 := by rw [HC.out]; have := hx.out; (repeat' split) <;> omega
          have HR := Lib.hid hr
          clear hr
          go_wp2
          go_region_with fail
          all_goals
            go_wp2
            go_region_with fail
            all_goals
              go_wp2
              go_ret
              refine ⟨by rw [HR.out]; rfl, ?_⟩
              first | exact HB.out | exact HB.out.drew | exact HB.out.drew.drew | exact below_drewN HB.out _
        · have HZ := Lib.hid (show b = b' by omega)
          go_wp2
          go_region_with fail
          all_goals
            go_wp2
            go_region_with fail
            all_goals
              go_wp2
              go_roundw
              case rel => refine ⟨⟨g0, g1, g2, g3, g4, g5, Lib.hid (by first | exact HB.out | exact HB.out.drew | exact HB.out.drew.drew)⟩, ?_⟩; exact .inr (.inr (.inl ⟨rfl, Lib.hid ⟨hx.out, HZ.out⟩⟩))
              case measure => simp [intOf]
    · by_cases l1 : s < s'
      · have hr : r = -1 := by rw [HC.out]; have := hx.out.1; have := hx.out.2; (repeat' split) <;> omega
        have HR := Lib.hid hr
        clear hr
        go_wp2
        go_region_with fail
        all_goals
          go_wp2
          go_ret
          refine ⟨by rw [HR.out]; rfl, ?_⟩
          first | exact HB.out | exact HB.out.drew | exact HB.out.drew.drew | exact below_drewN HB.out _
      · by_cases l2 : s' < s
        · have hr : r = 1 := by rw [HC.out]; have := hx.out.1; have := hx.out.2; (repeat' split) <;> omega
          have HR := Lib.hid hr
          clear hr
          go_wp2
          go_region_with fail
          all_goals
            go_wp2
            go_region_with fail
            all_goals
              go_wp2
              go_ret
              refine ⟨by rw [HR.out]; rfl, ?_⟩
              first | exact HB.out | exact HB.out.drew | exact HB.out.drew.drew | exact below_drewN HB.out _
        · have HZ := Lib.hid (show s = s' by omega)
          go_wp2
          go_region_with fail
          all_goals
            go_wp2
            go_region_with fail
            all_goals
              go_wp2
              go_roundw
              case rel => refine ⟨⟨g0, g1, g2, g3, g4, g5, Lib.hid (by first | exact HB.out | exact HB.out.drew | exact HB.out.drew.drew)⟩, ?_⟩; exact .inr (.inr (.inr ⟨rfl, Lib.hid ⟨hx.out.1, hx.out.2, HZ.out⟩⟩))
              case measure => simp [intOf]
    · have hr : r = 0 := by rw [HC.out]; have := hx.out.1; have := hx.out.2.1; have := hx.out.2.2; (repeat' split) <;> omega
      have HR := Lib.hid hr
      clear hr
      go_wp2
      go_ret
      refine ⟨by rw [HR.out]; rfl, ?_⟩
      first | exact HB.out | exact HB.out.drew | exact HB.out.drew.drew | exact below_drewN HB.out _
end Go.Proofs.Ytaagfmaboggbhaa.key
