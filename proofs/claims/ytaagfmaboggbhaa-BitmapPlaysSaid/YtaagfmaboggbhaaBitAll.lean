/-
  The bitmap's All as an iterator, and the law's all, which collects what it gives.
-/
import Derived.Test.YtaagfmaboggbhaaBitLaw
import Derived.RangeFuncBox
import Derived.RangeFuncLeaves
import Derived.Shelf.Abstract
import Derived.WalkKit
import Derived.OwnWalkIn
import Derived.TacticsInMore
import Derived.LoopNIn
import Derived.LoopIn
import Derived.Maps.AppendAt
namespace Go.Proofs.Ytaagfmaboggbhaa.bit
open Go.RowKit Go.Shelf
set_option linter.unusedVariables false
attribute [local go_sem] Oper.semAt_some

/-- The set bits below a place, rising. -/
def setL (L : List Nat) (k : Nat) : List Nat := (List.range k).filter fun i => bitAt L i
theorem setL_yes {L : List Nat} {k : Nat} (h : bitAt L k = true) : setL L (k + 1) = setL L k ++ [k] := by
  unfold setL; rw [List.range_succ, List.filter_append]; simp [h]
theorem setL_no {L : List Nat} {k : Nat} (h : bitAt L k = false) : setL L (k + 1) = setL L k := by
  unfold setL; rw [List.range_succ, List.filter_append]; simp [h]
theorem setL_len (L : List Nat) (k : Nat) : (setL L k).length ≤ k := by
  have := List.length_filter_le (fun i => bitAt L i) (List.range k)
  simpa [setL] using this
theorem setL_pre (L : List Nat) (k n : Nat) (h : k ≤ n) : setL L k <+: setL L n := by
  obtain ⟨d, rfl⟩ := Nat.le.dest h
  induction d with
  | zero => exact List.prefix_refl _
  | succ d ih =>
    have h1 := ih (by omega)
    rw [Nat.add_succ]
    cases hb : bitAt L (k + d) with
    | true => rw [setL_yes hb]; exact h1.trans (List.prefix_append _ _)
    | false => rw [setL_no hb]; exact h1
theorem IsMap.below' {w w' : World} {g r n n₀ : Nat} {l : List Nat} (h : IsMap w g r n l) (hb : Below n₀ w w') (hg : g < n₀) (hr : r < n₀) : IsMap w' g r n l := ⟨h.box.below hb hg, h.row.below hb hr, h.isB, h.len, h.max⟩

set_option maxRecDepth 100000 in
set_option maxHeartbeats 1600000 in
theorem all1_in (n : Nat) (hn : 1 ≤ n) (l Bn n₀ g r nn : Nat) (L : List Nat) (J Jx : List Nat → World → Prop)
    (hY : ∀ pre (x : Nat) W, J pre W → pre.length < nn → YieldAt Fence.wide (n - 1) Try.prog l #[.int .i64 (x : Int)] W fun e W' =>
      (e = .returned (.bool true) ∧ J (pre ++ [x]) W' ∧ Below n₀ W W') ∨ (e = .returned (.bool false) ∧ Jx (pre ++ [x]) W'))
    (W : World) (hBn : W.cell? ⟨Bn, 0, none⟩ = some (.pointer (some ⟨g, 0, none⟩))) (hB0 : Bn < n₀) (hM : IsMap W g r nn L) (hg : g < n₀) (hr : r < n₀) (h0 : J [] W) :
    CallsIn Fence.wide n Try.prog 97 #[.func (.yield l) #[] #[], .pointer (some ⟨Bn, 0, none⟩)] W fun e W' => (∃ v, e = .returned v) ∧
      ((∃ ys, ys = setL L nn ∧ J ys W') ∨ (∃ pre, pre <+: setL L nn ∧ Jx pre W')) := by
  have hmax := hM.max
  have HM := Lib.hid hM
  have h1 : W.cell? ⟨g, 1, none⟩ = some (.int .i64 (nn : Int)) := (hM.box.cell 1).trans rfl
  clear hM
  refine callsIn_of_wp Try.func97 rfl trivial ?_ rfl
  simp only [Try.ntmps97, List.size_toArray, List.length_cons, List.length_nil, Nat.reduceAdd, Nat.reduceSub, Array.replicate_succ, Array.replicate_zero, List.push_toArray, List.append_toArray, List.nil_append, List.cons_append]
  gi_wp2
  gi_loopw [8] (fun iv wr => ∃ k : Nat, k ≤ nn ∧ iv = .int .i64 (k : Int) ∧ J (setL L k) wr ∧ Below n₀ W wr) (fun iv _ => nn - (intOf iv).toNat)
  case atStart => exact ⟨0, by omega, rfl, h0, Below.refl _ _⟩
  case round =>
    obtain ⟨k, hk, rfl, hJ, hb⟩ := hrel
    have hBn' : wr.cell? ⟨Bn, 0, none⟩ = some (.pointer (some ⟨g, 0, none⟩)) := (hb.cell (p := ⟨Bn, 0, none⟩) hB0).trans hBn
    have HM' := Lib.hid (HM.out.below' hb hg hr)
    have HB := Lib.hid hb
    clear hb hBn h1
    by_cases hlt : k < nn
    · have HH := Lib.hid (has_in HM'.out k hlt)
      cases hbt : bitAt L k with
      | true =>
        have HS := Lib.hid (setL_yes hbt)
        rw [hbt] at HH
        obtain ⟨fn, tmps, assign, body, hy, hR⟩ := hY (setL L k) k wr hJ (by have := setL_len L k; omega)
        clear hbt
        gi_wp2_with (refine ⟨trivial, ?_⟩; gi_at_call 13; refine (callsIn_wide.2 HH.out).mono ?_; rintro e w' ⟨rfl, rfl⟩)
        refine hR.mono ?_
        rintro e W3 (⟨rfl, hJ3, hk3⟩ | ⟨rfl, hJx3⟩)
        · gi_wp2
          go_roundw
          case rel => exact ⟨k + 1, by omega, by go_num, by rw [HS.out]; exact hJ3, HB.out.trans hk3⟩
          case measure => simp [intOf]; omega
        · gi_wp2
          refine bodyPost_ret (results_none rfl _ _ _) rfl ?_
          exact ⟨⟨_, rfl⟩, .inr ⟨setL L k ++ [k], by rw [← HS.out]; exact setL_pre L (k + 1) nn (by omega), hJx3⟩⟩
      | false =>
        have HS := Lib.hid (setL_no hbt)
        rw [hbt] at HH
        clear hbt
        gi_wp2_with (refine ⟨trivial, ?_⟩; gi_at_call 13; refine (callsIn_wide.2 HH.out).mono ?_; rintro e w' ⟨rfl, rfl⟩)
        refine ⟨fun _ h => (by cases h), ?_⟩
        gi_wp2
        go_roundw
        case rel => exact ⟨k + 1, by omega, by go_num, by rw [HS.out]; exact hJ, HB.out⟩
        case measure => simp [intOf]; omega
    · obtain rfl : k = nn := by omega
      gi_wp2
      go_end0
      exact ⟨⟨_, rfl⟩, .inl ⟨_, rfl, hJ⟩⟩

set_option maxHeartbeats 1000000 in
theorem all_in (n : Nat) (p0 : Option Addr) (w : World) :
    CallsIn Fence.wide n Try.prog 86 #[.pointer p0] w fun e w' => e = .returned (.func (.func 97) #[] #[.pointer (some ⟨w.heap.size, 0, none⟩)]) ∧ w' = w.alloc (.cells #[.pointer p0] 23) := by
  refine callsIn_of_wp Try.func86 rfl trivial ?_ rfl
  simp only [Try.ntmps86, List.size_toArray, List.length_cons, List.length_nil, Nat.reduceAdd, Nat.reduceSub, Array.replicate_succ, Array.replicate_zero, List.push_toArray, List.append_toArray, List.nil_append, List.cons_append]
  gi_wp2
  go_ret
  exact ⟨rfl, rfl⟩

theorem all_stops (n : Nat) (hn : 1 ≤ n) (Bn n₀ g r nn : Nat) (L : List Nat) (w : World) (hn₀ : n₀ ≤ w.heap.size) (hB0 : Bn < n₀)
    (hc : w.cell? ⟨Bn, 0, none⟩ = some (.pointer (some ⟨g, 0, none⟩))) (hM : IsMap w g r nn L) (hg : g < n₀) (hr : r < n₀) :
    SeqStopsK Fence.wide n Try.prog 97 #[.pointer (some ⟨Bn, 0, none⟩)] (fun x : Nat => #[Value.int .i64 (x : Int)]) (Below n₀) (fun ys => ys = setL L nn) (fun pre => pre <+: setL L nn) nn w := fun l J Jx W hW _ _ hY h0 =>
  all1_in n hn l Bn n₀ g r nn L J Jx hY W ((hW.cell (p := ⟨Bn, 0, none⟩) (show Bn < w.heap.size by omega)).trans hc) hB0 (hM.below' (hW.mono hn₀) hg hr) hg hr h0

theorem infoI : (Try.prog.info? 3).map (fun i => (i.zero, i.size, i.bytes)) = some (some (.int .i64 0), 1, 8) := by kernel_rfl
/-- Numbers as cells. -/
def ints (l : List Nat) : List Value := l.map fun x : Nat => Value.int .i64 (x : Int)
theorem ints_len (l : List Nat) : (ints l).length = l.length := by simp [ints]

theorem func_nil (k : Nat) (v : Value) (W : World) : (binOp .eql 124 (.func (.func k) #[] #[v]) .nilFunc).run Try.prog W = .ok (.bool false) W := by kernel_rfl

set_option maxRecDepth 100000 in
set_option maxHeartbeats 2000000 in
theorem all_loop (w : World) (g r nn : Nat) (L : List Nat) (hM : IsMap w g r nn L) :
    CallsIn Fence.wide 3 Try.prog 55 #[.pointer (some ⟨g, 0, none⟩)] w fun e W' => ∃ v, e = .returned v ∧ W'.ownsRow (w.heap.size + 1) 3 1 v (setL L nn).length (ints (setL L nn)) ∧ Below w.heap.size w W' := by
  have hmax := hM.max
  have hgl := hM.box.lt
  have hrl := hM.row.lt
  obtain ⟨i0, hi, hz0, hz1, hz2⟩ := info_parts infoI
  have h1 : 1 ≤ 3 := by omega
  have hfn := func_nil 97 (.pointer (some ⟨w.heap.size, 0, none⟩))
  refine callsIn_of_wp_marks Try.func55 rfl trivial ?_ rfl
  simp only [Try.ntmps55, List.size_toArray, List.length_cons, List.length_nil, Nat.reduceAdd, Nat.reduceSub, Array.replicate_succ, Array.replicate_zero, List.push_toArray, List.append_toArray, List.nil_append, List.cons_append]
  gi_wp2_with (refine ⟨trivial, ?_⟩; gi_at_call 86; refine (all_in (3 - 1) _ _).mono ?_; rintro e w' ⟨rfl, hwx⟩; have HWX := Lib.hid hwx; clear hwx)
  have hw' := HWX.out
  clear HWX
  have hsz : w'.heap.size = w.heap.size + 1 := by rw [hw']; simp
  have hbn : w'.cell? ⟨w.heap.size, 0, none⟩ = some (.pointer (some ⟨g, 0, none⟩)) := by rw [hw']; exact (Box.new w #[.pointer (some ⟨g, 0, none⟩)] 23).cell 0
  have hbl : Below w.heap.size w w' := by rw [hw']; exact (Below.refl _ w).alloc (Nat.le_refl _) _
  have hM1 := hM.below hbl
  clear hw'
  have HW := Lib.hid hbl
  have hgl1 : g < w'.heap.size := hM1.box.lt
  have hrl1 : r < w'.heap.size := hM1.row.lt
  have HM1 := Lib.hid hM1
  have bO := Boxed.new w' 85 (.slice none 0 0)
  have hB0 : Below w'.heap.size w' (w'.alloc (.cells #[.slice none 0 0] 85)) := (Below.refl _ w').alloc (Nat.le_refl _) _
  have HBN := Lib.hid (show (w'.alloc (.cells #[.slice none 0 0] 85)).cell? ⟨w.heap.size, 0, none⟩ = some (.pointer (some ⟨g, 0, none⟩)) from (World.cell?_alloc_lt w' _ ⟨w.heap.size, 0, none⟩ (by rw [hsz]; exact Nat.lt_succ_self _)).trans hbn)
  have hlt0 : w.heap.size < w'.heap.size := by omega
  have HSZ := Lib.hid hsz
  clear hbl hM1 hM hbn hgl hrl hsz hfn
  refine wpIn_rangeFunc_ownG rfl h1 (gf := 97) (lb := #[.pointer (some ⟨w.heap.size, 0, none⟩)]) rfl trivial (enters_of Try.func97 (by kernel_rfl) rfl)
    (all_stops (3 - 1) (by omega) w.heap.size w'.heap.size g r nn L _ (by simp) hlt0 HBN.out (HM1.out.alloc _) hgl1 hrl1) belowK_t (belowK_b (by simp)) (Below.refl _ _) (fun _ => rfl)
    (fun pre W => (∃ v, Boxed W w'.heap.size 85 v ∧ W.ownsRow w'.heap.size 3 1 v pre.length (ints pre) ∧ True) ∧ Below w'.heap.size w' W)
    (fun _ _ _ => False)
    (OwnFrom.and (Own.from (holdsRow_own w'.heap.size w'.heap.size 85 3 1 (fun pre => pre.length) (fun pre => ints pre) (fun pre v => True)) _) (ownFrom_below (Nat.le_refl _) (by simp)))
    (fun _ _ _ _ _ hs _ _ => hs)
    ⟨⟨_, bO, World.ownsRow_nil _ _ _ _, trivial⟩, hB0⟩
    (fun x => { tmps := #[.pointer (some ⟨g, 0, none⟩), undef, .slice none 0 0, .func (.func 97) #[] #[.pointer (some ⟨w.heap.size, 0, none⟩)], .pointer (some ⟨w'.heap.size, 0, none⟩), .int .i64 (x : Int), .pointer (some ⟨g, 0, none⟩), .func (.func 97) #[] #[.pointer (some ⟨w.heap.size, 0, none⟩)], .func (.func 97) #[] #[.pointer (some ⟨w.heap.size, 0, none⟩)], .bool false, .func (.func 97) #[] #[.pointer (some ⟨w.heap.size, 0, none⟩)], .int .i64 (x : Int), undef, undef, undef, undef, undef], defers := [] }) ?assign ?body ?done ?stop
  case assign =>
    intro l x W K hK
    gi_wp2
    exact hK
  case body =>
    rintro l pre x W ⟨⟨v, hv, hrow, _⟩, hB⟩ hlt
    have hc := hv.cell
    gi_wp2_with (gi_at_builtin; refine wpListIn_append_own _ rfl _ _ 85 rfl w'.heap.size 3 i0 (.int .i64 0) 1 8 Try.underlying85 hi hz0 hz1 hz2 rfl (by decide) _ _ _ rfl (hrow.alloc _) ⟨W.heap.size, 0, none⟩ 1 1 [.int .i64 (x : Int)] rfl rfl (cell_one_new _ _ _) (by simp [Value.oneCell']) (by unfold maxLen; omega) (by omega) (by have := hB.size; simp; omega) ?_; intro v' w1 hown' hgrow _; obtain ⟨g', cap', rfl⟩ := ownsRow_succ hown'; obtain ⟨hv1, hv2, hr2, hk2, hb2⟩ := hv.appended (by decide) hrow hB.size (Nat.le_refl _) hown' hgrow; have hc1 := hv1.cell; have hf1 := hv1.frozen)
    exact ⟨hk2.from _, hb2, ⟨_, hv2, by simpa [ints] using hr2, trivial⟩, hB.trans hb2⟩
  case done =>
    rintro D ys W hD rfl ⟨⟨v, hv, hrow, _⟩, hB⟩ hK
    have hc := hv.cell
    gi_wp2
    refine ⟨by simp, .inl ⟨_, _, rfl, run_takeDeferred hK, ?_⟩⟩
    refine ⟨_, results_tmp rfl _ _ _, v, rfl, ?_, ?_⟩
    · rw [← HSZ.out]; exact ownsRow_putObj hrow _ hK rfl
    · exact HW.out.trans ((hB.trans (belowK_b (w := w') (Nat.le_refl _) W D _ _ (by simp at hD; omega) hK rfl rfl)).mono (by rw [HSZ.out]; omega))
  case stop =>
    rintro D c pre W _ _ h _
    exact h.elim

/-- The law's all. -/
theorem lall_any {w : World} {g r n : Nat} {L : List Nat} (hM : IsMap w g r n L) :
    Calls Try.prog 55 #[.pointer (some ⟨g, 0, none⟩)] w fun e W' => ∃ A c, e = .returned (.slice A (setL L n).length c) ∧ Own W' (w.heap.size + 1) 3 A (setL L n).length c (ints (setL L n)) ∧ Below w.heap.size w W' := by
  refine (callsIn_wide (n := 3)).1 ((all_loop w g r n L hM).mono ?_)
  rintro e W' ⟨v, rfl, ho, hb⟩
  rcases ho.2 with ⟨hv, h0⟩ | ⟨g', cap, cur, hv, _⟩
  · subst hv
    refine ⟨none, 0, by rw [h0], ?_, hb⟩
    have := ho
    rw [h0] at this ⊢
    exact this
  · subst hv
    exact ⟨_, cap, rfl, ho, hb⟩
end Go.Proofs.Ytaagfmaboggbhaa.bit
