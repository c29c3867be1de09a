/-
  The walk of delta.Apply.
-/
import Derived.Test.YtaagfmaboggbhaaDelta
import Derived.Laws.CopyOwn
import Derived.Test.YtaagfmaboggbhaaDrawn
namespace Go.Proofs.Ytaagfmaboggbhaa.delta
open Go.RowKit
set_option linter.unusedVariables false

theorem run_copy_zero {P : Program} (w : World) (dT sT ty elem : TypeId) (hu : P.underlying dT = some (.slice elem)) (hsz : (P.info? elem).map (·.size) = some 1) (dp sp : Option Addr) (n dc sc : Nat) :
    (Builtin.copy_ #[dT, sT] ty #[.slice dp n dc, .slice sp 0 sc]).run P w = .ok (goInt 0) w := run_copy_none (P := P) w dT sT ty elem dp sp n dc 0 sc hu hsz (by simp)
/-- copy into a row of the call's own, from a place on. -/
theorem run_copyO {P : Program} {w : World} (dT sT ty elem : TypeId) (hu : P.underlying dT = some (.slice elem)) (hsz : (P.info? elem).map (·.size) = some 1)
    {base n c : Nat} {A : Option Addr} {o : List Nat} (hown : Own w base elem A n c (bts o)) (k dc : Nat) {B m : Nat} {A2 : Option Addr} (c2 : Nat) {d : List Nat} (hs : Seg w B A2 m (bts d)) (hm : 0 < m) (hk : k + m ≤ n) :
    ∃ w', (Builtin.copy_ #[dT, sT] ty #[.slice (A.map (·.add k)) (n - k) dc, .slice A2 m c2]).run P w = .ok (goInt m) w' ∧ Own w' base elem A n c (bts (lay o k d)) ∧ w.grownBy w' (blk A) := by
  have hl : (bts d).length = m := hs.1
  have hdl : d.length = m := by rw [← bts_len]; exact hl
  have hol : o.length = n := by rw [← bts_len]; exact hown.len
  rcases hown.2 with ⟨hv, h00⟩ | ⟨g, cap, cur, hv, hbg, hg, hnc, hcm, hcs, htake⟩
  · injection hv with hv1 hv2 hv3; omega
  · injection hv with hv1 hv2 hv3
    subst hv1 hv3
    obtain ⟨b, off, rfl, _, hcell⟩ := hs.2 (by omega)
    have hadd : (some (⟨g, 0, none⟩ : Addr)).map (·.add k) = some ⟨g, k, none⟩ := by
      simp only [Option.map_some, Addr.add]
      split
      · subst_vars; rfl
      · simp
    have hsize : cur.size = c := by omega
    have hrun := run_copy_row (P := P) w dT sT ty elem g k (n - k) dc ⟨b, off, none⟩ m c2 cur elem (bts d) hu hsz hg (by rw [hl]; exact (Nat.min_eq_left (by omega)).symm) (fun j v hj => by
      have := hcell j v hj
      unfold Addr.add
      split
      · subst_vars; simpa using this
      · exact this) (by omega) (bts_one d)
    rw [hadd]
    rw [hl] at hrun
    refine ⟨_, hrun, ⟨by rw [bts_len, lay_len o k d (by omega)]; omega, .inr ⟨g, c, _, rfl, hbg, setRow_heap w g cur _ elem _ hg, hnc, hcm, ?_, ?_⟩⟩, ⟨rfl, rfl, rfl, by simp, fun i _ hi => setRow_other w g i _ (fun e => hi (by rw [e]; rfl))⟩⟩
    · simp only [List.size_toArray, List.length_append, List.length_take, List.length_drop, Array.length_toList]
      omega
    · rw [Nat.mul_one] at htake ⊢
      have e1 : cur.toList.take k = (bts o).take k := by rw [← htake, List.take_take, Nat.min_eq_left (by omega)]
      have e2 : (cur.toList.drop (k + m)).take (n - (k + m)) = (bts o).drop (k + m) := by rw [← htake, List.drop_take]
      show List.take n (cur.toList.take k ++ bts d ++ cur.toList.drop (k + m)) = _
      rw [e1, List.take_append, List.take_of_length_le (by simp [bts_len]; omega)]
      have e3 : n - ((bts o).take k ++ bts d).length = n - (k + m) := by simp [bts_len]; omega
      rw [e3, e2]
      unfold lay
      rw [bts_app, bts_app, bts_take, bts_drop, hdl]
theorem lay_nil (o : List Nat) (s : Nat) (d : List Nat) (h : d = []) : lay o s d = o := by subst h; simp [lay]
/-- Applied as far as it goes. -/
def appd (o : List Nat) (L : List Ed) : List Nat := doAll o (es L)
theorem appd_snoc (o : List Nat) (L : List Ed) {k : Nat} (h : k < L.length) : appd o (L.take (k + 1)) = lay (appd o (L.take k)) L[k].pos.toNat L[k].x.l := by
  unfold appd; rw [es_take_succ L h, doAll_snoc]; rfl

set_option maxRecDepth 100000 in
set_option maxHeartbeats 1600000 in
/-- delta.Apply, no edit beyond the bytes. -/
theorem apply_ok {w : World} {A A2 : Option Addr} {n c m c2 : Nat} {a : List Nat} {L : List Ed} (h : Seg w w.heap.size A n (bts a)) (ha : IsB a) (hE : EdSeg w w.heap.size A2 m L) (hf : ∀ z ∈ L, fits n z.e = true) (hn : n ≤ 100000) (hm : m ≤ 100000) :
    Calls Try.prog 19 #[.slice A n c, .slice A2 m c2] w fun e w' => ∃ A' c', e = .returned (.tuple #[.slice A' n c', .int .i64 0]) ∧ Own w' w.heap.size 5 A' n c' (bts (appd a L)) ∧ Below w.heap.size w w' := by
  have hal : a.length = n := by rw [← bts_len]; exact h.1
  have HAL := Lib.hid hal
  have HS := Lib.hid h
  have HE := Lib.hid hE
  have HF := Lib.hid hf
  have HL := Lib.hid hE.len
  have HUB := Lib.hid Try.underlying22
  have HSZ := Lib.hid (show (Try.prog.info? 5).map (·.size) = some 1 by kernel_rfl)
  clear h hE hf hal
  go_enter Try.func19, Try.ntmps19
  go_wp2_with ((at_builtin; refine wpList_app _ rfl (.const (.slice none 0 0)) (.tmp 9) elemB rfl w.heap.size rfl (Own.nil _ _ _) w.heap.size rfl HS.out (bts_one _) (by unfold maxLen; omega) (by omega) (Nat.le_refl _) ?_; intro A1 c1 w1 hown hg hat; simp only [Nat.zero_add, List.nil_append] at hown; have HO := Lib.hid hown; have HB := Lib.hid (below_app (Below.refl _ _) (Nat.le_refl _) (Nat.le_refl _) (Own.nil w w.heap.size 5) hg); clear hown hg hat))
  go_loopw [13] (fun i wr => ∃ k : Nat, k ≤ m ∧ i = .int .i64 (k : Int) ∧ Own wr w.heap.size 5 A1 n c1 (bts (appd a (L.take k))) ∧ Below w.heap.size w wr) (fun i _ => m - (intOf i).toNat)
  case atStart => exact ⟨0, by omega, rfl, by simpa [appd, doAll, es] using HO.out, HB.out⟩
  case round =>
    obtain ⟨k, hk, rfl, hown, hb⟩ := hrel
    have HOr := Lib.hid hown
    have HBr := Lib.hid hb
    clear hown hb
    by_cases hlt : k < m
    · obtain ⟨b, off, hkl, rfl, hbb, k0, k1, hp⟩ := (HE.out.below HBr.out).at_ hlt
      have hst := Lib.hid (appd_snoc a L hkl)
      have hfz := fits_toNat (HF.out _ (List.getElem_mem hkl))
      have HP := Lib.hid hp
      have hpl := hp.len
      clear hp
      simp only [Ed.e] at hfz
      rw [hpl] at hfz
      obtain ⟨p, hpp⟩ : ∃ p : Nat, (p : Int) = L[k].pos := ⟨_, hfz.2⟩
      rw [← hpp] at k0 hst hfz
      simp only [Int.toNat_natCast] at hst hfz
      have hfz := hfz.1
      clear hpp hpl
      generalize L[k].x = x at *
      have i0 : (0 : Int) ≤ (p : Int) := by omega
      have i1 : (p : Int) ≤ (n : Int) := by omega
      have hnc := HOr.out.cap
      have i2 : (n : Int) ≤ (c1 : Int) := by omega
      by_cases hx0 : 0 < x.n
      · have hck : ¬ c1 = p := by omega
        have HP2 := Lib.hid (HP.out.below ((Below.refl _ wr).alloc HBr.out.size (Obj.cells #[.int .i64 (p : Int), .slice x.A x.n x.c] 43)))
        have HXE := Lib.hid (show Box (wr.alloc (Obj.cells #[.int .i64 (p : Int), .slice x.A x.n x.c] 43)).drew wr.heap.size 43 #[.int .i64 (p : Int), .slice x.A x.n x.c] from Box.new wr #[.int .i64 (p : Int), .slice x.A x.n x.c] 43)
        go_wp2_with fail
        refine wp_region_held_drew (S := (fun wx => wx.cell? ⟨wr.heap.size, 0, none⟩ = some (.int .i64 (p : Int)) ∧ wx.cell? ⟨wr.heap.size, 1, none⟩ = some (.slice x.A x.n x.c))) (by kernel_rfl) ⟨(HXE.out.cell 0).trans rfl, (HXE.out.cell 1).trans rfl⟩ (fun hHeld => ?_)
        refine takeH (i := 0) (d := 38) (v := .slice A1 n c1) rfl rfl (by kernel_rfl) (by kernel_rfl) (by kernel_rfl) (fun _ _ _ h => h) (by rfl) ?_ hHeld ?_
        · intro wz hSw
          (try dsimp only at hSw)
          go_simp
        simp only [List.setIfInBounds_toArray, List.set_cons_zero, List.set_cons_succ]
        refine takeH (i := 1) (d := 39) (v := .pointer (some ⟨wr.heap.size, 0, none⟩)) rfl rfl (by kernel_rfl) (by kernel_rfl) (by kernel_rfl) (fun _ _ _ h => h) (by rfl) ?_ hHeld ?_
        · intro wz hSw
          (try dsimp only at hSw)
          go_simp
        simp only [List.setIfInBounds_toArray, List.set_cons_zero, List.set_cons_succ]
        refine takeH (i := 2) (d := 40) (v := .int .i64 (p : Int)) rfl rfl (by kernel_rfl) (by kernel_rfl) (by kernel_rfl) (fun _ _ _ h => h) (by rfl) ?_ hHeld ?_
        · intro wz hSw
          (try dsimp only at hSw)
          go_simp
        simp only [List.setIfInBounds_toArray, List.set_cons_zero, List.set_cons_succ]
        refine takeH (i := 3) (d := 41) (v := .slice (A1.map (·.add p)) (n - p) (c1 - p)) rfl rfl (by kernel_rfl) (by kernel_rfl) (by kernel_rfl) (fun _ _ _ h => h) (by rfl) ?_ hHeld ?_
        · intro wz hSw
          (try dsimp only at hSw)
          go_simp
        simp only [List.setIfInBounds_toArray, List.set_cons_zero, List.set_cons_succ]
        refine takeH (i := 4) (d := 42) (v := .pointer (some ⟨wr.heap.size, 1, none⟩)) rfl rfl (by kernel_rfl) (by kernel_rfl) (by kernel_rfl) (fun _ _ _ h => h) (by rfl) ?_ hHeld ?_
        · intro wz hSw
          (try dsimp only at hSw)
          go_simp
        simp only [List.setIfInBounds_toArray, List.set_cons_zero, List.set_cons_succ]
        refine takeH (i := 5) (d := 43) (v := .slice x.A x.n x.c) rfl rfl (by kernel_rfl) (by kernel_rfl) (by kernel_rfl) (fun _ _ _ h => h) (by rfl) ?_ hHeld ?_
        · intro wz hSw
          (try dsimp only at hSw)
          go_simp
        simp only [List.setIfInBounds_toArray, List.set_cons_zero, List.set_cons_succ]
        obtain ⟨w2, hrun, hown2, hg2⟩ := run_copyO (P := Try.prog) (w := (wr.alloc (Obj.cells #[.int .i64 (p : Int), .slice x.A x.n x.c] 43)).drew) 22 22 3 5 HUB.out HSZ.out ((HOr.out.alloc (Obj.cells #[.int .i64 (p : Int), .slice x.A x.n x.c] 43)).drew) p (c1 - p) x.c HP2.out.seg.drew hx0 hfz
        have HXE2 := Lib.hid (HXE.out.grown hg2 (fun e => by have h9 := (HOr.out.lt _ e.symm).2; omega))
        have HO2 := Lib.hid hown2
        have HB2 := Lib.hid (below_app ((HBr.out.alloc HBr.out.size (Obj.cells #[.int .i64 (p : Int), .slice x.A x.n x.c] 43)).drew) (Nat.le_refl _) (Nat.le_trans HBr.out.size (by simp)) ((HOr.out.alloc (Obj.cells #[.int .i64 (p : Int), .slice x.A x.n x.c] 43)).drew) hg2)
        have HRUN := Lib.hid hrun
        clear hown2 hg2 hrun
        refine stepH (i := 6) (d := 44) (v := goInt x.n) (w' := w2) rfl rfl (by kernel_rfl) (by rfl) ?_ ⟨(HXE2.out.cell 0).trans rfl, (HXE2.out.cell 1).trans rfl⟩ (fun hHeld => ?_)
        · go_simp
          rw [HRUN.out]
          rfl
        simp only [List.setIfInBounds_toArray, List.set_cons_zero, List.set_cons_succ]
        refine wpAnyH_done (by kernel_rfl) ?_ _
        clear hHeld
        go_wp2_with fail
        go_roundw
        case rel => exact ⟨k + 1, by omega, by go_num, by rw [hst.out]; exact HO2.out, HB2.out⟩
        case measure => simp [intOf]; omega
      · have hx1 : x.n = 0 := by omega
        have HX0 := Lib.hid (show x.l = [] from List.eq_nil_of_length_eq_zero (by rw [HP.out.len, hx1]))
        rw [hx1] at k1
        have HXE := Lib.hid (show Box (wr.alloc (Obj.cells #[.int .i64 (p : Int), .slice x.A 0 x.c] 43)).drew wr.heap.size 43 #[.int .i64 (p : Int), .slice x.A 0 x.c] from Box.new wr #[.int .i64 (p : Int), .slice x.A 0 x.c] 43)
        clear hx0 hx1 HP
        by_cases hck : c1 = p
        · obtain rfl : p = n := by omega
          subst hck
          go_wp2_with fail
          refine wp_region_held_drew (S := (fun wx => wx.cell? ⟨wr.heap.size, 0, none⟩ = some (.int .i64 (c1 : Int)) ∧ wx.cell? ⟨wr.heap.size, 1, none⟩ = some (.slice x.A 0 x.c))) (by kernel_rfl) ⟨(HXE.out.cell 0).trans rfl, (HXE.out.cell 1).trans rfl⟩ (fun hHeld => ?_)
          refine takeH (i := 0) (d := 38) (v := .slice A1 c1 c1) rfl rfl (by kernel_rfl) (by kernel_rfl) (by kernel_rfl) (fun _ _ _ h => h) (by rfl) ?_ hHeld ?_
          · intro wz hSw
            (try dsimp only at hSw)
            go_simp
          simp only [List.setIfInBounds_toArray, List.set_cons_zero, List.set_cons_succ]
          refine takeH (i := 1) (d := 39) (v := .pointer (some ⟨wr.heap.size, 0, none⟩)) rfl rfl (by kernel_rfl) (by kernel_rfl) (by kernel_rfl) (fun _ _ _ h => h) (by rfl) ?_ hHeld ?_
          · intro wz hSw
            (try dsimp only at hSw)
            go_simp
          simp only [List.setIfInBounds_toArray, List.set_cons_zero, List.set_cons_succ]
          refine takeH (i := 2) (d := 40) (v := .int .i64 (c1 : Int)) rfl rfl (by kernel_rfl) (by kernel_rfl) (by kernel_rfl) (fun _ _ _ h => h) (by rfl) ?_ hHeld ?_
          · intro wz hSw
            (try dsimp only at hSw)
            go_simp
          simp only [List.setIfInBounds_toArray, List.set_cons_zero, List.set_cons_succ]
          refine takeH (i := 3) (d := 41) (v := .slice A1 0 0) rfl rfl (by kernel_rfl) (by kernel_rfl) (by kernel_rfl) (fun _ _ _ h => h) (by rfl) ?_ hHeld ?_
          · intro wz hSw
            (try dsimp only at hSw)
            go_simp
          simp only [List.setIfInBounds_toArray, List.set_cons_zero, List.set_cons_succ]
          refine takeH (i := 4) (d := 42) (v := .pointer (some ⟨wr.heap.size, 1, none⟩)) rfl rfl (by kernel_rfl) (by kernel_rfl) (by kernel_rfl) (fun _ _ _ h => h) (by rfl) ?_ hHeld ?_
          · intro wz hSw
            (try dsimp only at hSw)
            go_simp
          simp only [List.setIfInBounds_toArray, List.set_cons_zero, List.set_cons_succ]
          refine takeH (i := 5) (d := 43) (v := .slice x.A 0 x.c) rfl rfl (by kernel_rfl) (by kernel_rfl) (by kernel_rfl) (fun _ _ _ h => h) (by rfl) ?_ hHeld ?_
          · intro wz hSw
            (try dsimp only at hSw)
            go_simp
          simp only [List.setIfInBounds_toArray, List.set_cons_zero, List.set_cons_succ]
          have hown2 : Own ((wr.alloc (Obj.cells #[.int .i64 (c1 : Int), .slice x.A 0 x.c] 43)).drew) w.heap.size 5 A1 c1 c1 (bts (lay (appd a (L.take k)) c1 x.l)) := by
            rw [lay_nil _ _ _ HX0.out]
            exact (HOr.out.alloc (Obj.cells #[.int .i64 (c1 : Int), .slice x.A 0 x.c] 43)).drew
          have hg2 : ((wr.alloc (Obj.cells #[.int .i64 (c1 : Int), .slice x.A 0 x.c] 43)).drew).grownBy ((wr.alloc (Obj.cells #[.int .i64 (c1 : Int), .slice x.A 0 x.c] 43)).drew) (blk A1) := ⟨rfl, rfl, rfl, Nat.le_refl _, fun _ _ _ => rfl⟩
          have hrun := run_copy_zero (P := Try.prog) ((wr.alloc (Obj.cells #[.int .i64 (c1 : Int), .slice x.A 0 x.c] 43)).drew) 22 22 3 5 HUB.out HSZ.out A1 x.A 0 0 x.c
          have HXE2 := Lib.hid (HXE.out.grown hg2 (fun e => by have h9 := (HOr.out.lt _ e.symm).2; omega))
          have HO2 := Lib.hid hown2
          have HB2 := Lib.hid (below_app ((HBr.out.alloc HBr.out.size (Obj.cells #[.int .i64 (c1 : Int), .slice x.A 0 x.c] 43)).drew) (Nat.le_refl _) (Nat.le_trans HBr.out.size (by simp)) ((HOr.out.alloc (Obj.cells #[.int .i64 (c1 : Int), .slice x.A 0 x.c] 43)).drew) hg2)
          have HRUN := Lib.hid hrun
          clear hown2 hg2 hrun
          refine stepH (i := 6) (d := 44) (v := goInt 0) (w' := (wr.alloc (Obj.cells #[.int .i64 (c1 : Int), .slice x.A 0 x.c] 43)).drew) rfl rfl (by kernel_rfl) (by rfl) ?_ ⟨(HXE2.out.cell 0).trans rfl, (HXE2.out.cell 1).trans rfl⟩ (fun hHeld => ?_)
          · go_simp
            rw [HRUN.out]
            rfl
          simp only [List.setIfInBounds_toArray, List.set_cons_zero, List.set_cons_succ]
          refine wpAnyH_done (by kernel_rfl) ?_ _
          clear hHeld
          go_wp2_with fail
          go_roundw
          case rel => exact ⟨k + 1, by omega, by go_num, by rw [hst.out]; exact HO2.out, HB2.out⟩
          case measure => simp [intOf]; omega
        · go_wp2_with fail
          refine wp_region_held_drew (S := (fun wx => wx.cell? ⟨wr.heap.size, 0, none⟩ = some (.int .i64 (p : Int)) ∧ wx.cell? ⟨wr.heap.size, 1, none⟩ = some (.slice x.A 0 x.c))) (by kernel_rfl) ⟨(HXE.out.cell 0).trans rfl, (HXE.out.cell 1).trans rfl⟩ (fun hHeld => ?_)
          refine takeH (i := 0) (d := 38) (v := .slice A1 n c1) rfl rfl (by kernel_rfl) (by kernel_rfl) (by kernel_rfl) (fun _ _ _ h => h) (by rfl) ?_ hHeld ?_
          · intro wz hSw
            (try dsimp only at hSw)
            go_simp
          simp only [List.setIfInBounds_toArray, List.set_cons_zero, List.set_cons_succ]
          refine takeH (i := 1) (d := 39) (v := .pointer (some ⟨wr.heap.size, 0, none⟩)) rfl rfl (by kernel_rfl) (by kernel_rfl) (by kernel_rfl) (fun _ _ _ h => h) (by rfl) ?_ hHeld ?_
          · intro wz hSw
            (try dsimp only at hSw)
            go_simp
          simp only [List.setIfInBounds_toArray, List.set_cons_zero, List.set_cons_succ]
          refine takeH (i := 2) (d := 40) (v := .int .i64 (p : Int)) rfl rfl (by kernel_rfl) (by kernel_rfl) (by kernel_rfl) (fun _ _ _ h => h) (by rfl) ?_ hHeld ?_
          · intro wz hSw
            (try dsimp only at hSw)
            go_simp
          simp only [List.setIfInBounds_toArray, List.set_cons_zero, List.set_cons_succ]
          refine takeH (i := 3) (d := 41) (v := .slice (A1.map (·.add p)) (n - p) (c1 - p)) rfl rfl (by kernel_rfl) (by kernel_rfl) (by kernel_rfl) (fun _ _ _ h => h) (by rfl) ?_ hHeld ?_
          · intro wz hSw
            (try dsimp only at hSw)
            go_simp
          simp only [List.setIfInBounds_toArray, List.set_cons_zero, List.set_cons_succ]
          refine takeH (i := 4) (d := 42) (v := .pointer (some ⟨wr.heap.size, 1, none⟩)) rfl rfl (by kernel_rfl) (by kernel_rfl) (by kernel_rfl) (fun _ _ _ h => h) (by rfl) ?_ hHeld ?_
          · intro wz hSw
            (try dsimp only at hSw)
            go_simp
          simp only [List.setIfInBounds_toArray, List.set_cons_zero, List.set_cons_succ]
          refine takeH (i := 5) (d := 43) (v := .slice x.A 0 x.c) rfl rfl (by kernel_rfl) (by kernel_rfl) (by kernel_rfl) (fun _ _ _ h => h) (by rfl) ?_ hHeld ?_
          · intro wz hSw
            (try dsimp only at hSw)
            go_simp
          simp only [List.setIfInBounds_toArray, List.set_cons_zero, List.set_cons_succ]
          have hown2 : Own ((wr.alloc (Obj.cells #[.int .i64 (p : Int), .slice x.A 0 x.c] 43)).drew) w.heap.size 5 A1 n c1 (bts (lay (appd a (L.take k)) p x.l)) := by
            rw [lay_nil _ _ _ HX0.out]
            exact (HOr.out.alloc (Obj.cells #[.int .i64 (p : Int), .slice x.A 0 x.c] 43)).drew
          have hg2 : ((wr.alloc (Obj.cells #[.int .i64 (p : Int), .slice x.A 0 x.c] 43)).drew).grownBy ((wr.alloc (Obj.cells #[.int .i64 (p : Int), .slice x.A 0 x.c] 43)).drew) (blk A1) := ⟨rfl, rfl, rfl, Nat.le_refl _, fun _ _ _ => rfl⟩
          have hrun := run_copy_zero (P := Try.prog) ((wr.alloc (Obj.cells #[.int .i64 (p : Int), .slice x.A 0 x.c] 43)).drew) 22 22 3 5 HUB.out HSZ.out (A1.map (·.add p)) x.A (n - p) (c1 - p) x.c
          have HXE2 := Lib.hid (HXE.out.grown hg2 (fun e => by have h9 := (HOr.out.lt _ e.symm).2; omega))
          have HO2 := Lib.hid hown2
          have HB2 := Lib.hid (below_app ((HBr.out.alloc HBr.out.size (Obj.cells #[.int .i64 (p : Int), .slice x.A 0 x.c] 43)).drew) (Nat.le_refl _) (Nat.le_trans HBr.out.size (by simp)) ((HOr.out.alloc (Obj.cells #[.int .i64 (p : Int), .slice x.A 0 x.c] 43)).drew) hg2)
          have HRUN := Lib.hid hrun
          clear hown2 hg2 hrun
          refine stepH (i := 6) (d := 44) (v := goInt 0) (w' := (wr.alloc (Obj.cells #[.int .i64 (p : Int), .slice x.A 0 x.c] 43)).drew) rfl rfl (by kernel_rfl) (by rfl) ?_ ⟨(HXE2.out.cell 0).trans rfl, (HXE2.out.cell 1).trans rfl⟩ (fun hHeld => ?_)
          · go_simp
            rw [HRUN.out]
            rfl
          simp only [List.setIfInBounds_toArray, List.set_cons_zero, List.set_cons_succ]
          refine wpAnyH_done (by kernel_rfl) ?_ _
          clear hHeld
          go_wp2_with fail
          go_roundw
          case rel => exact ⟨k + 1, by omega, by go_num, by rw [hst.out]; exact HO2.out, HB2.out⟩
          case measure => simp [intOf]; omega
    · obtain rfl : k = m := by omega
      have e1 : L.take k = L := List.take_of_length_le (by rw [HL.out]; omega)
      rw [e1] at HOr
      clear e1
      go_wp2_with fail
      go_ret2
      exact ⟨A1, c1, rfl, HOr.out, HBr.out⟩
set_option maxRecDepth 100000 in
set_option maxHeartbeats 1600000 in
/-- delta.Apply, one edit beyond the bytes, the first such one at K. -/
theorem apply_bad {w : World} {A A2 : Option Addr} {n c m c2 : Nat} {a : List Nat} {L : List Ed} (h : Seg w w.heap.size A n (bts a)) (ha : IsB a) (hE : EdSeg w w.heap.size A2 m L) (K : Nat) (hK : K < m) (hf : ∀ (j : Nat) (hj : j < L.length), j < K → fits n L[j].e = true) (hbd : ∀ hj : K < L.length, fits n L[K].e = false) (hn : n ≤ 100000) (hm : m ≤ 100000) :
    Calls Try.prog 19 #[.slice A n c, .slice A2 m c2] w fun e w' => e = .returned (.tuple #[.slice none 0 0, .int .i64 11]) ∧ Below w.heap.size w w' := by
  have hal : a.length = n := by rw [← bts_len]; exact h.1
  have HAL := Lib.hid hal
  have HS := Lib.hid h
  have HE := Lib.hid hE
  have HF := Lib.hid hf
  have HBD := Lib.hid hbd
  have HL := Lib.hid hE.len
  have HUB := Lib.hid Try.underlying22
  have HSZ := Lib.hid (show (Try.prog.info? 5).map (·.size) = some 1 by kernel_rfl)
  clear h hE hf hbd hal
  go_enter Try.func19, Try.ntmps19
  go_wp2_with ((at_builtin; refine wpList_app _ rfl (.const (.slice none 0 0)) (.tmp 9) elemB rfl w.heap.size rfl (Own.nil _ _ _) w.heap.size rfl HS.out (bts_one _) (by unfold maxLen; omega) (by omega) (Nat.le_refl _) ?_; intro A1 c1 w1 hown hg hat; simp only [Nat.zero_add, List.nil_append] at hown; have HO := Lib.hid hown; have HB := Lib.hid (below_app (Below.refl _ _) (Nat.le_refl _) (Nat.le_refl _) (Own.nil w w.heap.size 5) hg); clear hown hg hat))
  go_loopw [13] (fun i wr => ∃ k : Nat, k ≤ K ∧ i = .int .i64 (k : Int) ∧ Own wr w.heap.size 5 A1 n c1 (bts (appd a (L.take k))) ∧ Below w.heap.size w wr) (fun i _ => K - (intOf i).toNat)
  case atStart => exact ⟨0, by omega, rfl, by simpa [appd, doAll, es] using HO.out, HB.out⟩
  case round =>
    obtain ⟨k, hk, rfl, hown, hb⟩ := hrel
    have HOr := Lib.hid hown
    have HBr := Lib.hid hb
    clear hown hb
    by_cases hlt : k < K
    · obtain ⟨b, off, hkl, rfl, hbb, k0, k1, hp⟩ := (HE.out.below HBr.out).at_ (Nat.lt_trans hlt hK)
      have hst := Lib.hid (appd_snoc a L hkl)
      have hfz := fits_toNat (HF.out k hkl hlt)
      have HP := Lib.hid hp
      have hpl := hp.len
      clear hp
      simp only [Ed.e] at hfz
      rw [hpl] at hfz
      obtain ⟨p, hpp⟩ : ∃ p : Nat, (p : Int) = L[k].pos := ⟨_, hfz.2⟩
      rw [← hpp] at k0 hst hfz
      simp only [Int.toNat_natCast] at hst hfz
      have hfz := hfz.1
      clear hpp hpl
      generalize L[k].x = x at *
      have i0 : (0 : Int) ≤ (p : Int) := by omega
      have i1 : (p : Int) ≤ (n : Int) := by omega
      have hnc := HOr.out.cap
      have i2 : (n : Int) ≤ (c1 : Int) := by omega
      by_cases hx0 : 0 < x.n
      · have hck : ¬ c1 = p := by omega
        have HP2 := Lib.hid (HP.out.below ((Below.refl _ wr).alloc HBr.out.size (Obj.cells #[.int .i64 (p : Int), .slice x.A x.n x.c] 43)))
        have HXE := Lib.hid (show Box (wr.alloc (Obj.cells #[.int .i64 (p : Int), .slice x.A x.n x.c] 43)).drew wr.heap.size 43 #[.int .i64 (p : Int), .slice x.A x.n x.c] from Box.new wr #[.int .i64 (p : Int), .slice x.A x.n x.c] 43)
        go_wp2_with fail
        refine wp_region_held_drew (S := (fun wx => wx.cell? ⟨wr.heap.size, 0, none⟩ = some (.int .i64 (p : Int)) ∧ wx.cell? ⟨wr.heap.size, 1, none⟩ = some (.slice x.A x.n x.c))) (by kernel_rfl) ⟨(HXE.out.cell 0).trans rfl, (HXE.out.cell 1).trans rfl⟩ (fun hHeld => ?_)
        refine takeH (i := 0) (d := 38) (v := .slice A1 n c1) rfl rfl (by kernel_rfl) (by kernel_rfl) (by kernel_rfl) (fun _ _ _ h => h) (by rfl) ?_ hHeld ?_
        · intro wz hSw
          (try dsimp only at hSw)
          go_simp
        simp only [List.setIfInBounds_toArray, List.set_cons_zero, List.set_cons_succ]
        refine takeH (i := 1) (d := 39) (v := .pointer (some ⟨wr.heap.size, 0, none⟩)) rfl rfl (by kernel_rfl) (by kernel_rfl) (by kernel_rfl) (fun _ _ _ h => h) (by rfl) ?_ hHeld ?_
        · intro wz hSw
          (try dsimp only at hSw)
          go_simp
        simp only [List.setIfInBounds_toArray, List.set_cons_zero, List.set_cons_succ]
        refine takeH (i := 2) (d := 40) (v := .int .i64 (p : Int)) rfl rfl (by kernel_rfl) (by kernel_rfl) (by kernel_rfl) (fun _ _ _ h => h) (by rfl) ?_ hHeld ?_
        · intro wz hSw
          (try dsimp only at hSw)
          go_simp
        simp only [List.setIfInBounds_toArray, List.set_cons_zero, List.set_cons_succ]
        refine takeH (i := 3) (d := 41) (v := .slice (A1.map (·.add p)) (n - p) (c1 - p)) rfl rfl (by kernel_rfl) (by kernel_rfl) (by kernel_rfl) (fun _ _ _ h => h) (by rfl) ?_ hHeld ?_
        · intro wz hSw
          (try dsimp only at hSw)
          go_simp
        simp only [List.setIfInBounds_toArray, List.set_cons_zero, List.set_cons_succ]
        refine takeH (i := 4) (d := 42) (v := .pointer (some ⟨wr.heap.size, 1, none⟩)) rfl rfl (by kernel_rfl) (by kernel_rfl) (by kernel_rfl) (fun _ _ _ h => h) (by rfl) ?_ hHeld ?_
        · intro wz hSw
          (try dsimp only at hSw)
          go_simp
        simp only [List.setIfInBounds_toArray, List.set_cons_zero, List.set_cons_succ]
        refine takeH (i := 5) (d := 43) (v := .slice x.A x.n x.c) rfl rfl (by kernel_rfl) (by kernel_rfl) (by kernel_rfl) (fun _ _ _ h => h) (by rfl) ?_ hHeld ?_
        · intro wz hSw
          (try dsimp only at hSw)
          go_simp
        simp only [List.setIfInBounds_toArray, List.set_cons_zero, List.set_cons_succ]
        obtain ⟨w2, hrun, hown2, hg2⟩ := run_copyO (P := Try.prog) (w := (wr.alloc (Obj.cells #[.int .i64 (p : Int), .slice x.A x.n x.c] 43)).drew) 22 22 3 5 HUB.out HSZ.out ((HOr.out.alloc (Obj.cells #[.int .i64 (p : Int), .slice x.A x.n x.c] 43)).drew) p (c1 - p) x.c HP2.out.seg.drew hx0 hfz
        have HXE2 := Lib.hid (HXE.out.grown hg2 (fun e => by have h9 := (HOr.out.lt _ e.symm).2; omega))
        have HO2 := Lib.hid hown2
        have HB2 := Lib.hid (below_app ((HBr.out.alloc HBr.out.size (Obj.cells #[.int .i64 (p : Int), .slice x.A x.n x.c] 43)).drew) (Nat.le_refl _) (Nat.le_trans HBr.out.size (by simp)) ((HOr.out.alloc (Obj.cells #[.int .i64 (p : Int), .slice x.A x.n x.c] 43)).drew) hg2)
        have HRUN := Lib.hid hrun
        clear hown2 hg2 hrun
        refine stepH (i := 6) (d := 44) (v := goInt x.n) (w' := w2) rfl rfl (by kernel_rfl) (by rfl) ?_ ⟨(HXE2.out.cell 0).trans rfl, (HXE2.out.cell 1).trans rfl⟩ (fun hHeld => ?_)
        · go_simp
          rw [HRUN.out]
          rfl
        simp only [List.setIfInBounds_toArray, List.set_cons_zero, List.set_cons_succ]
        refine wpAnyH_done (by kernel_rfl) ?_ _
        clear hHeld
        go_wp2_with fail
        go_roundw
        case rel => exact ⟨k + 1, by omega, by go_num, by rw [hst.out]; exact HO2.out, HB2.out⟩
        case measure => simp [intOf]; omega
      · have hx1 : x.n = 0 := by omega
        have HX0 := Lib.hid (show x.l = [] from List.eq_nil_of_length_eq_zero (by rw [HP.out.len, hx1]))
        rw [hx1] at k1
        have HXE := Lib.hid (show Box (wr.alloc (Obj.cells #[.int .i64 (p : Int), .slice x.A 0 x.c] 43)).drew wr.heap.size 43 #[.int .i64 (p : Int), .slice x.A 0 x.c] from Box.new wr #[.int .i64 (p : Int), .slice x.A 0 x.c] 43)
        clear hx0 hx1 HP
        by_cases hck : c1 = p
        · obtain rfl : p = n := by omega
          subst hck
          go_wp2_with fail
          refine wp_region_held_drew (S := (fun wx => wx.cell? ⟨wr.heap.size, 0, none⟩ = some (.int .i64 (c1 : Int)) ∧ wx.cell? ⟨wr.heap.size, 1, none⟩ = some (.slice x.A 0 x.c))) (by kernel_rfl) ⟨(HXE.out.cell 0).trans rfl, (HXE.out.cell 1).trans rfl⟩ (fun hHeld => ?_)
          refine takeH (i := 0) (d := 38) (v := .slice A1 c1 c1) rfl rfl (by kernel_rfl) (by kernel_rfl) (by kernel_rfl) (fun _ _ _ h => h) (by rfl) ?_ hHeld ?_
          · intro wz hSw
            (try dsimp only at hSw)
            go_simp
          simp only [List.setIfInBounds_toArray, List.set_cons_zero, List.set_cons_succ]
          refine takeH (i := 1) (d := 39) (v := .pointer (some ⟨wr.heap.size, 0, none⟩)) rfl rfl (by kernel_rfl) (by kernel_rfl) (by kernel_rfl) (fun _ _ _ h => h) (by rfl) ?_ hHeld ?_
          · intro wz hSw
            (try dsimp only at hSw)
            go_simp
          simp only [List.setIfInBounds_toArray, List.set_cons_zero, List.set_cons_succ]
          refine takeH (i := 2) (d := 40) (v := .int .i64 (c1 : Int)) rfl rfl (by kernel_rfl) (by kernel_rfl) (by kernel_rfl) (fun _ _ _ h => h) (by rfl) ?_ hHeld ?_
          · intro wz hSw
            (try dsimp only at hSw)
            go_simp
          simp only [List.setIfInBounds_toArray, List.set_cons_zero, List.set_cons_succ]
          refine takeH (i := 3) (d := 41) (v := .slice A1 0 0) rfl rfl (by kernel_rfl) (by kernel_rfl) (by kernel_rfl) (fun _ _ _ h => h) (by rfl) ?_ hHeld ?_
          · intro wz hSw
            (try dsimp only at hSw)
            go_simp
          simp only [List.setIfInBounds_toArray, List.set_cons_zero, List.set_cons_succ]
          refine takeH (i := 4) (d := 42) (v := .pointer (some ⟨wr.heap.size, 1, none⟩)) rfl rfl (by kernel_rfl) (by kernel_rfl) (by kernel_rfl) (fun _ _ _ h => h) (by rfl) ?_ hHeld ?_
          · intro wz hSw
            (try dsimp only at hSw)
            go_simp
          simp only [List.setIfInBounds_toArray, List.set_cons_zero, List.set_cons_succ]
          refine takeH (i := 5) (d := 43) (v := .slice x.A 0 x.c) rfl rfl (by kernel_rfl) (by kernel_rfl) (by kernel_rfl) (fun _ _ _ h => h) (by rfl) ?_ hHeld ?_
          · intro wz hSw
            (try dsimp only at hSw)
            go_simp
          simp only [List.setIfInBounds_toArray, List.set_cons_zero, List.set_cons_succ]
          have hown2 : Own ((wr.alloc (Obj.cells #[.int .i64 (c1 : Int), .slice x.A 0 x.c] 43)).drew) w.heap.size 5 A1 c1 c1 (bts (lay (appd a (L.take k)) c1 x.l)) := by
            rw [lay_nil _ _ _ HX0.out]
            exact (HOr.out.alloc (Obj.cells #[.int .i64 (c1 : Int), .slice x.A 0 x.c] 43)).drew
          have hg2 : ((wr.alloc (Obj.cells #[.int .i64 (c1 : Int), .slice x.A 0 x.c] 43)).drew).grownBy ((wr.alloc (Obj.cells #[.int .i64 (c1 : Int), .slice x.A 0 x.c] 43)).drew) (blk A1) := ⟨rfl, rfl, rfl, Nat.le_refl _, fun _ _ _ => rfl⟩
          have hrun := run_copy_zero (P := Try.prog) ((wr.alloc (Obj.cells #[.int .i64 (c1 : Int), .slice x.A 0 x.c] 43)).drew) 22 22 3 5 HUB.out HSZ.out A1 x.A 0 0 x.c
          have HXE2 := Lib.hid (HXE.out.grown hg2 (fun e => by have h9 := (HOr.out.lt _ e.symm).2; omega))
          have HO2 := Lib.hid hown2
          have HB2 := Lib.hid (below_app ((HBr.out.alloc HBr.out.size (Obj.cells #[.int .i64 (c1 : Int), .slice x.A 0 x.c] 43)).drew) (Nat.le_refl _) (Nat.le_trans HBr.out.size (by simp)) ((HOr.out.alloc (Obj.cells #[.int .i64 (c1 : Int), .slice x.A 0 x.c] 43)).drew) hg2)
          have HRUN := Lib.hid hrun
          clear hown2 hg2 hrun
          refine stepH (i := 6) (d := 44) (v := goInt 0) (w' := (wr.alloc (Obj.cells #[.int .i64 (c1 : Int), .slice x.A 0 x.c] 43)).drew) rfl rfl (by kernel_rfl) (by rfl) ?_ ⟨(HXE2.out.cell 0).trans rfl, (HXE2.out.cell 1).trans rfl⟩ (fun hHeld => ?_)
          · go_simp
            rw [HRUN.out]
            rfl
          simp only [List.setIfInBounds_toArray, List.set_cons_zero, List.set_cons_succ]
          refine wpAnyH_done (by kernel_rfl) ?_ _
          clear hHeld
          go_wp2_with fail
          go_roundw
          case rel => exact ⟨k + 1, by omega, by go_num, by rw [hst.out]; exact HO2.out, HB2.out⟩
          case measure => simp [intOf]; omega
        · go_wp2_with fail
          refine wp_region_held_drew (S := (fun wx => wx.cell? ⟨wr.heap.size, 0, none⟩ = some (.int .i64 (p : Int)) ∧ wx.cell? ⟨wr.heap.size, 1, none⟩ = some (.slice x.A 0 x.c))) (by kernel_rfl) ⟨(HXE.out.cell 0).trans rfl, (HXE.out.cell 1).trans rfl⟩ (fun hHeld => ?_)
          refine takeH (i := 0) (d := 38) (v := .slice A1 n c1) rfl rfl (by kernel_rfl) (by kernel_rfl) (by kernel_rfl) (fun _ _ _ h => h) (by rfl) ?_ hHeld ?_
          · intro wz hSw
            (try dsimp only at hSw)
            go_simp
          simp only [List.setIfInBounds_toArray, List.set_cons_zero, List.set_cons_succ]
          refine takeH (i := 1) (d := 39) (v := .pointer (some ⟨wr.heap.size, 0, none⟩)) rfl rfl (by kernel_rfl) (by kernel_rfl) (by kernel_rfl) (fun _ _ _ h => h) (by rfl) ?_ hHeld ?_
          · intro wz hSw
            (try dsimp only at hSw)
            go_simp
          simp only [List.setIfInBounds_toArray, List.set_cons_zero, List.set_cons_succ]
          refine takeH (i := 2) (d := 40) (v := .int .i64 (p : Int)) rfl rfl (by kernel_rfl) (by kernel_rfl) (by kernel_rfl) (fun _ _ _ h => h) (by rfl) ?_ hHeld ?_
          · intro wz hSw
            (try dsimp only at hSw)
            go_simp
          simp only [List.setIfInBounds_toArray, List.set_cons_zero, List.set_cons_succ]
          refine takeH (i := 3) (d := 41) (v := .slice (A1.map (·.add p)) (n - p) (c1 - p)) rfl rfl (by kernel_rfl) (by kernel_rfl) (by kernel_rfl) (fun _ _ _ h => h) (by rfl) ?_ hHeld ?_
          · intro wz hSw
            (try dsimp only at hSw)
            go_simp
          simp only [List.setIfInBounds_toArray, List.set_cons_zero, List.set_cons_succ]
          refine takeH (i := 4) (d := 42) (v := .pointer (some ⟨wr.heap.size, 1, none⟩)) rfl rfl (by kernel_rfl) (by kernel_rfl) (by kernel_rfl) (fun _ _ _ h => h) (by rfl) ?_ hHeld ?_
          · intro wz hSw
            (try dsimp only at hSw)
            go_simp
          simp only [List.setIfInBounds_toArray, List.set_cons_zero, List.set_cons_succ]
          refine takeH (i := 5) (d := 43) (v := .slice x.A 0 x.c) rfl rfl (by kernel_rfl) (by kernel_rfl) (by kernel_rfl) (fun _ _ _ h => h) (by rfl) ?_ hHeld ?_
          · intro wz hSw
            (try dsimp only at hSw)
            go_simp
          simp only [List.setIfInBounds_toArray, List.set_cons_zero, List.set_cons_succ]
          have hown2 : Own ((wr.alloc (Obj.cells #[.int .i64 (p : Int), .slice x.A 0 x.c] 43)).drew) w.heap.size 5 A1 n c1 (bts (lay (appd a (L.take k)) p x.l)) := by
            rw [lay_nil _ _ _ HX0.out]
            exact (HOr.out.alloc (Obj.cells #[.int .i64 (p : Int), .slice x.A 0 x.c] 43)).drew
          have hg2 : ((wr.alloc (Obj.cells #[.int .i64 (p : Int), .slice x.A 0 x.c] 43)).drew).grownBy ((wr.alloc (Obj.cells #[.int .i64 (p : Int), .slice x.A 0 x.c] 43)).drew) (blk A1) := ⟨rfl, rfl, rfl, Nat.le_refl _, fun _ _ _ => rfl⟩
          have hrun := run_copy_zero (P := Try.prog) ((wr.alloc (Obj.cells #[.int .i64 (p : Int), .slice x.A 0 x.c] 43)).drew) 22 22 3 5 HUB.out HSZ.out (A1.map (·.add p)) x.A (n - p) (c1 - p) x.c
          have HXE2 := Lib.hid (HXE.out.grown hg2 (fun e => by have h9 := (HOr.out.lt _ e.symm).2; omega))
          have HO2 := Lib.hid hown2
          have HB2 := Lib.hid (below_app ((HBr.out.alloc HBr.out.size (Obj.cells #[.int .i64 (p : Int), .slice x.A 0 x.c] 43)).drew) (Nat.le_refl _) (Nat.le_trans HBr.out.size (by simp)) ((HOr.out.alloc (Obj.cells #[.int .i64 (p : Int), .slice x.A 0 x.c] 43)).drew) hg2)
          have HRUN := Lib.hid hrun
          clear hown2 hg2 hrun
          refine stepH (i := 6) (d := 44) (v := goInt 0) (w' := (wr.alloc (Obj.cells #[.int .i64 (p : Int), .slice x.A 0 x.c] 43)).drew) rfl rfl (by kernel_rfl) (by rfl) ?_ ⟨(HXE2.out.cell 0).trans rfl, (HXE2.out.cell 1).trans rfl⟩ (fun hHeld => ?_)
          · go_simp
            rw [HRUN.out]
            rfl
          simp only [List.setIfInBounds_toArray, List.set_cons_zero, List.set_cons_succ]
          refine wpAnyH_done (by kernel_rfl) ?_ _
          clear hHeld
          go_wp2_with fail
          go_roundw
          case rel => exact ⟨k + 1, by omega, by go_num, by rw [hst.out]; exact HO2.out, HB2.out⟩
          case measure => simp [intOf]; omega
    · obtain rfl : k = K := by omega
      obtain ⟨b, off, hkl, rfl, hbb, k0, k1, hp⟩ := (HE.out.below HBr.out).at_ hK
      have hbz := HBD.out hkl
      unfold fits at hbz
      have hbz := of_decide_eq_false hbz
      simp only [Ed.e, hp.len] at hbz
      clear hp
      generalize L[k].x = x at *
      generalize L[k].pos = q at *
      by_cases q0 : q < 0
      · clear hbz
        go_wp2_with fail
        go_ret2
        exact ⟨rfl, HBr.out.alloc HBr.out.size _⟩
      · by_cases q1 : (n : Int) < q
        · clear hbz
          go_wp2_with fail
          go_ret2
          exact ⟨rfl, HBr.out.alloc HBr.out.size _⟩
        · have q2 : (n : Int) - q < (x.n : Int) := by omega
          clear hbz
          go_wp2_with fail
          go_ret2
          exact ⟨rfl, HBr.out.alloc HBr.out.size _⟩
end Go.Proofs.Ytaagfmaboggbhaa.delta
