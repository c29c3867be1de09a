/-
  The walk of delta.Of.
-/
import Derived.Test.YtaagfmaboggbhaaDeltaEdits
import Derived.Test.YtaagfmaboggbhaaDrawn
namespace Go.Proofs.Ytaagfmaboggbhaa.delta
open Go.RowKit
set_option linter.unusedVariables false

/-- A row of edits whose last one's bytes lie apart from the others'. -/
structure OfI (w : World) (base : Nat) (A : Option Addr) (n c : Nat) (L : List Ed) : Prop where
  ed : EdOwn w base A n c L
  apart : ∀ L0 z, L = L0 ++ [z] → ∀ y ∈ L0, blk y.x.A ≠ blk z.x.A
theorem OfI.drewN {w : World} {base n c : Nat} {A : Option Addr} {L : List Ed} (h : OfI w base A n c L) (k : Nat) : OfI (w.drewN k) base A n c L := ⟨h.ed.drewN k, h.apart⟩

theorem OfI.drew {w : World} {base n c : Nat} {A : Option Addr} {L : List Ed} (h : OfI w base A n c L) : OfI w.drew base A n c L := ⟨h.ed.drew, h.apart⟩
theorem OfI.alloc {w : World} {base n c : Nat} {A : Option Addr} {L : List Ed} (h : OfI w base A n c L) (o : Obj) : OfI (w.alloc o) base A n c L := ⟨h.ed.alloc o, h.apart⟩
theorem bts_snoc (o : List Nat) (c : Nat) (x : Int) (h : x = (c : Int)) : bts (o ++ [c]) = bts o ++ [Value.int .u8 x] := by subst h; simp [bts]
theorem one_u8 (x : Int) : ∀ u ∈ [Value.int .u8 x], u.oneCell' = true := by
  intro u hu
  obtain rfl : u = .int .u8 x := by simpa using hu
  rfl
theorem snoc_inj {α : Type} {L M : List α} {x y : α} (h : L ++ [x] = M ++ [y]) : L = M ∧ x = y := by
  have := List.append_inj' h rfl
  exact ⟨this.1, by simpa using this.2⟩
theorem edCells_set (L : List Ed) (z : Ed) (y : Piece) : (edCells (L ++ [z])).set (L.length * 2 + 1) (.slice y.A y.n y.c) = edCells (L ++ [⟨z.pos, y⟩]) := by
  rw [edCells_app, edCells_app, List.set_append_right _ _ (by rw [edCells_len]; omega), edCells_len, show L.length * 2 + 1 - L.length * 2 = 1 by omega]
  rfl
/-- The last edit made longer by a byte. -/
theorem OfI.ext {W w3 : World} {base g q c : Nat} {L0 : List Ed} {zp : Int} {zx : Piece} (h : OfI W base (some ⟨g, 0, none⟩) (q + 1) c (L0 ++ [⟨zp, zx⟩])) (hq : L0.length = q) {A3 : Option Addr} {c3 y : Nat}
    (ho : Own w3 base 5 A3 (zx.n + 1) c3 (bts (zx.l ++ [y]))) (hy : y < 256) (hg : W.grownBy w3 (blk zx.A)) (hat : blk A3 = blk zx.A ∨ blk A3 = some W.heap.size) :
    w3.cell? ⟨g, q * 2 + 1, none⟩ = some (.slice zx.A zx.n zx.c) ∧ w3.frozen? ⟨g, q * 2 + 1, none⟩ = false ∧
    OfI (w3.setCell ⟨g, q * 2 + 1, none⟩ (.slice A3 (zx.n + 1) c3)) base (some ⟨g, 0, none⟩) (q + 1) c (L0 ++ [⟨zp, ⟨A3, zx.n + 1, c3, zx.l ++ [y]⟩⟩]) := by
  have hz := h.ed.pcs ⟨zp, zx⟩ (by simp)
  have hne := h.ed.row.ne_own hz.1 (by decide) hz.2.2
  have row3 : OwnR w3 base 43 2 (some ⟨g, 0, none⟩) (q + 1) c (edCells (L0 ++ [⟨zp, zx⟩])) := h.ed.row.kept hg (.inr hne.symm)
  have hc := (edCells_at (L0 ++ [⟨zp, zx⟩]) q (by simp; omega)).2
  have hzq : (L0 ++ [(⟨zp, zx⟩ : Ed)])[q]'(by simp; omega) = ⟨zp, zx⟩ := by simp [← hq]
  rw [hzq] at hc
  have row4 := (World.ownsRow.stored row3 (q * 2 + 1) (.slice A3 (zx.n + 1) c3)).1
  have hne3 := row3.ne_own ho (by decide) (by omega)
  refine ⟨row3.cells rfl _ _ hc, World.ownsRow.frozenAt row3 _, ⟨?_, fun z hz2 => ?_⟩, fun L1 z1 e y1 hy1 => ?_⟩
  · have := edCells_set L0 ⟨zp, zx⟩ ⟨A3, zx.n + 1, c3, zx.l ++ [y]⟩
    rw [hq] at this
    rw [← this]; exact row4
  · rcases List.mem_append.1 hz2 with hm | hm
    · have hzo := h.ed.pcs z (by simp [hm])
      have h1 : Own w3 base 5 z.x.A z.x.n z.x.c (bts z.x.l) := hzo.1.kept hg (.inr (h.apart L0 ⟨zp, zx⟩ rfl z hm))
      exact ⟨h1.setFar (p := ⟨g, q * 2 + 1, none⟩) (row3.ne_own h1 (by decide) hzo.2.2) _, hzo.2⟩
    · obtain rfl : z = ⟨zp, ⟨A3, zx.n + 1, c3, zx.l ++ [y]⟩⟩ := by simpa using hm
      exact ⟨ho.setFar (p := ⟨g, q * 2 + 1, none⟩) hne3 _, hz.2.1.app (fun d hd => by simp at hd; omega), by show 0 < zx.n + 1; omega⟩
  · obtain ⟨rfl, rfl⟩ := snoc_inj e
    have hyo := h.ed.pcs y1 (by simp [hy1])
    rcases hat with e2 | e2
    · show blk y1.x.A ≠ blk A3
      rw [e2]; exact h.apart L0 ⟨zp, zx⟩ rfl y1 hy1
    · show blk y1.x.A ≠ blk A3
      rw [e2]
      intro e3
      have := (hyo.1.lt _ e3).2
      omega
/-- A new edit, in a block of its own. -/
theorem OfI.push {W w4 : World} {base n c c' g n1 c1 : Nat} {A A' : Option Addr} {L : List Ed} {pos : Int} {l : List Nat} (h : OfI W base A n c L) (hp : EdOwn w4 base A' (n + 1) c' (L ++ [⟨pos, ⟨some ⟨g, 0, none⟩, n1, c1, l⟩⟩])) (hg : g = W.heap.size) :
    OfI w4 base A' (n + 1) c' (L ++ [⟨pos, ⟨some ⟨g, 0, none⟩, n1, c1, l⟩⟩]) :=
  ⟨hp, fun L0 z e y hy => by
    obtain ⟨rfl, rfl⟩ := snoc_inj e
    intro e3
    have h9 : g < W.heap.size := ((h.ed.pcs y hy).1.lt g e3).2
    omega⟩

set_option maxRecDepth 100000 in
set_option maxHeartbeats 25600000 in
/-- delta.Of, of rows that are as long. -/
theorem of_any {w : World} {A A2 : Option Addr} {n c c2 : Nat} {a b : List Nat} (ha : Seg w w.heap.size A n (bts a)) (hb : Seg w w.heap.size A2 n (bts b)) (hbb : IsB b) (hn : n ≤ 100000) :
    Calls Try.prog 17 #[.slice A n c, .slice A2 n c2] w fun e w' => ∃ A' m c' L, e = .returned (.tuple #[.slice A' m c', .int .i64 0]) ∧ EdOwn w' w.heap.size A' m c' L ∧ es L = ofS a b n ∧ m ≤ n ∧ Below w.heap.size w w' := by
  have HA := Lib.hid ha
  have HB := Lib.hid hb
  have HBB := Lib.hid hbb
  have hal : a.length = n := by rw [← bts_len]; exact ha.1
  have hbl : b.length = n := by rw [← bts_len]; exact hb.1
  have HAL := Lib.hid hal
  have HBL := Lib.hid hbl
  clear ha hb hbb hal hbl
  go_enter Try.func17, Try.ntmps17
  go_wp2_with fail
  go_loopw [6, 16] (fun o iv wr => ∃ i : Nat, ∃ A' m c' L, i ≤ n ∧ m ≤ i ∧ iv = .int .i64 (i : Int) ∧ o = .slice A' m c' ∧ OfI wr w.heap.size A' m c' L ∧ es L = ofS a b i ∧ Below w.heap.size w wr) (fun _ iv _ => n - (intOf iv).toNat)
  case atStart => exact ⟨0, none, 0, 0, [], by omega, by omega, rfl, rfl, ⟨EdOwn.nil _ _, fun L0 z h => by simp at h⟩, rfl, Below.refl _ _⟩
  case round =>
    obtain ⟨i, A', m, c', L, hi, hmi, rfl, rfl, hed, hes, hbel⟩ := hrel
    have HE := Lib.hid hed
    have HES := Lib.hid hes
    have HW := Lib.hid hbel
    clear hed hes hbel
    by_cases hlt : i < n
    · obtain ⟨ba, oa, hka, rfl, hba, hca⟩ := (HA.out.below HW.out).byte hlt
      obtain ⟨bb, ob, hkb, rfl, hbb, hcb⟩ := (HB.out.below HW.out).byte hlt
      have hdf := df_at hka hkb
      have i0 : (0 : Int) ≤ (i : Int) := by omega
      have i1 : (i : Int) < (n : Int) := by omega
      have i2 : ((i : Int)).toNat = i := by omega
      cases hd : df a b i with
      | false =>
        have he : a[i] = b[i] := by rw [hd] at hdf; simpa using hdf.symm
        rw [he] at hca
        have HS := Lib.hid (ofS_same a b hd)
        clear hdf hd he
        generalize b[i] = x at *
        have hxx : ((x : Int) == (x : Int)) = true := by simp
        go_wp2_with fail
        go_quiet (fail)
        go_wp2_with fail
        go_roundw
        case rel => exact ⟨i + 1, A', m, c', L, by omega, by omega, by go_num, rfl, HE.out.drewN _, by rw [HS.out]; exact HES.out, Bdrew HW.out _⟩
        case measure => simp [intOf]; omega
      | true =>
        have t1 : (((a[i] : Nat) : Int) == ((b[i] : Nat) : Int)) = false := by rw [castbeq, ← hdf, hd]; rfl
        have HD := Lib.hid hd
        have HY := Lib.hid (show b.getD i 0 = b[i] by rw [List.getD_eq_getElem?_getD, List.getElem?_eq_getElem hkb]; rfl)
        have hy : b[i] < 256 := HBB.out.at_ hkb
        clear hdf hd
        generalize a[i] = xi at *
        generalize b[i] = yi at *
        rcases List.eq_nil_or_concat L with hL | ⟨L0, z, hL⟩
        · subst hL
          obtain rfl : m = 0 := by have := HE.out.ed.len; simpa using this.symm
          have HNEW := Lib.hid (ofS_new0 a b HD.out HES.out.symm)
          go_wp2_with fail
          go_quiet (fail)
          have HEn := Lib.hid (HE.out.drewN nq)
          have HWn := Lib.hid (Bdrew HW.out nq)
          have hcbn : (wr.drewN nq).cell? ⟨bb, ob + i, none⟩ = some (.int .u8 (yi : Int)) := hcb
          clear HE HW hca hcb
          have HE := HEn; have HW := HWn; have hcb := hcbn
          clear HEn HWn hcbn
          generalize wr.drewN nq = wr at *
          go_wp2_with fail
          go_quiet (fail)
          have hca : True := trivial
          have HEn := Lib.hid (HE.out.drewN nq)
          have HWn := Lib.hid (Bdrew HW.out nq)
          have hcbn : (wr.drewN nq).cell? ⟨bb, ob + i, none⟩ = some (.int .u8 (yi : Int)) := hcb
          clear HE HW hcb hca
          have HE := HEn; have HW := HWn; have hcb := hcbn
          clear HEn HWn hcbn
          generalize wr.drewN nq = wr at *
          have HO1 := Lib.hid (Own.lit wr #[.int .u8 (yi : Int)] 5 (base := w.heap.size) HW.out.size (by unfold maxLen; simp))
          have HE2 := Lib.hid (HE.out.ed.alloc (Obj.cells #[.int .u8 (yi : Int)] 5))
          have szr := HW.out.size
          have HBX := Lib.hid (show Box ((wr.alloc (Obj.cells #[.int .u8 (yi : Int)] 5)).alloc (Obj.cells #[.int .i64 (i : Int), .slice (some ⟨wr.heap.size, 0, none⟩) 1 1] 43)) (wr.heap.size + 1) 43 #[.int .i64 (i : Int), .slice (some ⟨wr.heap.size, 0, none⟩) 1 1] by
            have h9 := Box.new (wr.alloc (Obj.cells #[.int .u8 (yi : Int)] 5)) #[.int .i64 (i : Int), .slice (some ⟨wr.heap.size, 0, none⟩) 1 1] 43
            rw [show (wr.alloc (Obj.cells #[.int .u8 (yi : Int)] 5)).heap.size = wr.heap.size + 1 by simp] at h9
            exact h9)
          go_wp2_with ((at_builtin; refine wpList_appR _ rfl (.tmp 67) (.tmp 75) elemE rfl w.heap.size rfl (HE2.out.row.alloc (Obj.cells #[.int .i64 (i : Int), .slice (some ⟨wr.heap.size, 0, none⟩) 1 1] 43)) rfl HBX.out rfl (by intro u hu; simp at hu; rcases hu with rfl | rfl <;> rfl) (by unfold maxLen; omega) (by omega) (by simp; omega) ?_; intro A4 c4 w4 hown hg hat; have HO4 := Lib.hid hown; have HG4 := Lib.hid hg; clear hown hg hat))
          go_roundw
          case rel =>
            have hp := (HE2.out.alloc (Obj.cells #[.int .i64 (i : Int), .slice (some ⟨wr.heap.size, 0, none⟩) 1 1] 43)).push (pos := (i : Int)) (x := ⟨some ⟨wr.heap.size, 0, none⟩, 1, 1, [yi]⟩) (HO1.out.alloc _) (fun d hd => by simp at hd; omega) (by show 0 < 1; omega) HG4.out HO4.out
            refine ⟨i + 1, A4, _ + 1, c4, _, by omega, by omega, by go_num, rfl, HE.out.push hp rfl, ?_, ?_⟩
            · rw [es_snoc, HES.out, HNEW.out, HY.out]; rfl
            · exact below_appR ((HW.out.alloc szr (Obj.cells #[.int .u8 (yi : Int)] 5)).alloc (Nat.le_trans szr (by simp)) _) (Nat.le_refl _) (HE2.out.row.alloc _) (Nat.le_trans szr (by simp; omega)) HG4.out
          case measure => simp [intOf]; omega
        · rw [List.concat_eq_append] at hL
          subst hL
          obtain ⟨zp, zx⟩ := z
          obtain ⟨q, rfl⟩ : ∃ q, m = q + 1 := ⟨L0.length, by have := HE.out.ed.len; simp at this; omega⟩
          have hq : L0.length = q := by have := HE.out.ed.len; simp at this; omega
          obtain ⟨g, hA', hbg, hgl⟩ := HE.out.ed.row.at_ (by omega)
          subst hA'
          have hcz := edCells_at (L0 ++ [(⟨zp, zx⟩ : Ed)]) q (by simp; omega)
          have hzq : (L0 ++ [(⟨zp, zx⟩ : Ed)])[q]'(by simp; omega) = ⟨zp, zx⟩ := by simp [← hq]
          rw [hzq] at hcz
          have z0 : wr.cell? ⟨g, q * 2, none⟩ = some (.int .i64 zp) := HE.out.ed.row.cells rfl _ _ hcz.1
          have z1 : wr.cell? ⟨g, q * 2 + 1, none⟩ = some (.slice zx.A zx.n zx.c) := HE.out.ed.row.cells rfl _ _ hcz.2
          have hzl : zx.l.length = zx.n := (own_pc HE.out.ed (z := ⟨zp, zx⟩) (by simp)).len
          have hzm : 0 ≤ zp ∧ zp + (zx.n : Int) ≤ (i : Int) := by
            have := ofS_mem a b i (zp, zx.l) (by rw [← HES.out]; simp [es, Ed.e])
            simp only [hzl] at this
            exact ⟨this.1, this.2.1⟩
          have qw : IntKind.i64.wrap (q : Int) = (q : Int) := IntWalk.i64_in _ (by omega)
          have q6 : ¬ ((q : Int) + 1 ≤ (q : Int)) := by omega
          have HZL := Lib.hid hzl
          have q0 : (0 : Int) ≤ (q : Int) := by omega
          have q1 : (q : Int) < ((q + 1 : Nat) : Int) := by omega
          have q3 : ((q + 1 : Nat) : Int) - 1 = (q : Int) := by omega
          have q4 : (q : Int) + 1 - 1 = (q : Int) := by omega
          have q5 : decide ((0 : Int) < (q : Int) + 1) = true := decide_eq_true (by omega)
          clear hcz hzq hzl
          by_cases hs : zp + (zx.n : Int) = (i : Int)
          · have s1 : (zp + (zx.n : Int) == (i : Int)) = true := by simpa using hs
            have HS1 := Lib.hid hs
            clear hs
            go_wp2_with fail
            go_quiet (fail)
            have z0n : (wr.drewN nq).cell? ⟨g, q * 2, none⟩ = some (.int .i64 zp) := z0
            have z1n : (wr.drewN nq).cell? ⟨g, q * 2 + 1, none⟩ = some (.slice zx.A zx.n zx.c) := z1
            clear z0 z1
            have z0 := z0n; have z1 := z1n
            clear z0n z1n
            have HEn := Lib.hid (HE.out.drewN nq)
            have HWn := Lib.hid (Bdrew HW.out nq)
            have hcbn : (wr.drewN nq).cell? ⟨bb, ob + i, none⟩ = some (.int .u8 (yi : Int)) := hcb
            clear HE HW hca hcb
            have HE := HEn; have HW := HWn; have hcb := hcbn
            clear HEn HWn hcbn
            generalize wr.drewN nq = wr at *
            go_wp2_with fail
            go_quiet (fail)
            have z0n : (wr.drewN nq).cell? ⟨g, q * 2, none⟩ = some (.int .i64 zp) := z0
            have z1n : (wr.drewN nq).cell? ⟨g, q * 2 + 1, none⟩ = some (.slice zx.A zx.n zx.c) := z1
            clear z0 z1
            have z0 := z0n; have z1 := z1n
            clear z0n z1n
            have hgl2 : g < (wr.drewN nq).heap.size := (HE.out.ed.row.lt g rfl).2
            go_wp2_with fail
            have HEn := Lib.hid (HE.out.drewN nq)
            have HWn := Lib.hid (Bdrew HW.out nq)
            have hcbn : (wr.drewN nq).cell? ⟨bb, ob + i, none⟩ = some (.int .u8 (yi : Int)) := hcb
            clear HE HW hcb
            have HE := HEn; have HW := HWn; have hcb := hcbn
            clear HEn HWn hcbn
            generalize wr.drewN nq = wr at *
            have HD1 := Lib.hid HE.out.drew
            have HOZ := Lib.hid (show Own (wr.drew.alloc (Obj.cells #[.int .u8 (yi : Int)] 5)) w.heap.size 5 zx.A zx.n zx.c (bts zx.l) from (((HE.out.ed.pcs ⟨zp, zx⟩ (by simp)).1.drew).alloc (Obj.cells #[.int .u8 (yi : Int)] 5)))
            obtain ⟨A3, c3, w3, hrun, hown3, hg3, hat3⟩ := run_app (P := Try.prog) (wr.drew.alloc (Obj.cells #[.int .u8 (yi : Int)] 5)) elemB 22 w.heap.size HOZ.out 1 (Seg.one wr.drew (.int .u8 (yi : Int)) 5) (one_u8 _) (by unfold maxLen; omega) (by omega) (Nat.le_trans HW.out.size (by simp))
            rw [← bts_snoc zx.l yi (yi : Int) rfl] at hown3
            have HX := Lib.hid (OfI.ext (W := wr.drew.alloc (Obj.cells #[.int .u8 (yi : Int)] 5)) (HD1.out.alloc (Obj.cells #[.int .u8 (yi : Int)] 5)) hq hown3 hy hg3 hat3)
            have HB3 := Lib.hid (show Below w.heap.size w (w3.setCell ⟨g, q * 2 + 1, none⟩ (.slice A3 (zx.n + 1) c3)) from (below_app (HW.out.drew.alloc HW.out.size (Obj.cells #[.int .u8 (yi : Int)] 5)) (Nat.le_refl _) (Nat.le_trans HW.out.size (by simp)) HOZ.out hg3).setCell (p := ⟨g, q * 2 + 1, none⟩) hbg _)
            have C0 := Lib.hid (show wr.drew.cell? ⟨bb, ob + i, none⟩ = some (.int .u8 (yi : Int)) from hcb)
            have C1 := Lib.hid (show (wr.drew.alloc (Obj.cells #[.int .u8 (yi : Int)] 5)).cell? ⟨bb, ob + i, none⟩ = some (.int .u8 (yi : Int)) from (World.cell?_alloc_lt wr.drew (Obj.cells #[.int .u8 (yi : Int)] 5) ⟨bb, ob + i, none⟩ (by have := HW.out.size; show bb < wr.heap.size; omega)).trans hcb)
            have C2 := Lib.hid (show w3.cell? ⟨bb, ob + i, none⟩ = some (.int .u8 (yi : Int)) from (World.cell?_of_block (hg3.block bb (by have := HW.out.size; show bb < (wr.drew.alloc (Obj.cells #[.int .u8 (yi : Int)] 5)).heap.size; simp; omega) (fun e => by have := (HOZ.out.lt bb e.symm).1; omega))).trans C1.out)
            have C3 := Lib.hid (show (w3.setCell ⟨g, q * 2 + 1, none⟩ (.slice A3 (zx.n + 1) c3)).cell? ⟨bb, ob + i, none⟩ = some (.int .u8 (yi : Int)) from (World.cell?_setCell_other w3 _ ⟨bb, ob + i, none⟩ _ (fun e => by injection e; omega)).trans C2.out)
            have HRUN := Lib.hid hrun
            have HESX := Lib.hid (show es (L0 ++ [⟨zp, ⟨A3, zx.n + 1, c3, zx.l ++ [yi]⟩⟩]) = ofS a b (i + 1) by
              have e1 := HES.out
              rw [es_snoc] at e1
              rw [es_snoc, ofS_ext a b HD.out e1.symm (by show zp + ((zx.l.length : Nat) : Int) = _; rw [HZL.out]; exact HS1.out), HY.out]
              rfl)
            clear hrun hown3 hg3 hat3 hcb
            refine wp_region_held_drew (S := fun wx => wx.cell? ⟨bb, ob + i, none⟩ = some (.int .u8 (yi : Int))) (by kernel_rfl) C0.out (fun hHeld => ?_)
            refine takeH (i := 0) (d := 50) (v := .slice (some ⟨g, 0, none⟩) (q + 1) c') rfl rfl (by kernel_rfl) (by kernel_rfl) (by kernel_rfl) (fun _ _ _ h => h) (by rfl) ?_ hHeld ?_
            · intro wz hSw
              (try dsimp only at hSw)
              go_simp
            simp only [List.setIfInBounds_toArray, List.set_cons_zero, List.set_cons_succ]
            refine takeH (i := 1) (d := 51) (v := .int .i64 ((q : Int) + 1)) rfl rfl (by kernel_rfl) (by kernel_rfl) (by kernel_rfl) (fun _ _ _ h => h) (by rfl) ?_ hHeld ?_
            · intro wz hSw
              (try dsimp only at hSw)
              go_simp
            simp only [List.setIfInBounds_toArray, List.set_cons_zero, List.set_cons_succ]
            refine takeH (i := 2) (d := 52) (v := .int .i64 (q : Int)) rfl rfl (by kernel_rfl) (by kernel_rfl) (by kernel_rfl) (fun _ _ _ h => h) (by rfl) ?_ hHeld ?_
            · intro wz hSw
              (try dsimp only at hSw)
              go_simp
            simp only [List.setIfInBounds_toArray, List.set_cons_zero, List.set_cons_succ]
            refine takeH (i := 3) (d := 53) (v := .slice (some ⟨g, 0, none⟩) (q + 1) c') rfl rfl (by kernel_rfl) (by kernel_rfl) (by kernel_rfl) (fun _ _ _ h => h) (by rfl) ?_ hHeld ?_
            · intro wz hSw
              (try dsimp only at hSw)
              go_simp
            simp only [List.setIfInBounds_toArray, List.set_cons_zero, List.set_cons_succ]
            refine takeH (i := 4) (d := 54) (v := .int .i64 ((q : Int) + 1)) rfl rfl (by kernel_rfl) (by kernel_rfl) (by kernel_rfl) (fun _ _ _ h => h) (by rfl) ?_ hHeld ?_
            · intro wz hSw
              (try dsimp only at hSw)
              go_simp
            simp only [List.setIfInBounds_toArray, List.set_cons_zero, List.set_cons_succ]
            refine takeH (i := 5) (d := 55) (v := .int .i64 (q : Int)) rfl rfl (by kernel_rfl) (by kernel_rfl) (by kernel_rfl) (fun _ _ _ h => h) (by rfl) ?_ hHeld ?_
            · intro wz hSw
              (try dsimp only at hSw)
              go_simp
            simp only [List.setIfInBounds_toArray, List.set_cons_zero, List.set_cons_succ]
            refine takeH (i := 6) (d := 56) (v := .pointer (some ⟨g, q * 2, none⟩)) rfl rfl (by kernel_rfl) (by kernel_rfl) (by kernel_rfl) (fun _ _ _ h => h) (by rfl) ?_ hHeld ?_
            · intro wz hSw
              (try dsimp only at hSw)
              go_simp
            simp only [List.setIfInBounds_toArray, List.set_cons_zero, List.set_cons_succ]
            refine takeH (i := 7) (d := 57) (v := .pointer (some ⟨g, q * 2 + 1, none⟩)) rfl rfl (by kernel_rfl) (by kernel_rfl) (by kernel_rfl) (fun _ _ _ h => h) (by rfl) ?_ hHeld ?_
            · intro wz hSw
              (try dsimp only at hSw)
              go_simp
            simp only [List.setIfInBounds_toArray, List.set_cons_zero, List.set_cons_succ]
            refine takeH (i := 9) (d := 59) (v := .slice (some ⟨bb, ob, none⟩) n c2) rfl rfl (by kernel_rfl) (by kernel_rfl) (by kernel_rfl) (fun _ _ _ h => h) (by rfl) ?_ hHeld ?_
            · intro wz hSw
              (try dsimp only at hSw)
              go_simp
            simp only [List.setIfInBounds_toArray, List.set_cons_zero, List.set_cons_succ]
            refine takeH (i := 10) (d := 60) (v := .int .i64 (i : Int)) rfl rfl (by kernel_rfl) (by kernel_rfl) (by kernel_rfl) (fun _ _ _ h => h) (by rfl) ?_ hHeld ?_
            · intro wz hSw
              (try dsimp only at hSw)
              go_simp
            simp only [List.setIfInBounds_toArray, List.set_cons_zero, List.set_cons_succ]
            refine takeH (i := 11) (d := 61) (v := .pointer (some ⟨bb, ob + i, none⟩)) rfl rfl (by kernel_rfl) (by kernel_rfl) (by kernel_rfl) (fun _ _ _ h => h) (by rfl) ?_ hHeld ?_
            · intro wz hSw
              (try dsimp only at hSw)
              go_simp
            simp only [List.setIfInBounds_toArray, List.set_cons_zero, List.set_cons_succ]
            refine takeH (i := 12) (d := 62) (v := .int .u8 (yi : Int)) rfl rfl (by kernel_rfl) (by kernel_rfl) (by kernel_rfl) (fun _ _ _ h => h) (by rfl) ?_ hHeld ?_
            · intro wz hSw
              (try dsimp only at hSw)
              go_simp
            simp only [List.setIfInBounds_toArray, List.set_cons_zero, List.set_cons_succ]
            refine twoH (i := 8) (j := 13) (by kernel_rfl) ?_ ?_
            · refine opH (d := 58) (v := .slice zx.A zx.n zx.c) (w' := wr.drew) rfl rfl (by rfl) ?_ C0.out (fun hHeld => ?_)
              · go_simp
              simp only [List.setIfInBounds_toArray, List.set_cons_zero, List.set_cons_succ]
              refine stepH (i := 13) (d := 63) (v := .slice (some ⟨wr.heap.size, 0, none⟩) 1 1) (w' := wr.drew.alloc (Obj.cells #[.int .u8 (yi : Int)] 5)) rfl rfl (by kernel_rfl) (by rfl) ?_ C1.out (fun hHeld => ?_)
              · go_simp
              simp only [List.setIfInBounds_toArray, List.set_cons_zero, List.set_cons_succ]
              refine stepH (i := 14) (d := 64) (v := .slice A3 (zx.n + 1) c3) (w' := w3) rfl rfl (by kernel_rfl) (by rfl) ?_ C2.out (fun hHeld => ?_)
              · exact app_op (.tmp 58) (.tmp 63) rfl rfl rfl HRUN.out
              simp only [List.setIfInBounds_toArray, List.set_cons_zero, List.set_cons_succ]
              refine takeH (i := 15) (d := 65) (v := .pointer (some ⟨g, q * 2, none⟩)) rfl rfl (by kernel_rfl) (by kernel_rfl) (by kernel_rfl) (fun _ _ _ h => h) (by rfl) ?_ hHeld ?_
              · intro wz hSw
                (try dsimp only at hSw)
                go_simp
              simp only [List.setIfInBounds_toArray, List.set_cons_zero, List.set_cons_succ]
              refine takeH (i := 16) (d := 66) (v := .pointer (some ⟨g, q * 2 + 1, none⟩)) rfl rfl (by kernel_rfl) (by kernel_rfl) (by kernel_rfl) (fun _ _ _ h => h) (by rfl) ?_ hHeld ?_
              · intro wz hSw
                (try dsimp only at hSw)
                go_simp
              simp only [List.setIfInBounds_toArray, List.set_cons_zero, List.set_cons_succ]
              refine storeH (i := 17) (w' := w3.setCell ⟨g, q * 2 + 1, none⟩ (.slice A3 (zx.n + 1) c3)) rfl rfl (by kernel_rfl) (by rfl) ?_ C3.out (fun hHeld => ?_)
              · have k0 := HX.out.1
                have k1 := HX.out.2.1
                go_simp
              refine wpAnyH_done (by kernel_rfl) ?_ _
              clear hHeld
              go_wp2_with fail
              go_roundw
              case rel => exact ⟨i + 1, some ⟨g, 0, none⟩, q + 1, c', _, by omega, by omega, by go_num, rfl, HX.out.2.2, HESX.out, HB3.out⟩
              case measure => simp [intOf]; omega
            · refine opH (d := 63) (v := .slice (some ⟨wr.heap.size, 0, none⟩) 1 1) (w' := wr.drew.alloc (Obj.cells #[.int .u8 (yi : Int)] 5)) rfl rfl (by rfl) ?_ C1.out (fun hHeld => ?_)
              · go_simp
              simp only [List.setIfInBounds_toArray, List.set_cons_zero, List.set_cons_succ]
              have z1a : (wr.drew.alloc (Obj.cells #[.int .u8 (yi : Int)] 5)).cell? ⟨g, q * 2 + 1, none⟩ = some (.slice zx.A zx.n zx.c) := (World.cell?_alloc_lt wr.drew (Obj.cells #[.int .u8 (yi : Int)] 5) ⟨g, q * 2 + 1, none⟩ hgl2).trans z1
              refine stepH (i := 8) (d := 58) (v := .slice zx.A zx.n zx.c) (w' := wr.drew.alloc (Obj.cells #[.int .u8 (yi : Int)] 5)) rfl rfl (by kernel_rfl) (by rfl) ?_ C1.out (fun hHeld => ?_)
              · go_simp
              simp only [List.setIfInBounds_toArray, List.set_cons_zero, List.set_cons_succ]
              refine stepH (i := 14) (d := 64) (v := .slice A3 (zx.n + 1) c3) (w' := w3) rfl rfl (by kernel_rfl) (by rfl) ?_ C2.out (fun hHeld => ?_)
              · exact app_op (.tmp 58) (.tmp 63) rfl rfl rfl HRUN.out
              simp only [List.setIfInBounds_toArray, List.set_cons_zero, List.set_cons_succ]
              refine takeH (i := 15) (d := 65) (v := .pointer (some ⟨g, q * 2, none⟩)) rfl rfl (by kernel_rfl) (by kernel_rfl) (by kernel_rfl) (fun _ _ _ h => h) (by rfl) ?_ hHeld ?_
              · intro wz hSw
                (try dsimp only at hSw)
                go_simp
              simp only [List.setIfInBounds_toArray, List.set_cons_zero, List.set_cons_succ]
              refine takeH (i := 16) (d := 66) (v := .pointer (some ⟨g, q * 2 + 1, none⟩)) rfl rfl (by kernel_rfl) (by kernel_rfl) (by kernel_rfl) (fun _ _ _ h => h) (by rfl) ?_ hHeld ?_
              · intro wz hSw
                (try dsimp only at hSw)
                go_simp
              simp only [List.setIfInBounds_toArray, List.set_cons_zero, List.set_cons_succ]
              refine storeH (i := 17) (w' := w3.setCell ⟨g, q * 2 + 1, none⟩ (.slice A3 (zx.n + 1) c3)) rfl rfl (by kernel_rfl) (by rfl) ?_ C3.out (fun hHeld => ?_)
              · have k0 := HX.out.1
                have k1 := HX.out.2.1
                go_simp
              refine wpAnyH_done (by kernel_rfl) ?_ _
              clear hHeld
              go_wp2_with fail
              go_roundw
              case rel => exact ⟨i + 1, some ⟨g, 0, none⟩, q + 1, c', _, by omega, by omega, by go_num, rfl, HX.out.2.2, HESX.out, HB3.out⟩
              case measure => simp [intOf]; omega
          · have s1 : (zp + (zx.n : Int) == (i : Int)) = false := by simpa using hs
            have HNEW := Lib.hid (ofS_new a b HD.out (L := es L0) (s := zp) (d := zx.l) (by rw [← HES.out]; simp [es, Ed.e]) (by rw [HZL.out]; exact hs))
            clear hs
            go_wp2_with fail
            go_quiet (fail)
            have z0n : (wr.drewN nq).cell? ⟨g, q * 2, none⟩ = some (.int .i64 zp) := z0
            have z1n : (wr.drewN nq).cell? ⟨g, q * 2 + 1, none⟩ = some (.slice zx.A zx.n zx.c) := z1
            clear z0 z1
            have z0 := z0n; have z1 := z1n
            clear z0n z1n
            have HEn := Lib.hid (HE.out.drewN nq)
            have HWn := Lib.hid (Bdrew HW.out nq)
            have hcbn : (wr.drewN nq).cell? ⟨bb, ob + i, none⟩ = some (.int .u8 (yi : Int)) := hcb
            clear HE HW hca hcb
            have HE := HEn; have HW := HWn; have hcb := hcbn
            clear HEn HWn hcbn
            generalize wr.drewN nq = wr at *
            go_wp2_with fail
            go_quiet (fail)
            clear z0 z1
            have HEn := Lib.hid (HE.out.drewN nq)
            have HWn := Lib.hid (Bdrew HW.out nq)
            have hcbn : (wr.drewN nq).cell? ⟨bb, ob + i, none⟩ = some (.int .u8 (yi : Int)) := hcb
            clear HE HW hcb
            have HE := HEn; have HW := HWn; have hcb := hcbn
            clear HEn HWn hcbn
            generalize wr.drewN nq = wr at *
            have HO1 := Lib.hid (Own.lit wr #[.int .u8 (yi : Int)] 5 (base := w.heap.size) HW.out.size (by unfold maxLen; simp))
            have HE2 := Lib.hid (HE.out.ed.alloc (Obj.cells #[.int .u8 (yi : Int)] 5))
            have szr := HW.out.size
            have HBX := Lib.hid (show Box ((wr.alloc (Obj.cells #[.int .u8 (yi : Int)] 5)).alloc (Obj.cells #[.int .i64 (i : Int), .slice (some ⟨wr.heap.size, 0, none⟩) 1 1] 43)) (wr.heap.size + 1) 43 #[.int .i64 (i : Int), .slice (some ⟨wr.heap.size, 0, none⟩) 1 1] by
              have h9 := Box.new (wr.alloc (Obj.cells #[.int .u8 (yi : Int)] 5)) #[.int .i64 (i : Int), .slice (some ⟨wr.heap.size, 0, none⟩) 1 1] 43
              rw [show (wr.alloc (Obj.cells #[.int .u8 (yi : Int)] 5)).heap.size = wr.heap.size + 1 by simp] at h9
              exact h9)
            go_wp2_with ((at_builtin; refine wpList_appR _ rfl (.tmp 67) (.tmp 75) elemE rfl w.heap.size rfl (HE2.out.row.alloc (Obj.cells #[.int .i64 (i : Int), .slice (some ⟨wr.heap.size, 0, none⟩) 1 1] 43)) rfl HBX.out rfl (by intro u hu; simp at hu; rcases hu with rfl | rfl <;> rfl) (by unfold maxLen; omega) (by omega) (by simp; omega) ?_; intro A4 c4 w4 hown hg hat; have HO4 := Lib.hid hown; have HG4 := Lib.hid hg; clear hown hg hat))
            go_roundw
            case rel =>
              have hp := (HE2.out.alloc (Obj.cells #[.int .i64 (i : Int), .slice (some ⟨wr.heap.size, 0, none⟩) 1 1] 43)).push (pos := (i : Int)) (x := ⟨some ⟨wr.heap.size, 0, none⟩, 1, 1, [yi]⟩) (HO1.out.alloc _) (fun d hd => by simp at hd; omega) (by show 0 < 1; omega) HG4.out HO4.out
              refine ⟨i + 1, A4, _ + 1, c4, _, by omega, by omega, by go_num, rfl, HE.out.push hp rfl, ?_, ?_⟩
              · rw [es_snoc, HES.out, HNEW.out, HY.out]; rfl
              · exact below_appR ((HW.out.alloc szr (Obj.cells #[.int .u8 (yi : Int)] 5)).alloc (Nat.le_trans szr (by simp)) _) (Nat.le_refl _) (HE2.out.row.alloc _) (Nat.le_trans szr (by simp; omega)) HG4.out
            case measure => simp [intOf]; omega
    · obtain rfl : i = n := by omega
      go_wp2_with fail
      go_ret2
      exact ⟨A', m, c', L, rfl, HE.out.ed, HES.out, hmi, HW.out⟩
end Go.Proofs.Ytaagfmaboggbhaa.delta
