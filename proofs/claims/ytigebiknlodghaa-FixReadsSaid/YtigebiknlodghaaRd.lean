/-
  Readers: the walks of fix.Reader's methods and of the document's reader.
-/
import Derived.Test.YtigebiknlodghaaFix
namespace Go.Proofs.Ytigebiknlodghaa.fix
open Go.RowKit
set_option linter.unusedVariables false

/-- A reader behind a pointer, of bytes l; was something not there? -/
def Rd (w : World) (T : TypeId) (g B : Nat) (l : List Nat) (bad : Bool) : Prop :=
  ∃ A c, Box w g T #[.slice A l.length c, .bool bad] ∧ Seg w B A l.length (bts l) ∧ l.length ≤ c ∧ c ≤ maxLen ∧ IsB l ∧ B ≤ g
section
variable {w w' : World} {T : TypeId} {g B : Nat} {l : List Nat} {bad : Bool}
theorem Rd.isB (h : Rd w T g B l bad) : IsB l := by obtain ⟨_, _, _, _, _, _, h, _⟩ := h; exact h
theorem Rd.lt (h : Rd w T g B l bad) : g < w.heap.size := by obtain ⟨_, _, h, _⟩ := h; exact h.lt
theorem Rd.ge (h : Rd w T g B l bad) : B ≤ g := by obtain ⟨_, _, _, _, _, _, _, h⟩ := h; exact h
theorem Rd.drewN (h : Rd w T g B l bad) (k : Nat) : Rd (w.drewN k) T g B l bad := h
theorem Rd.drew (h : Rd w T g B l bad) : Rd w.drew T g B l bad := h
theorem Rd.below (h : Rd w T g B l bad) (hb : Below w.heap.size w w') : Rd w' T g B l bad := by
  have hlt := h.lt
  obtain ⟨A, c, h1, h2, h3, h4, h5, h6⟩ := h
  exact ⟨A, c, h1.below hb hlt, h2.below (hb.mono (by omega)), h3, h4, h5, h6⟩
theorem seg_grown {A : Option Addr} {n : Nat} {xs : List Value} {g : Nat} (h : Seg w B A n xs) (hg : w.grownBy w' (some g)) (hB : B ≤ g) (hw : B ≤ w.heap.size) : Seg w' B A n xs :=
  h.keep fun p hp => World.cell?_of_block (hg.block p.block (by omega) (fun e => by injection e with e; omega))
theorem Rd.grown {g2 : Nat} (h : Rd w T g B l bad) (hg : w.grownBy w' (some g2)) (hne : g ≠ g2) (hB : B ≤ g2) : Rd w' T g B l bad := by
  have hlt := h.lt
  obtain ⟨A, c, h1, h2, h3, h4, h5, h6⟩ := h
  exact ⟨A, c, h1.grown hg (by intro e; injection e with e; exact hne e), seg_grown h2 hg hB (by omega), h3, h4, h5, h6⟩
end

theorem rd_new {B n c : Nat} {A : Option Addr} {l : List Nat} {w : World} (h : Seg w B A n (bts l)) (hl : IsB l) (hnc : n ≤ c) (hc : c ≤ maxLen) (hB : B ≤ w.heap.size) :
    Calls Try.prog 29 #[.slice A n c] w fun e w' => ∃ g, e = .returned (.pointer (some ⟨g, 0, none⟩)) ∧ Rd w' 76 g B l false ∧ w.heap.size ≤ g ∧ Below w.heap.size w w' := by
  have hlen : l.length = n := by rw [← bts_len]; exact h.1
  have HS := Lib.hid h
  have HL := Lib.hid hl
  have HN := Lib.hid hlen
  clear h hl hlen
  go_enter Try.func29, Try.ntmps29
  go_wp2
  go_ret
  refine ⟨w.heap.size, rfl, ⟨A, c, ?_, ?_, by rw [HN.out]; exact hnc, hc, HL.out, hB⟩, Nat.le_refl _, (Below.refl _ _).alloc (Nat.le_refl _) _⟩
  · rw [HN.out]; exact Box.new w _ _
  · rw [HN.out]; exact HS.out.alloc hB _

set_option maxHeartbeats 800000 in
theorem rbytes_none {w : World} {g B : Nat} {l : List Nat} {bad : Bool} (h : Rd w 76 g B l bad) (q : Int) (hq : q < 0 ∨ (l.length : Int) < q) :
    Calls Try.prog 36 #[.pointer (some ⟨g, 0, none⟩), .int .i64 q] w fun e w' => e = .returned (.slice none 0 0) ∧ Rd w' 76 g B [] true ∧ w.grownBy w' (some g) := by
  have hge := h.ge
  obtain ⟨A, c, h1, h2, h3, h4, h5, h6⟩ := h
  have c0 : w.cell? ⟨g, 0, none⟩ = some (.slice A l.length c) := (h1.cell 0).trans rfl
  have c1 : w.cell? ⟨g, 1, none⟩ = some (.bool bad) := (h1.cell 1).trans rfl
  have f0 : w.frozen? ⟨g, 0, none⟩ = false := h1.frozen 0
  have f1 : w.frozen? ⟨g, 1, none⟩ = false := h1.frozen 1
  have H1 := Lib.hid h1
  have fin : ∀ w', w' = (w.setCell ⟨g, 0, none⟩ (.slice none 0 0)).setCell ⟨g, 1, none⟩ (.bool true) → Rd w' 76 g B [] true ∧ w.grownBy w' (some g) := by
    rintro w' rfl
    refine ⟨⟨none, 0, ((H1.out.set_ 0 _).set_ 1 _), Seg.empty _, Nat.le_refl _, Nat.zero_le _, IsB.nil, hge⟩, ⟨rfl, rfl, rfl, by simp, fun i hi hne => ?_⟩⟩
    rw [Below.heap_setCell _ _ _ i (fun e => hne (congrArg some e)), Below.heap_setCell _ _ _ i (fun e => hne (congrArg some e))]
  have F := Lib.hid fin
  clear h1 h2 h3 h4 h5 h6 fin
  by_cases hq0 : q < 0
  · clear hq
    go_enter Try.func36, Try.ntmps36
    go_wp2
    go_ret
    exact ⟨rfl, F.out _ rfl⟩
  · have hq1 : (l.length : Int) < q := by omega
    clear hq
    go_enter Try.func36, Try.ntmps36
    go_wp2
    go_ret
    exact ⟨rfl, F.out _ rfl⟩

set_option maxHeartbeats 1600000 in
theorem rbytes_some {w : World} {g B : Nat} {l : List Nat} {bad : Bool} (h : Rd w 76 g B l bad) (k : Nat) (hk : k ≤ l.length) (hlm : l.length ≤ 1000000) :
    Calls Try.prog 36 #[.pointer (some ⟨g, 0, none⟩), .int .i64 (k : Int)] w fun e w' => ∃ A' c', e = .returned (.slice A' k c') ∧ Own w' w.heap.size 5 A' k c' (bts (l.take k)) ∧ Rd w' 76 g B (l.drop k) bad ∧ w.grownBy w' (some g) := by
  have hge := h.ge
  have hlt := h.lt
  obtain ⟨A, c, h1, h2, h3, h4, h5, h6⟩ := h
  unfold maxLen at h4
  have c0 : w.cell? ⟨g, 0, none⟩ = some (.slice A l.length c) := (h1.cell 0).trans rfl
  have f0 : w.frozen? ⟨g, 0, none⟩ = false := h1.frozen 0
  have H1 := Lib.hid h1
  have H2 := Lib.hid h2
  have H5 := Lib.hid h5
  have hsz : ∀ u : Value, (w.setCell ⟨g, 0, none⟩ u).heap.size = w.heap.size := fun u => by simp
  have hgr : ∀ u : Value, w.grownBy (w.setCell ⟨g, 0, none⟩ u) (some g) := fun u => ⟨rfl, rfl, rfl, by simp, fun i hi hne => Below.heap_setCell _ _ _ i (fun e => hne (congrArg some e))⟩
  have HGR := Lib.hid hgr
  have HSZ := Lib.hid hsz
  have fin : ∀ A2 c2 A' c' w1, Seg w B A2 (l.length - k) (bts (l.drop k)) → l.length - k ≤ c2 → c2 ≤ maxLen →
      Own w1 w.heap.size 5 A' (0 + k) c' ([] ++ bts (l.take k)) → (w.setCell ⟨g, 0, none⟩ (.slice A2 (l.length - k) c2)).grownBy w1 (blk none) →
      Own w1 w.heap.size 5 A' k c' (bts (l.take k)) ∧ Rd w1 76 g B (l.drop k) bad ∧ w.grownBy w1 (some g) := by
    intro A2 c2 A' c' w1 hs hc2 hm ho hg
    rw [Nat.zero_add, List.nil_append] at ho
    have hg2 : w.grownBy w1 (some g) := ⟨hg.os, hg.tape, hg.output, by have := hg.size; rw [HSZ.out] at this; exact this, fun i hi hne => (hg.block i (by rw [HSZ.out]; exact hi) (by unfold blk; simp)).trans ((HGR.out _).block i hi hne)⟩
    refine ⟨ho, ⟨A2, c2, ?_, ?_, by rw [List.length_drop]; exact hc2, hm, H5.out.drop k, hge⟩, hg2⟩
    · rw [List.length_drop]
      exact (hg.block g (by rw [HSZ.out]; exact hlt) (by unfold blk; simp)).trans (H1.out.set_ 0 _)
    · rw [List.length_drop]; exact seg_grown hs hg2 hge (by omega)
  have F := Lib.hid fin
  have hsegp := H2.out.prefix_ hk
  rw [← bts_take] at hsegp
  have hsegd := H2.out.suffix_ hk h3
  rw [← bts_drop] at hsegd
  have HP := Lib.hid (fun u => seg_grown hsegp (HGR.out u) hge (by omega))
  have HD := Lib.hid hsegd
  clear h1 h2 h5 hgr hsz fin hsegp hsegd
  by_cases hck : c = k
  · rw [if_pos hck] at HD
    subst hck
    go_enter Try.func36, Try.ntmps36
    go_wp2_with ((at_builtin; refine wpList_app _ rfl (.const (.slice none 0 0)) (.tmp 38) elemB rfl w.heap.size rfl (Own.nil _ _ _) B rfl (HP.out _) (bts_one _) (by unfold maxLen; omega) (by omega) (by simp) ?_; intro A1 c1 w1 hown hg hat; have HO := Lib.hid hown; have HG := Lib.hid hg; clear hown hg hat))
    go_ret
    refine ⟨A1, c1, by simp, F.out _ 0 _ _ _ HD.out (by omega) (by unfold maxLen; omega) HO.out ?_⟩
    rw [show l.length - c = 0 by omega]
    exact HG.out
  · rw [if_neg hck] at HD
    go_enter Try.func36, Try.ntmps36
    go_wp2_with ((at_builtin; refine wpList_app _ rfl (.const (.slice none 0 0)) (.tmp 38) elemB rfl w.heap.size rfl (Own.nil _ _ _) B rfl (HP.out _) (bts_one _) (by unfold maxLen; omega) (by omega) (by simp) ?_; intro A1 c1 w1 hown hg hat; have HO := Lib.hid hown; have HG := Lib.hid hg; clear hown hg hat))
    go_ret
    refine ⟨A1, c1, by simp, F.out _ (c - k) _ _ _ HD.out (by omega) (by unfold maxLen; omega) HO.out ?_⟩
    exact HG.out

set_option maxHeartbeats 800000 in
theorem qbytes_none {w : World} {g B : Nat} {l : List Nat} {bad : Bool} (h : Rd w 57 g B l bad) (q : Int) (hq : q < 0 ∨ (l.length : Int) < q) :
    Calls Try.prog 37 #[.pointer (some ⟨g, 0, none⟩), .int .i64 q] w fun e w' => e = .returned (.slice none 0 0) ∧ Rd w' 57 g B [] true ∧ w.grownBy w' (some g) := by
  have hge := h.ge
  obtain ⟨A, c, h1, h2, h3, h4, h5, h6⟩ := h
  have c0 : w.cell? ⟨g, 0, none⟩ = some (.slice A l.length c) := (h1.cell 0).trans rfl
  have c1 : w.cell? ⟨g, 1, none⟩ = some (.bool bad) := (h1.cell 1).trans rfl
  have f0 : w.frozen? ⟨g, 0, none⟩ = false := h1.frozen 0
  have f1 : w.frozen? ⟨g, 1, none⟩ = false := h1.frozen 1
  have H1 := Lib.hid h1
  have fin : ∀ w', w' = (w.setCell ⟨g, 0, none⟩ (.slice none 0 0)).setCell ⟨g, 1, none⟩ (.bool true) → Rd w' 57 g B [] true ∧ w.grownBy w' (some g) := by
    rintro w' rfl
    refine ⟨⟨none, 0, ((H1.out.set_ 0 _).set_ 1 _), Seg.empty _, Nat.le_refl _, Nat.zero_le _, IsB.nil, hge⟩, ⟨rfl, rfl, rfl, by simp, fun i hi hne => ?_⟩⟩
    rw [Below.heap_setCell _ _ _ i (fun e => hne (congrArg some e)), Below.heap_setCell _ _ _ i (fun e => hne (congrArg some e))]
  have F := Lib.hid fin
  clear h1 h2 h3 h4 h5 h6 fin
  by_cases hq0 : q < 0
  · clear hq
    go_enter Try.func37, Try.ntmps37
    go_wp2
    go_ret
    exact ⟨rfl, F.out _ rfl⟩
  · have hq1 : (l.length : Int) < q := by omega
    clear hq
    go_enter Try.func37, Try.ntmps37
    go_wp2
    go_ret
    exact ⟨rfl, F.out _ rfl⟩

set_option maxHeartbeats 1600000 in
theorem qbytes_some {w : World} {g B : Nat} {l : List Nat} {bad : Bool} (h : Rd w 57 g B l bad) (k : Nat) (hk : k ≤ l.length) (hlm : l.length ≤ 1000000) :
    Calls Try.prog 37 #[.pointer (some ⟨g, 0, none⟩), .int .i64 (k : Int)] w fun e w' => ∃ A' c', e = .returned (.slice A' k c') ∧ Own w' w.heap.size 5 A' k c' (bts (l.take k)) ∧ Rd w' 57 g B (l.drop k) bad ∧ w.grownBy w' (some g) := by
  have hge := h.ge
  have hlt := h.lt
  obtain ⟨A, c, h1, h2, h3, h4, h5, h6⟩ := h
  unfold maxLen at h4
  have c0 : w.cell? ⟨g, 0, none⟩ = some (.slice A l.length c) := (h1.cell 0).trans rfl
  have f0 : w.frozen? ⟨g, 0, none⟩ = false := h1.frozen 0
  have H1 := Lib.hid h1
  have H2 := Lib.hid h2
  have H5 := Lib.hid h5
  have fin : ∀ A2 c2 A' c' w1, Seg w B A2 (l.length - k) (bts (l.drop k)) → l.length - k ≤ c2 → c2 ≤ maxLen →
      Own w1 w.heap.size 5 A' (0 + k) c' ([] ++ bts (l.take k)) → Below w.heap.size w w1 → ∀ w2, w2 = w1.setCell ⟨g, 0, none⟩ (.slice A2 (l.length - k) c2) →
      Own w2 w.heap.size 5 A' k c' (bts (l.take k)) ∧ Rd w2 57 g B (l.drop k) bad ∧ w.grownBy w2 (some g) := by
    intro A2 c2 A' c' w1 hs hc2 hm ho hb w2 e2
    subst e2
    rw [Nat.zero_add, List.nil_append] at ho
    have hg2 : w.grownBy (w1.setCell ⟨g, 0, none⟩ (.slice A2 (l.length - k) c2)) (some g) := ⟨hb.os, hb.tape, hb.output, by have := hb.size; simpa using this, fun i hi hne => (Below.heap_setCell _ _ _ i (fun e => hne (congrArg some e))).trans (hb.block i hi)⟩
    refine ⟨ho.setFar (fun e => by have := (ho.lt g e).1; omega) _, ⟨A2, c2, ?_, ?_, by rw [List.length_drop]; exact hc2, hm, H5.out.drop k, hge⟩, hg2⟩
    · rw [List.length_drop]
      exact (H1.out.below hb hlt).set_ 0 _
    · rw [List.length_drop]; exact seg_grown hs hg2 hge (by omega)
  have F := Lib.hid fin
  have hsegp := H2.out.prefix_ hk
  rw [← bts_take] at hsegp
  have hsegd := H2.out.suffix_ hk h3
  rw [← bts_drop] at hsegd
  have HP := Lib.hid hsegp
  have HD := Lib.hid hsegd
  clear h1 h2 h5 fin hsegp hsegd
  by_cases hck : c = k
  · rw [if_pos hck] at HD
    subst hck
    go_enter Try.func37, Try.ntmps37
    go_wp2_with ((at_builtin; refine wpList_app _ rfl (.tmp 23) (.tmp 29) elemB rfl w.heap.size rfl (Own.lit w #[] 5 (Nat.le_refl _) (Nat.zero_le _)) B rfl (HP.out.alloc (by omega) _) (bts_one _) (by unfold maxLen; simp; omega) (by simp; omega) (by simp) ?_; intro A1 c1 w1 hown hg hat; have HO := Lib.hid hown; have HB1 := Lib.hid (below_app ((Below.refl w.heap.size w).alloc (Nat.le_refl _) (Obj.cells #[] 5)) (Nat.le_refl _) (by simp) (Own.lit w #[] 5 (Nat.le_refl _) (Nat.zero_le _)) hg); have HX := Lib.hid (H1.out.below HB1.out hlt); have c0' : w1.cell? ⟨g, 0, none⟩ = some (.slice A l.length c) := (HX.out.cell 0).trans rfl; have f0' : w1.frozen? ⟨g, 0, none⟩ = false := HX.out.frozen 0; clear hown hg hat))
    go_ret
    refine ⟨A1, c1, by simp, ?_⟩
    exact F.out _ 0 _ _ _ HD.out (by omega) (by unfold maxLen; omega) HO.out HB1.out _ (by rw [show l.length - c = 0 by omega])
  · rw [if_neg hck] at HD
    go_enter Try.func37, Try.ntmps37
    go_wp2_with ((at_builtin; refine wpList_app _ rfl (.tmp 23) (.tmp 29) elemB rfl w.heap.size rfl (Own.lit w #[] 5 (Nat.le_refl _) (Nat.zero_le _)) B rfl (HP.out.alloc (by omega) _) (bts_one _) (by unfold maxLen; simp; omega) (by simp; omega) (by simp) ?_; intro A1 c1 w1 hown hg hat; have HO := Lib.hid hown; have HB1 := Lib.hid (below_app ((Below.refl w.heap.size w).alloc (Nat.le_refl _) (Obj.cells #[] 5)) (Nat.le_refl _) (by simp) (Own.lit w #[] 5 (Nat.le_refl _) (Nat.zero_le _)) hg); have HX := Lib.hid (H1.out.below HB1.out hlt); have c0' : w1.cell? ⟨g, 0, none⟩ = some (.slice A l.length c) := (HX.out.cell 0).trans rfl; have f0' : w1.frozen? ⟨g, 0, none⟩ = false := HX.out.frozen 0; clear hown hg hat))
    go_ret
    refine ⟨A1, c1, by simp, ?_⟩
    exact F.out _ (c - k) _ _ _ HD.out (by omega) (by unfold maxLen; omega) HO.out HB1.out _ rfl
end Go.Proofs.Ytigebiknlodghaa.fix
