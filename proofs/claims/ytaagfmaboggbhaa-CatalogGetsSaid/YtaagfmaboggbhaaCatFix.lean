/-
  The walks of fix.Get, fix.Put, fix.Reader's methods.
-/
import Derived.Test.YtaagfmaboggbhaaFixPlain
import Derived.Test.YtaagfmaboggbhaaMake
import Derived.Test.YtaagfmaboggbhaaBytes
import Derived.WalkLawsBesides
import Derived.Laws.BitsAllLaws
import Derived.Laws.BitsLemmas
import Derived.Outline
namespace Go.Proofs.Ytaagfmaboggbhaa.fix
open Go.RowKit
set_option linter.unusedVariables false

theorem shl_u64 (c k : Nat) (hc : c < 256) (hk : k < 8) : IntKind.u64.wrap ((c : Int) * 2 ^ (8 * k)) = ((c * 2 ^ (8 * k) : Nat) : Int) := by
  have h1 : 2 ^ (8 * k) ≤ 2 ^ 56 := Nat.pow_le_pow_right (by decide) (by omega)
  have h2 : c * 2 ^ (8 * k) ≤ 255 * 2 ^ 56 := Nat.mul_le_mul (by omega) h1
  rw [show (c : Int) * 2 ^ (8 * k) = ((c * 2 ^ (8 * k) : Nat) : Int) by simp]
  generalize c * 2 ^ (8 * k) = p at *
  exact IntWalk.u64_in _ (by omega)
theorem or_u64 (n c k : Nat) (hc : c < 256) (hk : k < 8) (hn : n < 2 ^ (8 * k)) : bits .or .u64 (n : Int) ((c * 2 ^ (8 * k) : Nat) : Int) = ((n + c * 2 ^ (8 * k) : Nat) : Int) := by
  have h1 : 2 ^ (8 * k) ≤ 2 ^ 56 := Nat.pow_le_pow_right (by decide) (by omega)
  have h2 : c * 2 ^ (8 * k) ≤ 255 * 2 ^ 56 := Nat.mul_le_mul (by omega) h1
  have h3 := u64_or_nat n (c * 2 ^ (8 * k)) (by omega) (by omega)
  rw [or_step n c k hn] at h3
  exact h3
set_option maxHeartbeats 800000 in
/-- fix.Get. -/
theorem get_any {B n : Nat} {A : Option Addr} (c : Nat) {l : List Nat} {w : World} (h : Seg w B A n (bts l)) (hl : IsB l) (hnc : n ≤ c) (hn : n ≤ 1000000) :
    Calls Try.prog 98 #[.slice A n c] w fun e w' => e = .returned (.int .u64 (leN (l.take 8) : Nat)) ∧ w = w' := by
  have hlen : l.length = n := by rw [← bts_len]; exact h.1
  have HL := Lib.hid hlen
  have HB := Lib.hid hl
  have HS := Lib.hid h
  clear hlen h hl
  by_cases h8 : n ≤ 8
  · have h8i : (n : Int) ≤ 8 := by omega
    go_enter Try.func98, Try.ntmps98
    go_wp2
    go_loop [3, 12] (fun v i => ∃ k : Nat, k ≤ n ∧ i = .int .i64 (k : Int) ∧ v = .int .u64 ((leN (l.take k) : Nat) : Int)) (fun _ i => n - (intOf i).toNat)
    case atStart => exact ⟨0, by omega, rfl, rfl⟩
    case round =>
      obtain ⟨k, hk, rfl, rfl⟩ := hrel
      by_cases hlt : k < n
      · obtain ⟨b, off, hkl, rfl, hb, hcell⟩ := HS.out.byte (k := k) (by omega)
        have hx := HB.out.at_ hkl
        have hst := Lib.hid (leN_step hkl)
        have hnk : leN (l.take k) < 2 ^ (8 * k) := by
          have := leN_lt (HB.out.take k)
          rw [List.length_take, Nat.min_eq_left (Nat.le_of_lt hkl)] at this
          exact this
        have e1 := shl_u64 l[k] k hx (by omega)
        have e2 := or_u64 (leN (l.take k)) l[k] k hx (by omega) hnk
        have hk8 : k < 8 := by omega
        generalize l[k] = x at *
        generalize leN (l.take k) = v at *
        have HE1 := Lib.hid e1
        have HE2 := Lib.hid e2
        clear e1 e2 hnk
        go_wp2
        go_round
        case rel => exact ⟨k + 1, by omega, by go_num, by rw [HE1.out, HE2.out, hst.out]⟩
        case measure => simp [intOf]; omega
      · have hkm : leN (l.take k) = leN (l.take 8) := by
          obtain rfl : k = n := by omega
          rw [List.take_of_length_le (by rw [HL.out]; omega), List.take_of_length_le (by rw [HL.out]; omega)]
        go_wp2
        go_ret
        exact ⟨by rw [← hkm]; rfl, rfl⟩
  · have h8i : ¬ (n : Int) ≤ 8 := by omega
    have hmx : max (8 : Int) 0 = 8 := by decide
    go_enter Try.func98, Try.ntmps98
    go_wp2
    go_loop [3, 12] (fun v i => ∃ k : Nat, k ≤ 8 ∧ i = .int .i64 (k : Int) ∧ v = .int .u64 ((leN (l.take k) : Nat) : Int)) (fun _ i => 8 - (intOf i).toNat)
    case atStart => exact ⟨0, by omega, rfl, rfl⟩
    case round =>
      obtain ⟨k, hk, rfl, rfl⟩ := hrel
      by_cases hlt : k < 8
      · obtain ⟨b, off, hkl, rfl, hb, hcell⟩ := HS.out.byte (k := k) (by omega)
        have hx := HB.out.at_ hkl
        have hst := Lib.hid (leN_step hkl)
        have hnk : leN (l.take k) < 2 ^ (8 * k) := by
          have := leN_lt (HB.out.take k)
          rw [List.length_take, Nat.min_eq_left (Nat.le_of_lt hkl)] at this
          exact this
        have e1 := shl_u64 l[k] k hx (by omega)
        have e2 := or_u64 (leN (l.take k)) l[k] k hx (by omega) hnk
        have hk8 : k < 8 := by omega
        generalize l[k] = x at *
        generalize leN (l.take k) = v at *
        have HE1 := Lib.hid e1
        have HE2 := Lib.hid e2
        clear e1 e2 hnk
        go_wp2
        go_round
        case rel => exact ⟨k + 1, by omega, by go_num, by rw [HE1.out, HE2.out, hst.out]⟩
        case measure => simp [intOf]; omega
      · have hkm : leN (l.take k) = leN (l.take 8) := by
          obtain rfl : k = 8 := by omega
          rfl
        go_wp2
        go_ret
        exact ⟨by rw [← hkm]; rfl, rfl⟩
theorem bts_snoc (o : List Nat) (c : Nat) (x : Int) (h : x = (c : Int)) : bts (o ++ [c]) = bts o ++ [Value.int .u8 x] := by subst h; simp [bts]
theorem one_u8 (x : Int) : ∀ u ∈ [Value.int .u8 x], u.oneCell' = true := by
  intro u hu
  obtain rfl : u = .int .u8 x := by simpa using hu
  rfl
/-- A row that came of another one by appends: the old one is there no more, or it is the same block. -/
def Came (w : World) (A A' : Option Addr) : Prop := blk A' = blk A ∨ ∃ g, blk A' = some g ∧ w.heap.size ≤ g
theorem Came.refl (w : World) (A : Option Addr) : Came w A A := .inl rfl
theorem Came.step {w w1 w2 : World} {A A1 A2 : Option Addr} (h : Came w A A1) (hg : w.grownBy w1 (blk A)) (hg2 : w1.grownBy w2 (blk A1)) (h2 : blk A2 = blk A1 ∨ blk A2 = some w1.heap.size) : w.grownBy w2 (blk A) ∧ Came w A A2 := by
  refine ⟨⟨hg2.os.trans hg.os, hg2.tape.trans hg.tape, hg2.output.trans hg.output, Nat.le_trans hg.size hg2.size, fun i hi hne => (hg2.block i (Nat.lt_of_lt_of_le hi hg.size) (fun e => ?_)).trans (hg.block i hi hne)⟩, ?_⟩
  · rcases h with h | ⟨g, h, hl⟩
    · rw [h] at e; exact hne e
    · rw [h] at e; injection e with e; omega
  · rcases h2 with h2 | h2
    · unfold Came; rw [h2]; exact h
    · exact .inr ⟨_, h2, hg.size⟩
theorem grown_alloc {w w1 : World} {row : Option Nat} (h : w.grownBy w1 row) (o : Obj) : w.grownBy (w1.alloc o) row :=
  ⟨h.os, h.tape, h.output, Nat.le_trans h.size (by simp), fun i hi hne => (Below.heap_alloc w1 o i (Nat.lt_of_lt_of_le hi h.size)).trans (h.block i hi hne)⟩
theorem grown_refl (w : World) (row : Option Nat) : w.grownBy w row := ⟨rfl, rfl, rfl, Nat.le_refl _, fun _ _ _ => rfl⟩
theorem byte_of (v j : Nat) : IntKind.u8.wrap ((v : Int) / 2 ^ (8 * j)) = ((v / 2 ^ (8 * j) % 256 : Nat) : Int) := by
  rw [show (v : Int) / 2 ^ (8 * j) = ((v / 2 ^ (8 * j) : Nat) : Int) by simp, IntKind.wrap_u8]; omega
set_option maxHeartbeats 800000 in
/-- fix.Put behind a row of the call's own. -/
theorem put_own {base n c : Nat} {A : Option Addr} {l : List Nat} (v k : Nat) {w : World} (h : Own w base 5 A n c (bts l)) (hk : k ≤ 8) (hbase : base ≤ w.heap.size) (hn : n ≤ 1000000) :
    Calls Try.prog 57 #[.slice A n c, .int .u64 (v : Int), .int .i64 (k : Int)] w fun e w' => ∃ A' c', e = .returned (.slice A' (n + k) c') ∧ Own w' base 5 A' (n + k) c' (bts (l ++ leB v k)) ∧ w.grownBy w' (blk A) ∧ Came w A A' := by
  have HO := Lib.hid h
  have h8i : (k : Int) ≤ 8 := by omega
  clear h
  go_enter Try.func57, Try.ntmps57
  go_wp2
  go_loopw [0, 10] (fun b i wr => ∃ j : Nat, ∃ A1 c1, j ≤ k ∧ i = .int .i64 (j : Int) ∧ b = .slice A1 (n + j) c1 ∧ Own wr base 5 A1 (n + j) c1 (bts (l ++ leB v j)) ∧ w.grownBy wr (blk A) ∧ Came w A A1) (fun _ i _ => k - (intOf i).toNat)
  case atStart => exact ⟨0, A, c, by omega, rfl, rfl, by simpa [leB] using HO.out, grown_refl _ _, Came.refl _ _⟩
  case round =>
    obtain ⟨j, A1, c1, hj, rfl, rfl, hown, hgr, hcm⟩ := hrel
    have HO1 := Lib.hid hown
    have HG1 := Lib.hid hgr
    have HC1 := Lib.hid hcm
    have sz := Nat.le_trans hbase hgr.size
    clear hown hgr hcm
    by_cases hlt : j < k
    · have e1 := byte_of v j
      have HE := Lib.hid (leB_snoc v j)
      go_wp2_with (first
        | (at_builtin; refine wpList_app _ rfl (.tmp 13) (.tmp 19) elemB rfl base rfl (HO1.out.alloc _) _ rfl (Seg.one wr _ _) (one_u8 _) (by unfold maxLen; omega) (by omega) (by simp; omega) ?_; intro A2 c2 w1 hown1 hg1 hat1; have HO2 := Lib.hid hown1; have HG2 := Lib.hid hg1; have HA2 := Lib.hid hat1; clear hown1 hg1 hat1))
      go_roundw
      case rel =>
        have hs := HC1.out.step (grown_alloc HG1.out _) HG2.out (A2 := A2) HA2.out
        refine ⟨j + 1, A2, c2, by omega, by go_num, rfl, ?_, hs.1, ?_⟩
        · rw [HE.out, ← List.append_assoc, bts_snoc _ _ _ rfl]
          exact HO2.out
        · rcases HA2.out with h2 | h2
          · unfold Came; rw [h2]; exact HC1.out
          · exact .inr ⟨_, h2, by have := HG1.out.size; simp; omega⟩
      case measure => simp [intOf]; omega
    · obtain rfl : j = k := by omega
      go_wp2
      go_ret
      exact ⟨A1, c1, rfl, HO1.out, HG1.out, HC1.out⟩

/-- A reader behind a pointer, of bytes l; was something not there? -/
def Rd (w : World) (T : TypeId) (g B : Nat) (l : List Nat) (bad : Bool) : Prop :=
  ∃ A c, Box w g T #[.slice A l.length c, .bool bad] ∧ Seg w B A l.length (bts l) ∧ l.length ≤ c ∧ c ≤ maxLen ∧ IsB l ∧ B ≤ g
section
variable {w w' : World} {T : TypeId} {g B : Nat} {l : List Nat} {bad : Bool}
theorem Rd.isB (h : Rd w T g B l bad) : IsB l := by obtain ⟨_, _, _, _, _, _, h, _⟩ := h; exact h
theorem Rd.lt (h : Rd w T g B l bad) : g < w.heap.size := by obtain ⟨_, _, h, _⟩ := h; exact h.lt
theorem Rd.ge (h : Rd w T g B l bad) : B ≤ g := by obtain ⟨_, _, _, _, _, _, _, h⟩ := h; exact h
theorem Rd.drewN (h : Rd w T g B l bad) (k : Nat) : Rd (w.drewN k) T g B l bad := h
theorem Rd.drew (h : Rd w T g B l bad) : Rd w.drew T g B l bad := h
theorem Rd.below (h : Rd w T g B l bad) (hb : Below w.heap.size w w') : Rd w' T g B l bad := by
  have hlt := h.lt
  obtain ⟨A, c, h1, h2, h3, h4, h5, h6⟩ := h
  exact ⟨A, c, h1.below hb hlt, h2.below (hb.mono (by omega)), h3, h4, h5, h6⟩
theorem seg_grown {A : Option Addr} {n : Nat} {xs : List Value} {g : Nat} (h : Seg w B A n xs) (hg : w.grownBy w' (some g)) (hB : B ≤ g) (hw : B ≤ w.heap.size) : Seg w' B A n xs :=
  h.keep fun p hp => World.cell?_of_block (hg.block p.block (by omega) (fun e => by injection e with e; omega))
theorem Rd.grown {g2 : Nat} (h : Rd w T g B l bad) (hg : w.grownBy w' (some g2)) (hne : g ≠ g2) (hB : B ≤ g2) : Rd w' T g B l bad := by
  have hlt := h.lt
  obtain ⟨A, c, h1, h2, h3, h4, h5, h6⟩ := h
  exact ⟨A, c, h1.grown hg (by intro e; injection e with e; exact hne e), seg_grown h2 hg hB (by omega), h3, h4, h5, h6⟩
end
theorem rd_new {B n c : Nat} {A : Option Addr} {l : List Nat} {w : World} (h : Seg w B A n (bts l)) (hl : IsB l) (hnc : n ≤ c) (hc : c ≤ maxLen) (hB : B ≤ w.heap.size) :
    Calls Try.prog 66 #[.slice A n c] w fun e w' => ∃ g, e = .returned (.pointer (some ⟨g, 0, none⟩)) ∧ Rd w' 130 g B l false ∧ w.heap.size ≤ g ∧ Below w.heap.size w w' := by
  have hlen : l.length = n := by rw [← bts_len]; exact h.1
  have HS := Lib.hid h
  have HL := Lib.hid hl
  have HN := Lib.hid hlen
  clear h hl hlen
  go_enter Try.func66, Try.ntmps66
  go_wp2
  go_ret
  refine ⟨w.heap.size, rfl, ⟨A, c, ?_, ?_, by rw [HN.out]; exact hnc, hc, HL.out, hB⟩, Nat.le_refl _, (Below.refl _ _).alloc (Nat.le_refl _) _⟩
  · rw [HN.out]; exact Box.new w _ _
  · rw [HN.out]; exact HS.out.alloc hB _
set_option maxHeartbeats 800000 in
theorem rbytes_none {w : World} {g B : Nat} {l : List Nat} {bad : Bool} (h : Rd w 130 g B l bad) (q : Int) (hq : q < 0 ∨ (l.length : Int) < q) :
    Calls Try.prog 99 #[.pointer (some ⟨g, 0, none⟩), .int .i64 q] w fun e w' => e = .returned (.slice none 0 0) ∧ Rd w' 130 g B [] true ∧ w.grownBy w' (some g) := by
  have hge := h.ge
  obtain ⟨A, c, h1, h2, h3, h4, h5, h6⟩ := h
  have c0 : w.cell? ⟨g, 0, none⟩ = some (.slice A l.length c) := (h1.cell 0).trans rfl
  have c1 : w.cell? ⟨g, 1, none⟩ = some (.bool bad) := (h1.cell 1).trans rfl
  have f0 : w.frozen? ⟨g, 0, none⟩ = false := h1.frozen 0
  have f1 : w.frozen? ⟨g, 1, none⟩ = false := h1.frozen 1
  have H1 := Lib.hid h1
  have fin : ∀ w', w' = (w.setCell ⟨g, 0, none⟩ (.slice none 0 0)).setCell ⟨g, 1, none⟩ (.bool true) → Rd w' 130 g B [] true ∧ w.grownBy w' (some g) := by
    rintro w' rfl
    refine ⟨⟨none, 0, ((H1.out.set_ 0 _).set_ 1 _), Seg.empty _, Nat.le_refl _, Nat.zero_le _, IsB.nil, hge⟩, ⟨rfl, rfl, rfl, by simp, fun i hi hne => ?_⟩⟩
    rw [Below.heap_setCell _ _ _ i (fun e => hne (congrArg some e)), Below.heap_setCell _ _ _ i (fun e => hne (congrArg some e))]
  have F := Lib.hid fin
  clear h1 h2 h3 h4 h5 h6 fin
  by_cases hq0 : q < 0
  · clear hq
    go_enter Try.func99, Try.ntmps99
    go_wp2
    go_ret
    exact ⟨rfl, F.out _ rfl⟩
  · have hq1 : (l.length : Int) < q := by omega
    clear hq
    go_enter Try.func99, Try.ntmps99
    go_wp2
    go_ret
    exact ⟨rfl, F.out _ rfl⟩
set_option maxHeartbeats 1600000 in
theorem rbytes_some {w : World} {g B : Nat} {l : List Nat} {bad : Bool} (h : Rd w 130 g B l bad) (k : Nat) (hk : k ≤ l.length) (hlm : l.length ≤ 1000000) :
    Calls Try.prog 99 #[.pointer (some ⟨g, 0, none⟩), .int .i64 (k : Int)] w fun e w' => ∃ A' c', e = .returned (.slice A' k c') ∧ Own w' w.heap.size 5 A' k c' (bts (l.take k)) ∧ Rd w' 130 g B (l.drop k) bad ∧ w.grownBy w' (some g) := by
  have hge := h.ge
  have hlt := h.lt
  obtain ⟨A, c, h1, h2, h3, h4, h5, h6⟩ := h
  unfold maxLen at h4
  have c0 : w.cell? ⟨g, 0, none⟩ = some (.slice A l.length c) := (h1.cell 0).trans rfl
  have f0 : w.frozen? ⟨g, 0, none⟩ = false := h1.frozen 0
  have H1 := Lib.hid h1
  have H2 := Lib.hid h2
  have H5 := Lib.hid h5
  have hsz : ∀ u : Value, (w.setCell ⟨g, 0, none⟩ u).heap.size = w.heap.size := fun u => by simp
  have hgr : ∀ u : Value, w.grownBy (w.setCell ⟨g, 0, none⟩ u) (some g) := fun u => ⟨rfl, rfl, rfl, by simp, fun i hi hne => Below.heap_setCell _ _ _ i (fun e => hne (congrArg some e))⟩
  have HGR := Lib.hid hgr
  have HSZ := Lib.hid hsz
  have fin : ∀ A2 c2 A' c' w1, Seg w B A2 (l.length - k) (bts (l.drop k)) → l.length - k ≤ c2 → c2 ≤ maxLen →
      Own w1 w.heap.size 5 A' (0 + k) c' ([] ++ bts (l.take k)) → (w.setCell ⟨g, 0, none⟩ (.slice A2 (l.length - k) c2)).grownBy w1 (blk none) →
      Own w1 w.heap.size 5 A' k c' (bts (l.take k)) ∧ Rd w1 130 g B (l.drop k) bad ∧ w.grownBy w1 (some g) := by
    intro A2 c2 A' c' w1 hs hc2 hm ho hg
    rw [Nat.zero_add, List.nil_append] at ho
    have hg2 : w.grownBy w1 (some g) := ⟨hg.os, hg.tape, hg.output, by have := hg.size; rw [HSZ.out] at this; exact this, fun i hi hne => (hg.block i (by rw [HSZ.out]; exact hi) (by unfold blk; simp)).trans ((HGR.out _).block i hi hne)⟩
    refine ⟨ho, ⟨A2, c2, ?_, ?_, by rw [List.length_drop]; exact hc2, hm, H5.out.drop k, hge⟩, hg2⟩
    · rw [List.length_drop]
      exact (hg.block g (by rw [HSZ.out]; exact hlt) (by unfold blk; simp)).trans (H1.out.set_ 0 _)
    · rw [List.length_drop]; exact seg_grown hs hg2 hge (by omega)
  have F := Lib.hid fin
  have hsegp := H2.out.prefix_ hk
  rw [← bts_take] at hsegp
  have hsegd := H2.out.suffix_ hk h3
  rw [← bts_drop] at hsegd
  have HP := Lib.hid (fun u => seg_grown hsegp (HGR.out u) hge (by omega))
  have HD := Lib.hid hsegd
  clear h1 h2 h5 hgr hsz fin hsegp hsegd
  by_cases hck : c = k
  · rw [if_pos hck] at HD
    subst hck
    go_enter Try.func99, Try.ntmps99
    go_wp2_with ((at_builtin; refine wpList_app _ rfl (.const (.slice none 0 0)) (.tmp 38) elemB rfl w.heap.size rfl (Own.nil _ _ _) B rfl (HP.out _) (bts_one _) (by unfold maxLen; omega) (by omega) (by simp) ?_; intro A1 c1 w1 hown hg hat; have HO := Lib.hid hown; have HG := Lib.hid hg; clear hown hg hat))
    go_ret
    refine ⟨A1, c1, by simp, F.out _ 0 _ _ _ HD.out (by omega) (by unfold maxLen; omega) HO.out ?_⟩
    rw [show l.length - c = 0 by omega]
    exact HG.out
  · rw [if_neg hck] at HD
    go_enter Try.func99, Try.ntmps99
    go_wp2_with ((at_builtin; refine wpList_app _ rfl (.const (.slice none 0 0)) (.tmp 38) elemB rfl w.heap.size rfl (Own.nil _ _ _) B rfl (HP.out _) (bts_one _) (by unfold maxLen; omega) (by omega) (by simp) ?_; intro A1 c1 w1 hown hg hat; have HO := Lib.hid hown; have HG := Lib.hid hg; clear hown hg hat))
    go_ret
    refine ⟨A1, c1, by simp, F.out _ (c - k) _ _ _ HD.out (by omega) (by unfold maxLen; omega) HO.out ?_⟩
    exact HG.out

theorem take8 (l : List Nat) (k : Nat) (hk : k ≤ 8) : (l.take k).take 8 = l.take k := by rw [List.take_take, Nat.min_eq_right hk]
set_option maxHeartbeats 800000 in
theorem rnum_any {w : World} {g B : Nat} {l : List Nat} {bad : Bool} (h : Rd w 130 g B l bad) (k : Nat) (hk1 : 1 ≤ k) (hk8 : k ≤ 8) (hlm : l.length ≤ 1000000) :
    Calls Try.prog 91 #[.pointer (some ⟨g, 0, none⟩), .int .i64 (k : Int)] w fun e w' => e = .returned (.int .u64 (rdVal k l : Nat)) ∧ Rd w' 130 g B (rdRest k l) (bad || rdBad k l) ∧ w.grownBy w' (some g) := by
  have hB := h.isB
  have i1 : (1 : Int) ≤ (k : Int) := by omega
  have i8 : (k : Int) ≤ 8 := by omega
  have hvt := take8 l k hk8
  have HV := Lib.hid hvt
  clear hvt
  by_cases hk : k ≤ l.length
  · have hS := Lib.hid (rbytes_some h k hk hlm)
    have e1 : rdVal k l = leN (l.take k) := by unfold rdVal; rw [if_pos hk]
    have e2 : rdRest k l = l.drop k := by unfold rdRest; rw [if_pos hk]
    have e3 : rdBad k l = false := by unfold rdBad; simpa using hk
    rw [e1, e2, e3, Bool.or_false]
    clear e1 e2 e3
    go_enter Try.func91, Try.ntmps91
    go_wp2_with fail
    refine (hS.out).mono ?_
    rintro e w1 ⟨A', c', rfl, hown, hrd, hg⟩
    have HO := Lib.hid hown
    have HR := Lib.hid hrd
    have HG := Lib.hid hg
    clear hown hrd hg
    go_wp2_with fail
    refine (get_any c' HO.out.seg (hB.take k) HO.out.cap (by omega)).mono ?_
    rintro e w2 ⟨rfl, rfl⟩
    rw [HV.out]
    go_wp2_with fail
    go_ret
    exact ⟨rfl, HR.out, HG.out⟩
  · have hS := Lib.hid (rbytes_none h (k : Int) (.inr (by omega)))
    have e1 : rdVal k l = 0 := by unfold rdVal; rw [if_neg hk]
    have e2 : rdRest k l = [] := by unfold rdRest; rw [if_neg hk]
    have e3 : rdBad k l = true := by unfold rdBad; simp; omega
    rw [e1, e2, e3, Bool.or_true]
    clear e1 e2 e3
    go_enter Try.func91, Try.ntmps91
    go_wp2_with fail
    refine (hS.out).mono ?_
    rintro e w1 ⟨rfl, hrd, hg⟩
    have HR := Lib.hid hrd
    have HG := Lib.hid hg
    clear hrd hg
    go_wp2_with fail
    refine (get_any (n := 0) (B := 0) (A := none) (l := []) 0 (Seg.empty _) IsB.nil (Nat.le_refl _) (by omega)).mono ?_
    rintro e w2 ⟨rfl, rfl⟩
    go_wp2_with fail
    go_ret
    exact ⟨rfl, HR.out, HG.out⟩
theorem u8_any {w : World} {g B : Nat} {l : List Nat} {bad : Bool} (h : Rd w 130 g B l bad) (hlm : l.length ≤ 1000000) :
    Calls Try.prog 92 #[.pointer (some ⟨g, 0, none⟩)] w fun e w' => e = .returned (.int .i64 (rdVal 1 l : Nat)) ∧ Rd w' 130 g B (rdRest 1 l) (bad || rdBad 1 l) ∧ w.grownBy w' (some g) := by
  have hS := Lib.hid (rnum_any h 1 (by decide) (by decide) hlm)
  have hv := rdVal_lt 1 l h.isB
  simp only [Nat.reduceMul, Nat.reducePow] at hv
  clear h
  generalize rdVal 1 l = v at *
  go_enter Try.func92, Try.ntmps92
  go_wp2_with fail
  refine (hS.out).mono ?_
  rintro e w1 ⟨rfl, hrd, hg⟩
  have HR := Lib.hid hrd
  have HG := Lib.hid hg
  clear hrd hg
  go_wp2_with fail
  go_ret
  exact ⟨rfl, HR.out, HG.out⟩
theorem u16_any {w : World} {g B : Nat} {l : List Nat} {bad : Bool} (h : Rd w 130 g B l bad) (hlm : l.length ≤ 1000000) :
    Calls Try.prog 67 #[.pointer (some ⟨g, 0, none⟩)] w fun e w' => e = .returned (.int .i64 (rdVal 2 l : Nat)) ∧ Rd w' 130 g B (rdRest 2 l) (bad || rdBad 2 l) ∧ w.grownBy w' (some g) := by
  have hS := Lib.hid (rnum_any h 2 (by decide) (by decide) hlm)
  have hv := rdVal_lt 2 l h.isB
  simp only [Nat.reduceMul, Nat.reducePow] at hv
  clear h
  generalize rdVal 2 l = v at *
  go_enter Try.func67, Try.ntmps67
  go_wp2_with fail
  refine (hS.out).mono ?_
  rintro e w1 ⟨rfl, hrd, hg⟩
  have HR := Lib.hid hrd
  have HG := Lib.hid hg
  clear hrd hg
  go_wp2_with fail
  go_ret
  exact ⟨rfl, HR.out, HG.out⟩
theorem u64_any {w : World} {g B : Nat} {l : List Nat} {bad : Bool} (h : Rd w 130 g B l bad) (hlm : l.length ≤ 1000000) :
    Calls Try.prog 68 #[.pointer (some ⟨g, 0, none⟩)] w fun e w' => e = .returned (.int .u64 (rdVal 8 l : Nat)) ∧ Rd w' 130 g B (rdRest 8 l) (bad || rdBad 8 l) ∧ w.grownBy w' (some g) := by
  have hS := Lib.hid (rnum_any h 8 (by decide) (by decide) hlm)
  have hv := rdVal_lt 8 l h.isB
  simp only [Nat.reduceMul, Nat.reducePow] at hv
  clear h
  generalize rdVal 8 l = v at *
  go_enter Try.func68, Try.ntmps68
  go_wp2_with fail
  refine (hS.out).mono ?_
  rintro e w1 ⟨rfl, hrd, hg⟩
  have HR := Lib.hid hrd
  have HG := Lib.hid hg
  clear hrd hg
  go_wp2_with fail
  go_ret
  exact ⟨rfl, HR.out, HG.out⟩
/-- What a reader ends with. -/
def endC (bad : Bool) (n : Nat) : Int := if bad then 20 else if 0 < n then 21 else 0
theorem rend_any {w : World} {g B : Nat} {l : List Nat} {bad : Bool} (h : Rd w 130 g B l bad) :
    Calls Try.prog 78 #[.pointer (some ⟨g, 0, none⟩)] w fun e w' => e = .returned (.int .i64 (endC bad l.length)) ∧ w = w' := by
  obtain ⟨A, c, h1, h2, h3, h4, h5, h6⟩ := h
  have c0 : w.cell? ⟨g, 0, none⟩ = some (.slice A l.length c) := (h1.cell 0).trans rfl
  have c1 : w.cell? ⟨g, 1, none⟩ = some (.bool bad) := (h1.cell 1).trans rfl
  clear h1 h2 h4 h5
  generalize l.length = n at *
  cases bad with
  | true =>
    go_enter Try.func78, Try.ntmps78
    go_wp2
    go_ret
    exact ⟨rfl, rfl⟩
  | false =>
    by_cases hn : 0 < n
    · have t1 : decide ((0 : Int) < (n : Int)) = true := by simp; omega
      have e1 : endC false n = 21 := by unfold endC; simp; omega
      rw [e1]
      clear e1
      go_enter Try.func78, Try.ntmps78
      go_wp2
      go_ret
      exact ⟨rfl, rfl⟩
    · obtain rfl : n = 0 := by omega
      have e1 : endC false 0 = 0 := rfl
      rw [e1]
      clear e1
      go_enter Try.func78, Try.ntmps78
      go_wp2
      go_ret
      exact ⟨rfl, rfl⟩
theorem isbad_any {w : World} {g B : Nat} {l : List Nat} {bad : Bool} (h : Rd w 130 g B l bad) :
    Calls Try.prog 93 #[.pointer (some ⟨g, 0, none⟩)] w fun e w' => e = .returned (.bool bad) ∧ w = w' := by
  obtain ⟨A, c, h1, h2, h3, h4, h5, h6⟩ := h
  have c1 : w.cell? ⟨g, 1, none⟩ = some (.bool bad) := (h1.cell 1).trans rfl
  clear h1 h2 h4 h5
  go_enter Try.func93, Try.ntmps93
  go_wp2
  go_ret
  exact ⟨rfl, rfl⟩
end Go.Proofs.Ytaagfmaboggbhaa.fix
