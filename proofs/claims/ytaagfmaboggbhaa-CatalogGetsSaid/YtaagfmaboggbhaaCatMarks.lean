/-
  Marks in memory; whether they are sizes, or times: the code's functions and the document's.
-/
import Derived.Test.YtaagfmaboggbhaaCatNums
namespace Go.Proofs.Ytaagfmaboggbhaa.cat
open Go.RowKit
set_option linter.unusedVariables false

/-- A slice of marks that can be read. -/
structure MkSeg (w : World) (B : Nat) (A : Option Addr) (n : Nat) (M : List (Nat × Nat)) : Prop where
  len : M.length = n
  cells : 0 < n → ∃ b off, A = some ⟨b, off, none⟩ ∧ b < B ∧ ∀ (j : Nat) (h : j < M.length), w.cell? ⟨b, off + j * 2, none⟩ = some (.int .u64 (M[j].1 : Nat)) ∧ w.cell? ⟨b, off + j * 2 + 1, none⟩ = some (.int .u64 (M[j].2 : Nat))
  bd : ∀ z ∈ M, z.1 < 18446744073709551616 ∧ z.2 < 18446744073709551616
section
variable {w w' : World} {B B' n : Nat} {A : Option Addr} {M : List (Nat × Nat)}
theorem MkSeg.below (h : MkSeg w B A n M) (hb : Below B w w') : MkSeg w' B A n M :=
  ⟨h.len, fun hn => by
    obtain ⟨b, off, e, hlt, hc⟩ := h.cells hn
    exact ⟨b, off, e, hlt, fun j hj => ⟨(hb.cell (p := ⟨b, _, none⟩) hlt).trans (hc j hj).1, (hb.cell (p := ⟨b, _, none⟩) hlt).trans (hc j hj).2⟩⟩, h.bd⟩
theorem MkSeg.more (h : MkSeg w B A n M) (hB : B ≤ B') : MkSeg w B' A n M :=
  ⟨h.len, fun hn => by obtain ⟨b, off, e, hb, hc⟩ := h.cells hn; exact ⟨b, off, e, by omega, hc⟩, h.bd⟩
theorem MkSeg.nil (w : World) (B : Nat) (A : Option Addr) : MkSeg w B A 0 [] := ⟨rfl, fun h => absurd h (Nat.lt_irrefl 0), fun _ h => by cases h⟩
theorem MkSeg.at_ (h : MkSeg w B A n M) {k : Nat} (hk : k < n) : ∃ b off, ∃ hl : k < M.length, A = some ⟨b, off, none⟩ ∧ b < B ∧ w.cell? ⟨b, off + k * 2, none⟩ = some (.int .u64 (M[k].1 : Nat)) ∧ w.cell? ⟨b, off + k * 2 + 1, none⟩ = some (.int .u64 (M[k].2 : Nat)) ∧
    (0 < k → w.cell? ⟨b, off + (k - 1) * 2, none⟩ = some (.int .u64 ((M[k - 1]'(by omega)).1 : Nat)) ∧ w.cell? ⟨b, off + (k - 1) * 2 + 1, none⟩ = some (.int .u64 ((M[k - 1]'(by omega)).2 : Nat))) := by
  obtain ⟨b, off, e, hlt, hc⟩ := h.cells (by omega)
  have hl : k < M.length := by rw [h.len]; exact hk
  exact ⟨b, off, hl, e, hlt, (hc k hl).1, (hc k hl).2, fun _ => hc (k - 1) (by omega)⟩
end
/-- A mark is right as a size, beside the one ahead of it. -/
def SizeAt (M : List (Nat × Nat)) (k : Nat) : Prop := ∀ h : k < M.length, 1 ≤ M[k].2 ∧ M[k].2 ≤ 32 ∧ (0 < k → M[k - 1].1 < M[k].1)
def SizesOk (M : List (Nat × Nat)) : Prop := (∀ k, SizeAt M k) ∧ 1 ≤ M.length ∧ M.length ≤ 16
/-- A mark is right as a time, beside the one ahead of it. -/
def TimeAt (M : List (Nat × Nat)) (k : Nat) : Prop := ∀ h : k < M.length, 0 < k → M[k - 1].1 < M[k].1 ∧ M[k - 1].2 < M[k].2
def TimesOk (M : List (Nat × Nat)) : Prop := (∀ k, TimeAt M k) ∧ M.length ≤ 64

set_option maxRecDepth 100000 in
set_option maxHeartbeats 3200000 in
theorem sizes_any {w : World} {A : Option Addr} {n c : Nat} {M : List (Nat × Nat)} (h : MkSeg w w.heap.size A n M) (hn : n ≤ 100000) :
    Calls Try.prog 88 #[.slice A n c] w fun e w' => Says e (SizesOk M) ∧ Below w.heap.size w w' := by
  have HS := Lib.hid h
  have HL := Lib.hid h.len
  clear h
  go_enter Try.func88, Try.ntmps88
  go_wp2_with fail
  go_loopw [7] (fun i wr => ∃ k : Nat, k ≤ n ∧ i = .int .i64 (k : Int) ∧ (∀ j, j < k → SizeAt M j) ∧ Below w.heap.size w wr) (fun i _ => n - (intOf i).toNat)
  case atStart => exact ⟨0, by omega, rfl, fun j h => absurd h (Nat.not_lt_zero _), Below.refl _ _⟩
  case round =>
    obtain ⟨k, hk, rfl, hr, hb⟩ := hrel
    have HR := Lib.hid hr
    have HB := Lib.hid hb
    clear hr hb
    by_cases hlt : k < n
    · obtain ⟨b, off, hkl, rfl, hbb, c0, c1, _⟩ := (HS.out.below HB.out).at_ hlt
      have HNO := Lib.hid (show ¬ SizeAt M k → Says (.returned (.bool false)) (SizesOk M) from fun h => says_no (fun e => h (e.1 k)))
      have HYES := Lib.hid (show SizeAt M k → ∀ j, j < k + 1 → SizeAt M j from fun h j hj => by
        by_cases e : j = k
        · subst e; exact h
        · exact HR.out j (by omega))
      have i0 : (0 : Int) ≤ (k : Int) := by omega
      have i1 : (k : Int) < (n : Int) := by omega
      have i2 : ((k : Int)).toNat = k := by omega
      obtain ⟨b2, off2, _, he2, hbb2, _, _, hq⟩ := HS.out.at_ hlt
      injection he2 with he2
      injection he2 with e1 e2
      subst e1 e2
      by_cases k0 : k = 0
      · have ha : SizeAt M k ↔ (1 ≤ M[k].2 ∧ M[k].2 ≤ 32) := ⟨fun h => ⟨(h hkl).1, (h hkl).2.1⟩, fun h _ => ⟨h.1, h.2, fun h0 => absurd h0 (by omega)⟩⟩
        have HPV := Lib.hid (fun (W : World) (_ : Below w.heap.size w W) => (⟨trivial, trivial⟩ : True ∧ True))
        obtain ⟨x, hx⟩ : ∃ x : Int, x = ((M[k].1 : Nat) : Int) := ⟨_, rfl⟩
        obtain ⟨y, hy⟩ : ∃ y : Int, y = ((M[k].2 : Nat) : Int) := ⟨_, rfl⟩
        have HA := Lib.hid (show SizeAt M k ↔ (1 ≤ y ∧ y ≤ 32) from ha.trans (by omega))
        have dk : decide ((0 : Int) < (k : Int)) = false := decide_eq_false (by omega)
        have dl : decide (0 < k) = false := decide_eq_false (by omega)
        rw [← hx] at c0
        rw [← hy] at c1
        have y0 : 0 ≤ y := by omega
        clear ha hx hy hq k0
        by_cases c3 : y < 1
        · have dy : decide (y < 1) = true := by first | exact decide_eq_true (by omega) | (simp; omega)
          go_wp2_with fail
          have hbx := Box.new wr #[.int .u64 x, .int .u64 y] 100
          have m0 := (hbx.cell 0).trans rfl
          have m1 := (hbx.cell 1).trans rfl
          have HB2 := Lib.hid (HB.out.alloc HB.out.size (Obj.cells #[.int .u64 x, .int .u64 y] 100))
          have HP := Lib.hid (HPV.out _ HB2.out)
          clear hbx
          generalize hw2 : wr.alloc (Obj.cells #[.int .u64 x, .int .u64 y] 100) = w2 at *
          clear hw2
          generalize wr.heap.size = g at *
          have hp := HP.out
          obtain ⟨hp0, hp1⟩ := hp
          go_quiet (fail)
          go_wp2_with fail
          go_ret
          exact ⟨HNO.out (fun h => by have := HA.out.1 h; omega), Bdrew HB2.out _⟩
        · by_cases c2 : 32 < y
          · have dy : decide (y < 1) = false := by first | exact decide_eq_false (by omega) | (simp; omega)
            have dz : decide ((32 : Int) < y) = true := by first | exact decide_eq_true (by omega) | (simp; omega)
            go_wp2_with fail
            have hbx := Box.new wr #[.int .u64 x, .int .u64 y] 100
            have m0 := (hbx.cell 0).trans rfl
            have m1 := (hbx.cell 1).trans rfl
            have HB2 := Lib.hid (HB.out.alloc HB.out.size (Obj.cells #[.int .u64 x, .int .u64 y] 100))
            have HP := Lib.hid (HPV.out _ HB2.out)
            clear hbx
            generalize hw2 : wr.alloc (Obj.cells #[.int .u64 x, .int .u64 y] 100) = w2 at *
            clear hw2
            generalize wr.heap.size = g at *
            have hp := HP.out
            obtain ⟨hp0, hp1⟩ := hp
            go_quiet (fail)
            go_wp2_with fail
            go_ret
            exact ⟨HNO.out (fun h => by have := HA.out.1 h; omega), Bdrew HB2.out _⟩
          · have dy : decide (y < 1) = false := by first | exact decide_eq_false (by omega) | (simp; omega)
            have dz : decide ((32 : Int) < y) = false := by first | exact decide_eq_false (by omega) | (simp; omega)
            go_wp2_with fail
            have hbx := Box.new wr #[.int .u64 x, .int .u64 y] 100
            have m0 := (hbx.cell 0).trans rfl
            have m1 := (hbx.cell 1).trans rfl
            have HB2 := Lib.hid (HB.out.alloc HB.out.size (Obj.cells #[.int .u64 x, .int .u64 y] 100))
            have HP := Lib.hid (HPV.out _ HB2.out)
            clear hbx
            generalize hw2 : wr.alloc (Obj.cells #[.int .u64 x, .int .u64 y] 100) = w2 at *
            clear hw2
            generalize wr.heap.size = g at *
            have hp := HP.out
            obtain ⟨hp0, hp1⟩ := hp
            go_quiet (fail)
            go_wp2_with fail
            go_roundw
            case rel => exact ⟨k + 1, by omega, by go_num, HYES.out (HA.out.2 (by omega)), Bdrew HB2.out _⟩
            case measure => simp [intOf]; omega
      · have ha : SizeAt M k ↔ (1 ≤ M[k].2 ∧ M[k].2 ≤ 32 ∧ (M[k - 1]'(by omega)).1 < M[k].1) := ⟨fun h => ⟨(h hkl).1, (h hkl).2.1, (h hkl).2.2 (by omega)⟩, fun h _ => ⟨h.1, h.2.1, fun _ => h.2.2⟩⟩
        have HPV := Lib.hid (fun (W : World) (hW : Below w.heap.size w W) => ((⟨(hW.cell (p := ⟨b, _, none⟩) hbb).trans (hq (by omega)).1, (hW.cell (p := ⟨b, _, none⟩) hbb).trans (hq (by omega)).2⟩ : _ ∧ _)))
        obtain ⟨x, hx⟩ : ∃ x : Int, x = ((M[k].1 : Nat) : Int) := ⟨_, rfl⟩
        obtain ⟨y, hy⟩ : ∃ y : Int, y = ((M[k].2 : Nat) : Int) := ⟨_, rfl⟩
        obtain ⟨p, hpx⟩ : ∃ p : Int, p = (((M[k - 1]'(by omega)).1 : Nat) : Int) := ⟨_, rfl⟩
        obtain ⟨q, hqx⟩ : ∃ q : Int, q = (((M[k - 1]'(by omega)).2 : Nat) : Int) := ⟨_, rfl⟩
        have HA := Lib.hid (show SizeAt M k ↔ (1 ≤ y ∧ y ≤ 32 ∧ p < x) from ha.trans (by omega))
        rw [← hx] at c0
        rw [← hy] at c1
        have y0 : 0 ≤ y := by omega
        rw [← hpx, ← hqx] at HPV
        clear ha hx hy hpx hqx hq
        by_cases c4 : y < 1
        · have i3 : (0 : Int) ≤ (k : Int) - 1 := by omega
          have i4 : (k : Int) - 1 < (n : Int) := by omega
          have i5 : ((k : Int) - 1).toNat = k - 1 := by omega
          have i6 : IntKind.i64.wrap ((k : Int) - 1) = (k : Int) - 1 := by exact IntWalk.i64_in _ (by omega)
          have dy : decide (y < 1) = true := by first | exact decide_eq_true (by omega) | (simp; omega)
          have dk : decide ((0 : Int) < (k : Int)) = true := by first | exact decide_eq_true (by omega) | (simp; omega)
          have dl : decide (0 < k) = true := by first | exact decide_eq_true (by omega) | (simp; omega)
          go_wp2_with fail
          have hbx := Box.new wr #[.int .u64 x, .int .u64 y] 100
          have m0 := (hbx.cell 0).trans rfl
          have m1 := (hbx.cell 1).trans rfl
          have HB2 := Lib.hid (HB.out.alloc HB.out.size (Obj.cells #[.int .u64 x, .int .u64 y] 100))
          have HP := Lib.hid (HPV.out _ HB2.out)
          clear hbx
          generalize hw2 : wr.alloc (Obj.cells #[.int .u64 x, .int .u64 y] 100) = w2 at *
          clear hw2
          generalize wr.heap.size = g at *
          have hp := HP.out
          obtain ⟨hp0, hp1⟩ := hp
          go_quiet (fail)
          go_wp2_with fail
          go_ret
          exact ⟨HNO.out (fun h => by have := HA.out.1 h; omega), Bdrew HB2.out _⟩
        · by_cases c3 : 32 < y
          · have i3 : (0 : Int) ≤ (k : Int) - 1 := by omega
            have i4 : (k : Int) - 1 < (n : Int) := by omega
            have i5 : ((k : Int) - 1).toNat = k - 1 := by omega
            have i6 : IntKind.i64.wrap ((k : Int) - 1) = (k : Int) - 1 := by exact IntWalk.i64_in _ (by omega)
            have dy : decide (y < 1) = false := by first | exact decide_eq_false (by omega) | (simp; omega)
            have dz : decide ((32 : Int) < y) = true := by first | exact decide_eq_true (by omega) | (simp; omega)
            have dk : decide ((0 : Int) < (k : Int)) = true := by first | exact decide_eq_true (by omega) | (simp; omega)
            have dl : decide (0 < k) = true := by first | exact decide_eq_true (by omega) | (simp; omega)
            go_wp2_with fail
            have hbx := Box.new wr #[.int .u64 x, .int .u64 y] 100
            have m0 := (hbx.cell 0).trans rfl
            have m1 := (hbx.cell 1).trans rfl
            have HB2 := Lib.hid (HB.out.alloc HB.out.size (Obj.cells #[.int .u64 x, .int .u64 y] 100))
            have HP := Lib.hid (HPV.out _ HB2.out)
            clear hbx
            generalize hw2 : wr.alloc (Obj.cells #[.int .u64 x, .int .u64 y] 100) = w2 at *
            clear hw2
            generalize wr.heap.size = g at *
            have hp := HP.out
            obtain ⟨hp0, hp1⟩ := hp
            go_quiet (fail)
            go_wp2_with fail
            go_ret
            exact ⟨HNO.out (fun h => by have := HA.out.1 h; omega), Bdrew HB2.out _⟩
          · by_cases c2 : x ≤ p
            · have i3 : (0 : Int) ≤ (k : Int) - 1 := by omega
              have i4 : (k : Int) - 1 < (n : Int) := by omega
              have i5 : ((k : Int) - 1).toNat = k - 1 := by omega
              have i6 : IntKind.i64.wrap ((k : Int) - 1) = (k : Int) - 1 := by exact IntWalk.i64_in _ (by omega)
              have dy : decide (y < 1) = false := by first | exact decide_eq_false (by omega) | (simp; omega)
              have dz : decide ((32 : Int) < y) = false := by first | exact decide_eq_false (by omega) | (simp; omega)
              have dk : decide ((0 : Int) < (k : Int)) = true := by first | exact decide_eq_true (by omega) | (simp; omega)
              have dl : decide (0 < k) = true := by first | exact decide_eq_true (by omega) | (simp; omega)
              have dx : decide (x ≤ p) = true := by first | exact decide_eq_true (by omega) | (simp; omega)
              go_wp2_with fail
              have hbx := Box.new wr #[.int .u64 x, .int .u64 y] 100
              have m0 := (hbx.cell 0).trans rfl
              have m1 := (hbx.cell 1).trans rfl
              have HB2 := Lib.hid (HB.out.alloc HB.out.size (Obj.cells #[.int .u64 x, .int .u64 y] 100))
              have HP := Lib.hid (HPV.out _ HB2.out)
              clear hbx
              generalize hw2 : wr.alloc (Obj.cells #[.int .u64 x, .int .u64 y] 100) = w2 at *
              clear hw2
              generalize wr.heap.size = g at *
              have hp := HP.out
              obtain ⟨hp0, hp1⟩ := hp
              go_quiet (fail)
              go_wp2_with fail
              go_ret
              exact ⟨HNO.out (fun h => by have := HA.out.1 h; omega), Bdrew HB2.out _⟩
            · have i3 : (0 : Int) ≤ (k : Int) - 1 := by omega
              have i4 : (k : Int) - 1 < (n : Int) := by omega
              have i5 : ((k : Int) - 1).toNat = k - 1 := by omega
              have i6 : IntKind.i64.wrap ((k : Int) - 1) = (k : Int) - 1 := by exact IntWalk.i64_in _ (by omega)
              have dy : decide (y < 1) = false := by first | exact decide_eq_false (by omega) | (simp; omega)
              have dz : decide ((32 : Int) < y) = false := by first | exact decide_eq_false (by omega) | (simp; omega)
              have dk : decide ((0 : Int) < (k : Int)) = true := by first | exact decide_eq_true (by omega) | (simp; omega)
              have dl : decide (0 < k) = true := by first | exact decide_eq_true (by omega) | (simp; omega)
              have dx : decide (x ≤ p) = false := by first | exact decide_eq_false (by omega) | (simp; omega)
              go_wp2_with fail
              have hbx := Box.new wr #[.int .u64 x, .int .u64 y] 100
              have m0 := (hbx.cell 0).trans rfl
              have m1 := (hbx.cell 1).trans rfl
              have HB2 := Lib.hid (HB.out.alloc HB.out.size (Obj.cells #[.int .u64 x, .int .u64 y] 100))
              have HP := Lib.hid (HPV.out _ HB2.out)
              clear hbx
              generalize hw2 : wr.alloc (Obj.cells #[.int .u64 x, .int .u64 y] 100) = w2 at *
              clear hw2
              generalize wr.heap.size = g at *
              have hp := HP.out
              obtain ⟨hp0, hp1⟩ := hp
              go_quiet (fail)
              go_wp2_with fail
              go_roundw
              case rel => exact ⟨k + 1, by omega, by go_num, HYES.out (HA.out.2 (by omega)), Bdrew HB2.out _⟩
              case measure => simp [intOf]; omega
    · have HALL := Lib.hid (show ∀ j, SizeAt M j from fun j hj => HR.out j (by have := HL.out; omega) hj)
      by_cases n1 : 1 ≤ n
      · have t1 : decide ((1 : Int) ≤ (n : Int)) = true := decide_eq_true (by omega)
        have t2 : decide ((0 : Int) < (n : Int)) = true := decide_eq_true (by omega)
        go_wp2_with fail
        go_ret
        exact ⟨says_iff (by unfold SizesOk; rw [HL.out]; simp; exact ⟨fun h => ⟨HALL.out, by omega, by omega⟩, fun h => by omega⟩), HB.out⟩
      · obtain rfl : n = 0 := by omega
        go_wp2_with fail
        go_ret
        exact ⟨says_no (fun h => by have := h.2.1; have := HL.out; omega), HB.out⟩

set_option maxRecDepth 100000 in
set_option maxHeartbeats 3200000 in
theorem rsizes_any {w : World} {A : Option Addr} {n c : Nat} {M : List (Nat × Nat)} (h : MkSeg w w.heap.size A n M) (hn : n ≤ 100000) :
    Calls Try.prog 61 #[.slice A n c] w fun e w' => Says e (SizesOk M) ∧ Below w.heap.size w w' := by
  have HS := Lib.hid h
  have HL := Lib.hid h.len
  clear h
  go_enter Try.func61, Try.ntmps61
  go_wp2_with fail
  go_loopw [3] (fun i wr => ∃ k : Nat, k ≤ n ∧ i = .int .i64 (k : Int) ∧ (∀ j, j < k → SizeAt M j) ∧ Below w.heap.size w wr) (fun i _ => n - (intOf i).toNat)
  case atStart => exact ⟨0, by omega, rfl, fun j h => absurd h (Nat.not_lt_zero _), Below.refl _ _⟩
  case round =>
    obtain ⟨k, hk, rfl, hr, hb⟩ := hrel
    have HR := Lib.hid hr
    have HB := Lib.hid hb
    clear hr hb
    by_cases hlt : k < n
    · obtain ⟨b, off, hkl, rfl, hbb, c0, c1, _⟩ := (HS.out.below HB.out).at_ hlt
      have HNO := Lib.hid (show ¬ SizeAt M k → Says (.returned (.bool false)) (SizesOk M) from fun h => says_no (fun e => h (e.1 k)))
      have HYES := Lib.hid (show SizeAt M k → ∀ j, j < k + 1 → SizeAt M j from fun h j hj => by
        by_cases e : j = k
        · subst e; exact h
        · exact HR.out j (by omega))
      have i0 : (0 : Int) ≤ (k : Int) := by omega
      have i1 : (k : Int) < (n : Int) := by omega
      have i2 : ((k : Int)).toNat = k := by omega
      obtain ⟨b2, off2, _, he2, hbb2, _, _, hq⟩ := HS.out.at_ hlt
      injection he2 with he2
      injection he2 with e1 e2
      subst e1 e2
      by_cases k0 : k = 0
      · have ha : SizeAt M k ↔ (1 ≤ M[k].2 ∧ M[k].2 ≤ 32) := ⟨fun h => ⟨(h hkl).1, (h hkl).2.1⟩, fun h _ => ⟨h.1, h.2, fun h0 => absurd h0 (by omega)⟩⟩
        have HPV := Lib.hid (fun (W : World) (_ : Below w.heap.size w W) => (⟨trivial, trivial⟩ : True ∧ True))
        obtain ⟨x, hx⟩ : ∃ x : Int, x = ((M[k].1 : Nat) : Int) := ⟨_, rfl⟩
        obtain ⟨y, hy⟩ : ∃ y : Int, y = ((M[k].2 : Nat) : Int) := ⟨_, rfl⟩
        have HA := Lib.hid (show SizeAt M k ↔ (1 ≤ y ∧ y ≤ 32) from ha.trans (by omega))
        have dk : decide ((0 : Int) < (k : Int)) = false := decide_eq_false (by omega)
        have dl : decide (0 < k) = false := decide_eq_false (by omega)
        rw [← hx] at c0
        rw [← hy] at c1
        have y0 : 0 ≤ y := by omega
        clear ha hx hy hq k0
        by_cases c3 : y < 1
        · have dy : (y == 0) = true := by simp; omega
          go_wp2_with fail
          have HB2 := HB
          have hp := HPV.out _ HB2.out
          obtain ⟨hp0, hp1⟩ := hp
          go_quiet (fail)
          go_wp2_with fail
          go_ret
          exact ⟨HNO.out (fun h => by have := HA.out.1 h; omega), Bdrew HB2.out _⟩
        · by_cases c2 : 32 < y
          · have dy : (y == 0) = false := by simp; omega
            have dz : decide ((32 : Int) < y) = true := by first | exact decide_eq_true (by omega) | (simp; omega)
            go_wp2_with fail
            have HB2 := HB
            have hp := HPV.out _ HB2.out
            obtain ⟨hp0, hp1⟩ := hp
            go_quiet (fail)
            go_wp2_with fail
            go_ret
            exact ⟨HNO.out (fun h => by have := HA.out.1 h; omega), Bdrew HB2.out _⟩
          · have dy : (y == 0) = false := by simp; omega
            have dz : decide ((32 : Int) < y) = false := by first | exact decide_eq_false (by omega) | (simp; omega)
            go_wp2_with fail
            have HB2 := HB
            have hp := HPV.out _ HB2.out
            obtain ⟨hp0, hp1⟩ := hp
            go_quiet (fail)
            go_wp2_with fail
            go_roundw
            case rel => exact ⟨k + 1, by omega, by go_num, HYES.out (HA.out.2 (by omega)), Bdrew HB2.out _⟩
            case measure => simp [intOf]; omega
      · have ha : SizeAt M k ↔ (1 ≤ M[k].2 ∧ M[k].2 ≤ 32 ∧ (M[k - 1]'(by omega)).1 < M[k].1) := ⟨fun h => ⟨(h hkl).1, (h hkl).2.1, (h hkl).2.2 (by omega)⟩, fun h _ => ⟨h.1, h.2.1, fun _ => h.2.2⟩⟩
        have HPV := Lib.hid (fun (W : World) (hW : Below w.heap.size w W) => ((⟨(hW.cell (p := ⟨b, _, none⟩) hbb).trans (hq (by omega)).1, (hW.cell (p := ⟨b, _, none⟩) hbb).trans (hq (by omega)).2⟩ : _ ∧ _)))
        obtain ⟨x, hx⟩ : ∃ x : Int, x = ((M[k].1 : Nat) : Int) := ⟨_, rfl⟩
        obtain ⟨y, hy⟩ : ∃ y : Int, y = ((M[k].2 : Nat) : Int) := ⟨_, rfl⟩
        obtain ⟨p, hpx⟩ : ∃ p : Int, p = (((M[k - 1]'(by omega)).1 : Nat) : Int) := ⟨_, rfl⟩
        obtain ⟨q, hqx⟩ : ∃ q : Int, q = (((M[k - 1]'(by omega)).2 : Nat) : Int) := ⟨_, rfl⟩
        have HA := Lib.hid (show SizeAt M k ↔ (1 ≤ y ∧ y ≤ 32 ∧ p < x) from ha.trans (by omega))
        rw [← hx] at c0
        rw [← hy] at c1
        have y0 : 0 ≤ y := by omega
        rw [← hpx, ← hqx] at HPV
        clear ha hx hy hpx hqx hq
        by_cases c4 : y < 1
        · have i3 : (0 : Int) ≤ (k : Int) - 1 := by omega
          have i4 : (k : Int) - 1 < (n : Int) := by omega
          have i5 : ((k : Int) - 1).toNat = k - 1 := by omega
          have i6 : IntKind.i64.wrap ((k : Int) - 1) = (k : Int) - 1 := by exact IntWalk.i64_in _ (by omega)
          have dy : (y == 0) = true := by simp; omega
          have dk : decide ((0 : Int) < (k : Int)) = true := by first | exact decide_eq_true (by omega) | (simp; omega)
          have dl : decide (0 < k) = true := by first | exact decide_eq_true (by omega) | (simp; omega)
          go_wp2_with fail
          have HB2 := HB
          have hp := HPV.out _ HB2.out
          obtain ⟨hp0, hp1⟩ := hp
          go_quiet (fail)
          go_wp2_with fail
          go_ret
          exact ⟨HNO.out (fun h => by have := HA.out.1 h; omega), Bdrew HB2.out _⟩
        · by_cases c3 : 32 < y
          · have i3 : (0 : Int) ≤ (k : Int) - 1 := by omega
            have i4 : (k : Int) - 1 < (n : Int) := by omega
            have i5 : ((k : Int) - 1).toNat = k - 1 := by omega
            have i6 : IntKind.i64.wrap ((k : Int) - 1) = (k : Int) - 1 := by exact IntWalk.i64_in _ (by omega)
            have dy : (y == 0) = false := by simp; omega
            have dz : decide ((32 : Int) < y) = true := by first | exact decide_eq_true (by omega) | (simp; omega)
            have dk : decide ((0 : Int) < (k : Int)) = true := by first | exact decide_eq_true (by omega) | (simp; omega)
            have dl : decide (0 < k) = true := by first | exact decide_eq_true (by omega) | (simp; omega)
            go_wp2_with fail
            have HB2 := HB
            have hp := HPV.out _ HB2.out
            obtain ⟨hp0, hp1⟩ := hp
            go_quiet (fail)
            go_wp2_with fail
            go_ret
            exact ⟨HNO.out (fun h => by have := HA.out.1 h; omega), Bdrew HB2.out _⟩
          · by_cases c2 : x ≤ p
            · have i3 : (0 : Int) ≤ (k : Int) - 1 := by omega
              have i4 : (k : Int) - 1 < (n : Int) := by omega
              have i5 : ((k : Int) - 1).toNat = k - 1 := by omega
              have i6 : IntKind.i64.wrap ((k : Int) - 1) = (k : Int) - 1 := by exact IntWalk.i64_in _ (by omega)
              have dy : (y == 0) = false := by simp; omega
              have dz : decide ((32 : Int) < y) = false := by first | exact decide_eq_false (by omega) | (simp; omega)
              have dk : decide ((0 : Int) < (k : Int)) = true := by first | exact decide_eq_true (by omega) | (simp; omega)
              have dl : decide (0 < k) = true := by first | exact decide_eq_true (by omega) | (simp; omega)
              have dx : decide (x ≤ p) = true := by first | exact decide_eq_true (by omega) | (simp; omega)
              go_wp2_with fail
              have HB2 := HB
              have hp := HPV.out _ HB2.out
              obtain ⟨hp0, hp1⟩ := hp
              go_quiet (fail)
              go_wp2_with fail
              go_ret
              exact ⟨HNO.out (fun h => by have := HA.out.1 h; omega), Bdrew HB2.out _⟩
            · have i3 : (0 : Int) ≤ (k : Int) - 1 := by omega
              have i4 : (k : Int) - 1 < (n : Int) := by omega
              have i5 : ((k : Int) - 1).toNat = k - 1 := by omega
              have i6 : IntKind.i64.wrap ((k : Int) - 1) = (k : Int) - 1 := by exact IntWalk.i64_in _ (by omega)
              have dy : (y == 0) = false := by simp; omega
              have dz : decide ((32 : Int) < y) = false := by first | exact decide_eq_false (by omega) | (simp; omega)
              have dk : decide ((0 : Int) < (k : Int)) = true := by first | exact decide_eq_true (by omega) | (simp; omega)
              have dl : decide (0 < k) = true := by first | exact decide_eq_true (by omega) | (simp; omega)
              have dx : decide (x ≤ p) = false := by first | exact decide_eq_false (by omega) | (simp; omega)
              go_wp2_with fail
              have HB2 := HB
              have hp := HPV.out _ HB2.out
              obtain ⟨hp0, hp1⟩ := hp
              go_quiet (fail)
              go_wp2_with fail
              go_roundw
              case rel => exact ⟨k + 1, by omega, by go_num, HYES.out (HA.out.2 (by omega)), Bdrew HB2.out _⟩
              case measure => simp [intOf]; omega
    · have HALL := Lib.hid (show ∀ j, SizeAt M j from fun j hj => HR.out j (by have := HL.out; omega) hj)
      by_cases n1 : 1 ≤ n
      · have t1 : decide ((1 : Int) ≤ (n : Int)) = true := decide_eq_true (by omega)
        have t2 : decide ((0 : Int) < (n : Int)) = true := decide_eq_true (by omega)
        go_wp2_with fail
        go_ret
        exact ⟨says_iff (by unfold SizesOk; rw [HL.out]; simp; exact ⟨fun h => ⟨HALL.out, by omega, by omega⟩, fun h => by omega⟩), HB.out⟩
      · obtain rfl : n = 0 := by omega
        go_wp2_with fail
        go_ret
        exact ⟨says_no (fun h => by have := h.2.1; have := HL.out; omega), HB.out⟩

set_option maxRecDepth 100000 in
set_option maxHeartbeats 3200000 in
theorem times_any {w : World} {A : Option Addr} {n c : Nat} {M : List (Nat × Nat)} (h : MkSeg w w.heap.size A n M) (hn : n ≤ 100000) :
    Calls Try.prog 65 #[.slice A n c] w fun e w' => Says e (TimesOk M) ∧ Below w.heap.size w w' := by
  have HS := Lib.hid h
  have HL := Lib.hid h.len
  clear h
  go_enter Try.func65, Try.ntmps65
  go_wp2_with fail
  go_loopw [7] (fun i wr => ∃ k : Nat, k ≤ n ∧ i = .int .i64 (k : Int) ∧ (∀ j, j < k → TimeAt M j) ∧ Below w.heap.size w wr) (fun i _ => n - (intOf i).toNat)
  case atStart => exact ⟨0, by omega, rfl, fun j h => absurd h (Nat.not_lt_zero _), Below.refl _ _⟩
  case round =>
    obtain ⟨k, hk, rfl, hr, hb⟩ := hrel
    have HR := Lib.hid hr
    have HB := Lib.hid hb
    clear hr hb
    by_cases hlt : k < n
    · obtain ⟨b, off, hkl, rfl, hbb, c0, c1, _⟩ := (HS.out.below HB.out).at_ hlt
      have HNO := Lib.hid (show ¬ TimeAt M k → Says (.returned (.bool false)) (TimesOk M) from fun h => says_no (fun e => h (e.1 k)))
      have HYES := Lib.hid (show TimeAt M k → ∀ j, j < k + 1 → TimeAt M j from fun h j hj => by
        by_cases e : j = k
        · subst e; exact h
        · exact HR.out j (by omega))
      have i0 : (0 : Int) ≤ (k : Int) := by omega
      have i1 : (k : Int) < (n : Int) := by omega
      have i2 : ((k : Int)).toNat = k := by omega
      obtain ⟨b2, off2, _, he2, hbb2, _, _, hq⟩ := HS.out.at_ hlt
      injection he2 with he2
      injection he2 with e1 e2
      subst e1 e2
      by_cases k0 : k = 0
      · have ha : TimeAt M k ↔ True := ⟨fun _ => trivial, fun _ _ h0 => absurd h0 (by omega)⟩
        have HPV := Lib.hid (fun (W : World) (_ : Below w.heap.size w W) => (⟨trivial, trivial⟩ : True ∧ True))
        obtain ⟨x, hx⟩ : ∃ x : Int, x = ((M[k].1 : Nat) : Int) := ⟨_, rfl⟩
        obtain ⟨y, hy⟩ : ∃ y : Int, y = ((M[k].2 : Nat) : Int) := ⟨_, rfl⟩
        have HA := Lib.hid (show TimeAt M k ↔ True from ha)
        have dk : decide ((0 : Int) < (k : Int)) = false := decide_eq_false (by omega)
        have dl : decide (0 < k) = false := decide_eq_false (by omega)
        rw [← hx] at c0
        rw [← hy] at c1
        have y0 : 0 ≤ y := by omega
        clear ha hx hy hq k0
        go_wp2_with fail
        have hbx := Box.new wr #[.int .u64 x, .int .u64 y] 100
        have m0 := (hbx.cell 0).trans rfl
        have m1 := (hbx.cell 1).trans rfl
        have HB2 := Lib.hid (HB.out.alloc HB.out.size (Obj.cells #[.int .u64 x, .int .u64 y] 100))
        have HP := Lib.hid (HPV.out _ HB2.out)
        clear hbx
        generalize hw2 : wr.alloc (Obj.cells #[.int .u64 x, .int .u64 y] 100) = w2 at *
        clear hw2
        generalize wr.heap.size = g at *
        have hp := HP.out
        obtain ⟨hp0, hp1⟩ := hp
        go_quiet (fail)
        go_wp2_with fail
        go_roundw
        case rel => exact ⟨k + 1, by omega, by go_num, HYES.out (HA.out.2 (by omega)), Bdrew HB2.out _⟩
        case measure => simp [intOf]; omega
      · have ha : TimeAt M k ↔ ((M[k - 1]'(by omega)).1 < M[k].1 ∧ (M[k - 1]'(by omega)).2 < M[k].2) := ⟨fun h => h hkl (by omega), fun h _ _ => h⟩
        have HPV := Lib.hid (fun (W : World) (hW : Below w.heap.size w W) => ((⟨(hW.cell (p := ⟨b, _, none⟩) hbb).trans (hq (by omega)).1, (hW.cell (p := ⟨b, _, none⟩) hbb).trans (hq (by omega)).2⟩ : _ ∧ _)))
        obtain ⟨x, hx⟩ : ∃ x : Int, x = ((M[k].1 : Nat) : Int) := ⟨_, rfl⟩
        obtain ⟨y, hy⟩ : ∃ y : Int, y = ((M[k].2 : Nat) : Int) := ⟨_, rfl⟩
        obtain ⟨p, hpx⟩ : ∃ p : Int, p = (((M[k - 1]'(by omega)).1 : Nat) : Int) := ⟨_, rfl⟩
        obtain ⟨q, hqx⟩ : ∃ q : Int, q = (((M[k - 1]'(by omega)).2 : Nat) : Int) := ⟨_, rfl⟩
        have HA := Lib.hid (show TimeAt M k ↔ (p < x ∧ q < y) from ha.trans (by omega))
        rw [← hx] at c0
        rw [← hy] at c1
        have y0 : 0 ≤ y := by omega
        rw [← hpx, ← hqx] at HPV
        clear ha hx hy hpx hqx hq
        by_cases c3 : x ≤ p
        · have i3 : (0 : Int) ≤ (k : Int) - 1 := by omega
          have i4 : (k : Int) - 1 < (n : Int) := by omega
          have i5 : ((k : Int) - 1).toNat = k - 1 := by omega
          have i6 : IntKind.i64.wrap ((k : Int) - 1) = (k : Int) - 1 := by exact IntWalk.i64_in _ (by omega)
          have dk : decide ((0 : Int) < (k : Int)) = true := by first | exact decide_eq_true (by omega) | (simp; omega)
          have dl : decide (0 < k) = true := by first | exact decide_eq_true (by omega) | (simp; omega)
          have dx : decide (x ≤ p) = true := by first | exact decide_eq_true (by omega) | (simp; omega)
          go_wp2_with fail
          have hbx := Box.new wr #[.int .u64 x, .int .u64 y] 100
          have m0 := (hbx.cell 0).trans rfl
          have m1 := (hbx.cell 1).trans rfl
          have HB2 := Lib.hid (HB.out.alloc HB.out.size (Obj.cells #[.int .u64 x, .int .u64 y] 100))
          have HP := Lib.hid (HPV.out _ HB2.out)
          clear hbx
          generalize hw2 : wr.alloc (Obj.cells #[.int .u64 x, .int .u64 y] 100) = w2 at *
          clear hw2
          generalize wr.heap.size = g at *
          have hp := HP.out
          obtain ⟨hp0, hp1⟩ := hp
          go_quiet (fail)
          go_wp2_with fail
          go_ret
          exact ⟨HNO.out (fun h => by have := HA.out.1 h; omega), Bdrew HB2.out _⟩
        · by_cases c2 : y ≤ q
          · have i3 : (0 : Int) ≤ (k : Int) - 1 := by omega
            have i4 : (k : Int) - 1 < (n : Int) := by omega
            have i5 : ((k : Int) - 1).toNat = k - 1 := by omega
            have i6 : IntKind.i64.wrap ((k : Int) - 1) = (k : Int) - 1 := by exact IntWalk.i64_in _ (by omega)
            have dk : decide ((0 : Int) < (k : Int)) = true := by first | exact decide_eq_true (by omega) | (simp; omega)
            have dl : decide (0 < k) = true := by first | exact decide_eq_true (by omega) | (simp; omega)
            have dx : decide (x ≤ p) = false := by first | exact decide_eq_false (by omega) | (simp; omega)
            have dq : decide (y ≤ q) = true := by first | exact decide_eq_true (by omega) | (simp; omega)
            go_wp2_with fail
            have hbx := Box.new wr #[.int .u64 x, .int .u64 y] 100
            have m0 := (hbx.cell 0).trans rfl
            have m1 := (hbx.cell 1).trans rfl
            have HB2 := Lib.hid (HB.out.alloc HB.out.size (Obj.cells #[.int .u64 x, .int .u64 y] 100))
            have HP := Lib.hid (HPV.out _ HB2.out)
            clear hbx
            generalize hw2 : wr.alloc (Obj.cells #[.int .u64 x, .int .u64 y] 100) = w2 at *
            clear hw2
            generalize wr.heap.size = g at *
            have hp := HP.out
            obtain ⟨hp0, hp1⟩ := hp
            go_quiet (fail)
            go_wp2_with fail
            go_ret
            exact ⟨HNO.out (fun h => by have := HA.out.1 h; omega), Bdrew HB2.out _⟩
          · have i3 : (0 : Int) ≤ (k : Int) - 1 := by omega
            have i4 : (k : Int) - 1 < (n : Int) := by omega
            have i5 : ((k : Int) - 1).toNat = k - 1 := by omega
            have i6 : IntKind.i64.wrap ((k : Int) - 1) = (k : Int) - 1 := by exact IntWalk.i64_in _ (by omega)
            have dk : decide ((0 : Int) < (k : Int)) = true := by first | exact decide_eq_true (by omega) | (simp; omega)
            have dl : decide (0 < k) = true := by first | exact decide_eq_true (by omega) | (simp; omega)
            have dx : decide (x ≤ p) = false := by first | exact decide_eq_false (by omega) | (simp; omega)
            have dq : decide (y ≤ q) = false := by first | exact decide_eq_false (by omega) | (simp; omega)
            go_wp2_with fail
            have hbx := Box.new wr #[.int .u64 x, .int .u64 y] 100
            have m0 := (hbx.cell 0).trans rfl
            have m1 := (hbx.cell 1).trans rfl
            have HB2 := Lib.hid (HB.out.alloc HB.out.size (Obj.cells #[.int .u64 x, .int .u64 y] 100))
            have HP := Lib.hid (HPV.out _ HB2.out)
            clear hbx
            generalize hw2 : wr.alloc (Obj.cells #[.int .u64 x, .int .u64 y] 100) = w2 at *
            clear hw2
            generalize wr.heap.size = g at *
            have hp := HP.out
            obtain ⟨hp0, hp1⟩ := hp
            go_quiet (fail)
            go_wp2_with fail
            go_roundw
            case rel => exact ⟨k + 1, by omega, by go_num, HYES.out (HA.out.2 (by omega)), Bdrew HB2.out _⟩
            case measure => simp [intOf]; omega
    · have HALL := Lib.hid (show ∀ j, TimeAt M j from fun j hj => HR.out j (by have := HL.out; omega) hj)
      go_wp2_with fail
      go_ret
      exact ⟨says_iff (by unfold TimesOk; rw [HL.out]; simp; exact ⟨fun h => ⟨HALL.out, by omega⟩, fun h => by omega⟩), HB.out⟩

set_option maxRecDepth 100000 in
set_option maxHeartbeats 3200000 in
theorem rtimes_any {w : World} {A : Option Addr} {n c : Nat} {M : List (Nat × Nat)} (h : MkSeg w w.heap.size A n M) (hn : n ≤ 100000) :
    Calls Try.prog 60 #[.slice A n c] w fun e w' => Says e (TimesOk M) ∧ Below w.heap.size w w' := by
  have HS := Lib.hid h
  have HL := Lib.hid h.len
  clear h
  go_enter Try.func60, Try.ntmps60
  go_wp2_with fail
  go_loopw [3] (fun i wr => ∃ k : Nat, (1 ≤ k ∧ (k ≤ n ∨ k = 1)) ∧ i = .int .i64 (k : Int) ∧ (∀ j, j < k → TimeAt M j) ∧ Below w.heap.size w wr) (fun i _ => n - (intOf i).toNat)
  case atStart => exact ⟨1, ⟨by omega, by omega⟩, rfl, (fun j h _ h0 => absurd h0 (by omega)), Below.refl _ _⟩
  case round =>
    obtain ⟨k, hk, rfl, hr, hb⟩ := hrel
    have HR := Lib.hid hr
    have HB := Lib.hid hb
    clear hr hb
    by_cases hlt : k < n
    · obtain ⟨b, off, hkl, rfl, hbb, c0, c1, _⟩ := (HS.out.below HB.out).at_ hlt
      have HNO := Lib.hid (show ¬ TimeAt M k → Says (.returned (.bool false)) (TimesOk M) from fun h => says_no (fun e => h (e.1 k)))
      have HYES := Lib.hid (show TimeAt M k → ∀ j, j < k + 1 → TimeAt M j from fun h j hj => by
        by_cases e : j = k
        · subst e; exact h
        · exact HR.out j (by omega))
      have i0 : (0 : Int) ≤ (k : Int) := by omega
      have i1 : (k : Int) < (n : Int) := by omega
      have i2 : ((k : Int)).toNat = k := by omega
      obtain ⟨b2, off2, _, he2, hbb2, _, _, hq⟩ := HS.out.at_ hlt
      injection he2 with he2
      injection he2 with e1 e2
      subst e1 e2
      have ha : TimeAt M k ↔ ((M[k - 1]'(by omega)).1 < M[k].1 ∧ (M[k - 1]'(by omega)).2 < M[k].2) := ⟨fun h => h hkl (by omega), fun h _ _ => h⟩
      have HPV := Lib.hid (fun (W : World) (hW : Below w.heap.size w W) => ((⟨(hW.cell (p := ⟨b, _, none⟩) hbb).trans (hq (by omega)).1, (hW.cell (p := ⟨b, _, none⟩) hbb).trans (hq (by omega)).2⟩ : _ ∧ _)))
      obtain ⟨x, hx⟩ : ∃ x : Int, x = ((M[k].1 : Nat) : Int) := ⟨_, rfl⟩
      obtain ⟨y, hy⟩ : ∃ y : Int, y = ((M[k].2 : Nat) : Int) := ⟨_, rfl⟩
      obtain ⟨p, hpx⟩ : ∃ p : Int, p = (((M[k - 1]'(by omega)).1 : Nat) : Int) := ⟨_, rfl⟩
      obtain ⟨q, hqx⟩ : ∃ q : Int, q = (((M[k - 1]'(by omega)).2 : Nat) : Int) := ⟨_, rfl⟩
      have HA := Lib.hid (show TimeAt M k ↔ (p < x ∧ q < y) from ha.trans (by omega))
      rw [← hx] at c0
      rw [← hy] at c1
      have y0 : 0 ≤ y := by omega
      rw [← hpx, ← hqx] at HPV
      clear ha hx hy hpx hqx hq
      by_cases c3 : x ≤ p
      · have i3 : (0 : Int) ≤ (k : Int) - 1 := by omega
        have i4 : (k : Int) - 1 < (n : Int) := by omega
        have i5 : ((k : Int) - 1).toNat = k - 1 := by omega
        have i6 : IntKind.i64.wrap ((k : Int) - 1) = (k : Int) - 1 := by exact IntWalk.i64_in _ (by omega)
        have dx : decide (x ≤ p) = true := by first | exact decide_eq_true (by omega) | (simp; omega)
        go_wp2_with fail
        have HB2 := HB
        have hp := HPV.out _ HB2.out
        obtain ⟨hp0, hp1⟩ := hp
        go_quiet (fail)
        go_wp2_with fail
        go_ret
        exact ⟨HNO.out (fun h => by have := HA.out.1 h; omega), Bdrew HB2.out _⟩
      · by_cases c2 : y ≤ q
        · have i3 : (0 : Int) ≤ (k : Int) - 1 := by omega
          have i4 : (k : Int) - 1 < (n : Int) := by omega
          have i5 : ((k : Int) - 1).toNat = k - 1 := by omega
          have i6 : IntKind.i64.wrap ((k : Int) - 1) = (k : Int) - 1 := by exact IntWalk.i64_in _ (by omega)
          have dx : decide (x ≤ p) = false := by first | exact decide_eq_false (by omega) | (simp; omega)
          have dq : decide (y ≤ q) = true := by first | exact decide_eq_true (by omega) | (simp; omega)
          go_wp2_with fail
          have HB2 := HB
          have hp := HPV.out _ HB2.out
          obtain ⟨hp0, hp1⟩ := hp
          go_quiet (fail)
          go_wp2_with fail
          go_ret
          exact ⟨HNO.out (fun h => by have := HA.out.1 h; omega), Bdrew HB2.out _⟩
        · have i3 : (0 : Int) ≤ (k : Int) - 1 := by omega
          have i4 : (k : Int) - 1 < (n : Int) := by omega
          have i5 : ((k : Int) - 1).toNat = k - 1 := by omega
          have i6 : IntKind.i64.wrap ((k : Int) - 1) = (k : Int) - 1 := by exact IntWalk.i64_in _ (by omega)
          have dx : decide (x ≤ p) = false := by first | exact decide_eq_false (by omega) | (simp; omega)
          have dq : decide (y ≤ q) = false := by first | exact decide_eq_false (by omega) | (simp; omega)
          go_wp2_with fail
          have HB2 := HB
          have hp := HPV.out _ HB2.out
          obtain ⟨hp0, hp1⟩ := hp
          go_quiet (fail)
          go_wp2_with fail
          go_roundw
          case rel => exact ⟨k + 1, by omega, by go_num, HYES.out (HA.out.2 (by omega)), Bdrew HB2.out _⟩
          case measure => simp [intOf]; omega
    · have HALL := Lib.hid (show ∀ j, TimeAt M j from fun j hj => HR.out j (by have := HL.out; omega) hj)
      go_wp2_with fail
      go_ret
      exact ⟨says_iff (by unfold TimesOk; rw [HL.out]; simp; exact ⟨fun h => ⟨HALL.out, by omega⟩, fun h => by omega⟩), HB.out⟩
end Go.Proofs.Ytaagfmaboggbhaa.cat
