/-
  The walks of the document's Put of a number, num, members; of putMembers.
-/
import Derived.Test.YtaagfmaboggbhaaCatPlain
namespace Go.Proofs.Ytaagfmaboggbhaa.cat
open Go.RowKit
set_option linter.unusedVariables false
open fix (leB leB_len leB_isB leB_snoc bts_snoc one_u8 Came)

/-- Bytes in a row of the call's own. -/
def NewTo (w : World) (l : List Nat) (e : Ending) (w' : World) : Prop :=
  ∃ A' n' c', n' = l.length ∧ e = .returned (.slice A' n' c') ∧ Own w' w.heap.size 5 A' n' c' (bts l) ∧ Below w.heap.size w w'
/-- Bytes behind a row. -/
def PutTo (w : World) (base : Nat) (A : Option Addr) (l : List Nat) (e : Ending) (w' : World) : Prop :=
  ∃ A' n' c', n' = l.length ∧ e = .returned (.slice A' n' c') ∧ Own w' base 5 A' n' c' (bts l) ∧ w.grownBy w' (blk A) ∧ Came w A A'
theorem put_to {w : World} {base n c : Nat} {A : Option Addr} {l : List Nat} (v k : Nat) (h : Own w base 5 A n c (bts l)) (hk : k ≤ 8) (hbase : base ≤ w.heap.size) (hn : n ≤ 1000000) :
    Calls Try.prog 57 #[.slice A n c, .int .u64 (v : Int), .int .i64 (k : Int)] w (PutTo w base A (l ++ leB v k)) :=
  (fix.put_own v k h hk hbase hn).mono fun e w' ⟨A', c', he, ho, hg, hc⟩ => ⟨A', n + k, c', by have := h.len; rw [bts_len] at this; rw [List.length_append, leB_len]; omega, he, ho, hg, hc⟩

set_option maxRecDepth 100000 in
set_option maxHeartbeats 1600000 in
/-- The document's Put. -/
theorem refput_any {w : World} {A : Option Addr} {n c : Nat} {l : List Nat} (v k : Nat) (h : Seg w w.heap.size A n (bts l)) (hk : k ≤ 8) (hn : n ≤ 1000000) (hv : v < 18446744073709551616) :
    Calls Try.prog 96 #[.slice A n c, .int .u64 (v : Int), .int .i64 (k : Int)] w (NewTo w (l ++ leB v k)) := by
  have hl : l.length = n := by rw [← bts_len]; exact h.1
  have HL := Lib.hid (show n + k = (l ++ leB v k).length by rw [List.length_append, leB_len]; omega)
  have HS := Lib.hid h
  have HP := Lib.hid (show ∀ (A' : Option Addr) (c' : Nat) (w' : World), Own w' w.heap.size 5 A' (n + k) c' (bts (l ++ leB v k)) → Below w.heap.size w w' → NewTo w (l ++ leB v k) (.returned (.slice A' (n + k) c')) w' from fun _ _ _ ho hb => ⟨_, _, _, HL.out, rfl, ho, hb⟩)
  clear h hl
  have h8i : (k : Int) ≤ 8 := by omega
  go_enter Try.func96, Try.ntmps96
  go_wp2_with ((at_builtin; refine wpList_app _ rfl (.tmp 9) (.tmp 10) elemB rfl w.heap.size rfl (Own.lit w #[] 5 (Nat.le_refl _) (Nat.zero_le _)) w.heap.size rfl (HS.out.alloc (Nat.le_refl _) _) (bts_one _) (by unfold maxLen; simp; omega) (by simp; omega) (by simp) ?_; intro A1 c1 w1 hown hg hat; simp only [Nat.zero_add, List.nil_append] at hown; have HO := Lib.hid hown; have HB := Lib.hid (below_app ((Below.refl w.heap.size w).alloc (Nat.le_refl _) (Obj.cells #[] 5)) (Nat.le_refl _) (by simp) (Own.lit w #[] 5 (Nat.le_refl _) (Nat.zero_le _)) hg); clear hown hg hat))
  have HE0 := Lib.hid (show v / 2 ^ (8 * 0) = v by simp)
  go_loopw [1, 7, 8] (fun nv o i wr => ∃ j : Nat, ∃ A1 c1, j ≤ k ∧ i = .int .i64 (j : Int) ∧ nv = .int .u64 ((v / 2 ^ (8 * j) : Nat) : Int) ∧ o = .slice A1 (n + j) c1 ∧ Own wr w.heap.size 5 A1 (n + j) c1 (bts (l ++ leB v j)) ∧ Below w.heap.size w wr) (fun _ _ i _ => k - (intOf i).toNat)
  case atStart => exact ⟨0, A1, c1, by omega, rfl, by rw [HE0.out], by simp, by simpa [leB] using HO.out, HB.out⟩
  case round =>
    clear HO HB HE0
    obtain ⟨j, A2, c2, hj, rfl, rfl, rfl, hown, hb⟩ := hrel
    have HO := Lib.hid hown
    have HB := Lib.hid hb
    clear hown hb
    by_cases hlt : j < k
    · have HE := Lib.hid (leB_snoc v j)
      have HQ := Lib.hid (show v / 2 ^ (8 * (j + 1)) = v / 2 ^ (8 * j) / 256 by rw [Nat.div_div_eq_div_mul, show 8 * (j + 1) = 8 * j + 8 by omega, Nat.pow_add])
      have hq : v / 2 ^ (8 * j) < 18446744073709551616 := Nat.lt_of_le_of_lt (Nat.div_le_self _ _) hv
      have j8 : (j : Int) < 8 := by omega
      generalize v / 2 ^ (8 * j) = q at *
      have q0 : (0 : Int) ≤ (q : Int) := by omega
      have m0 : (0 : Int) ≤ (q : Int) % 256 := by omega
      have m1 : (q : Int) % 256 ≤ 255 := by omega
      go_wp2_with (first
        | (at_builtin; refine wpList_app _ rfl (.tmp 21) (.tmp 25) elemB rfl w.heap.size rfl (HO.out.alloc _) _ rfl (Seg.one wr _ _) (one_u8 _) (by unfold maxLen; omega) (by omega) (by simp; have := HB.out.size; omega) ?_; intro A3 c3 w1 hown1 hg1 hat1; have HO2 := Lib.hid hown1; have HB2 := Lib.hid (below_app (HB.out.alloc HB.out.size _) (Nat.le_refl _) (by simp; have := HB.out.size; omega) (HO.out.alloc _) hg1); clear hown1 hg1 hat1))
      go_roundw
      case rel => exact ⟨j + 1, A3, c3, by omega, by go_num, by rw [HQ.out]; go_num, rfl, by rw [HE.out, ← List.append_assoc, bts_snoc (l ++ leB v j) (q % 256) ((q : Int) % 256) (by omega)]; exact HO2.out, HB2.out⟩
      case measure => simp [intOf]; omega
    · obtain rfl : k = j := by omega
      go_wp2_with fail
      go_ret
      exact HP.out _ _ _ HO.out HB.out

theorem Own.less {w : World} {B base n c : Nat} {e : TypeId} {A : Option Addr} {xs : List Value} (h : Own w B e A n c xs) (hb : base ≤ B) : Own w base e A n c xs := by
  rcases h with ⟨h1, h2⟩
  refine ⟨h1, ?_⟩
  rcases h2 with h2 | ⟨g, cap, cur, h3, h4, h5⟩
  · exact .inl h2
  · exact .inr ⟨g, cap, cur, h3, Nat.le_trans hb h4, h5⟩
/-- The document's num. -/
theorem num_any {w : World} {A : Option Addr} {n c : Nat} {l : List Nat} (v k : Nat) (h : Seg w w.heap.size A n (bts l)) (hk : k ≤ 8) (hn : n ≤ 1000000) (hv : v < 18446744073709551616) :
    Calls Try.prog 79 #[.slice A n c, .int .u64 (v : Int), .int .i64 (k : Int)] w (NewTo w (l ++ leB v k)) := by
  have HC := Lib.hid (refput_any (c := c) v k h hk hn hv)
  clear h
  go_enter Try.func79, Try.ntmps79
  go_wp2_with fail
  refine (HC.out).mono ?_
  rintro e w1 ⟨A', n', c', hn', rfl, ho, hb⟩
  have HN := Lib.hid (show NewTo w (l ++ leB v k) (.returned (.slice A' n' c')) w1 from ⟨A', n', c', hn', rfl, ho, hb⟩)
  clear hn' ho hb
  go_wp2_with fail
  go_ret
  exact HN.out
/-- A number that two bytes hold. -/
def Sm (x : Int) : Prop := 0 ≤ x ∧ x ≤ 65535
set_option maxRecDepth 100000 in
set_option maxHeartbeats 1600000 in
/-- The document's members. -/
theorem rmem_any {w : World} {A A2 : Option Addr} {n c m c2 : Nat} {l : List Nat} {L : List Int} (h : Seg w w.heap.size A n (bts l)) (h2 : Seg w w.heap.size A2 m (nums L)) (hs : ∀ x ∈ L, Sm x) (hm : m ≤ 255) (hn : n ≤ 900000) :
    Calls Try.prog 80 #[.slice A n c, .slice A2 m c2] w (NewTo w (l ++ cntB n16 L)) := by
  have hl : l.length = n := by rw [← bts_len]; exact h.1
  have hL : L.length = m := by have := h2.1; rwa [nums_len] at this
  have HC := Lib.hid (num_any (c := c) m 1 h (by omega) (by omega) (by omega))
  have HLL := Lib.hid hL
  have HS := Lib.hid hs
  have HM := Lib.hid h2
  have HN0 := Lib.hid hl
  have HCB := Lib.hid (show cntB n16 L = leB m 1 ++ L.flatMap n16 by unfold cntB; rw [hL])
  clear h h2 hs hl hL
  go_enter Try.func80, Try.ntmps80
  go_wp2_with fail
  refine (HC.out).mono ?_
  rintro e w1 ⟨A', n', c', hn', rfl, ho, hb⟩
  have hnn : n' = n + 1 := by rw [hn', List.length_append, leB_len, HN0.out]
  have HO := Lib.hid ho
  have HB := Lib.hid hb
  clear ho hb hn'
  have hn1 : n' ≤ 900001 := by omega
  have HNN := Lib.hid hnn
  clear hnn
  go_wp2_with fail
  go_loopw [0, 5] (fun b i wr => ∃ j : Nat, ∃ A1 n1 c1, j ≤ m ∧ i = .int .i64 (j : Int) ∧ b = .slice A1 n1 c1 ∧ n1 ≤ 900001 + 2 * j ∧ Own wr w.heap.size 5 A1 n1 c1 (bts (l ++ leB m 1 ++ (L.take j).flatMap n16)) ∧ Below w.heap.size w wr) (fun _ i _ => m - (intOf i).toNat)
  case atStart => exact ⟨0, A', n', c', by omega, rfl, rfl, by omega, by simpa using HO.out, HB.out⟩
  case round =>
    clear HO HB
    obtain ⟨j, A1, n1, c1, hj, rfl, rfl, hn2, hown, hb⟩ := hrel
    have HO := Lib.hid hown
    have HB := Lib.hid hb
    clear hown hb
    by_cases hlt : j < m
    · obtain ⟨b0, off, hkl, rfl, hbb, hc, _⟩ := Seg.num (HM.out.below HB.out) hlt
      have HF := Lib.hid (flat_snoc n16 L hkl)
      have hx := HS.out _ (List.getElem_mem hkl)
      obtain ⟨q, hq⟩ : ∃ q : Nat, L[j] = (q : Int) := ⟨L[j].toNat, (Int.toNat_of_nonneg hx.1).symm⟩
      rw [hq] at hc HF hx
      have hq1 : (q : Int) ≤ 65535 := hx.2
      have HQ := Lib.hid (show n16 (q : Int) = leB q 2 by unfold n16; rw [Int.toNat_natCast])
      clear hq hx
      have i0 : (0 : Int) ≤ (j : Int) := by omega
      have i1 : (j : Int) < (m : Int) := by omega
      have i2 : ((j : Int)).toNat = j := by omega
      go_wp2_with fail
      refine (num_any q 2 HO.out.seg (by omega) (by omega) (by omega)).mono ?_
      rintro e w2 ⟨A3, n3, c3, hn3, rfl, ho, hb⟩
      have hn4 : n3 ≤ 900001 + 2 * (j + 1) := by
        rw [hn3, List.length_append, leB_len]
        have := HO.out.len
        rw [bts_len] at this
        omega
      have HO3 := Lib.hid (Own.less ho HB.out.size)
      have HB3 := Lib.hid (nextB HB.out (Nat.le_refl _) hb)
      clear ho hb hn3
      go_wp2_with fail
      go_roundw
      case rel => exact ⟨j + 1, A3, n3, c3, by omega, by go_num, rfl, hn4, by rw [HF.out, HQ.out, ← List.append_assoc]; exact HO3.out, HB3.out⟩
      case measure => simp [intOf]; omega
    · obtain rfl : m = j := by omega
      have e1 : L.take m = L := List.take_of_length_le (by rw [HLL.out]; exact Nat.le_refl _)
      rw [e1] at HO
      have HN := Lib.hid (show NewTo w (l ++ cntB n16 L) (.returned (.slice A1 n1 c1)) wr from ⟨A1, n1, c1, by have := HO.out.len; rw [bts_len] at this; rw [HCB.out, ← List.append_assoc]; exact this.symm, rfl, by rw [HCB.out, ← List.append_assoc]; exact HO.out, HB.out⟩)
      clear e1
      go_wp2_with fail
      go_ret
      exact HN.out
theorem PutTo.below {w w' : World} {base n c : Nat} {A A' : Option Addr} {l : List Nat} (h : Own w base 5 A n c (bts l)) (hbase : base ≤ w.heap.size) (hg : w.grownBy w' (blk A)) : Below base w w' := below_app (Below.refl base w) (Nat.le_refl _) hbase h hg
theorem Came.trans {w w1 : World} {A A1 A2 : Option Addr} (h : Came w A A1) (hz : w.heap.size ≤ w1.heap.size) (h2 : Came w1 A1 A2) : Came w A A2 := by
  rcases h2 with h2 | ⟨g, h2, hl⟩
  · rcases h with h | ⟨g, h, hl⟩
    · exact .inl (h2.trans h)
    · exact .inr ⟨g, h2.trans h, hl⟩
  · exact .inr ⟨g, h2, by omega⟩
theorem grown_came {w w1 w2 : World} {A A1 : Option Addr} (hg : w.grownBy w1 (blk A)) (hc : Came w A A1) (hg2 : w1.grownBy w2 (blk A1)) : w.grownBy w2 (blk A) :=
  ⟨hg2.os.trans hg.os, hg2.tape.trans hg.tape, hg2.output.trans hg.output, Nat.le_trans hg.size hg2.size, fun i hi hne => (hg2.block i (Nat.lt_of_lt_of_le hi hg.size) (fun e => by
    rcases hc with h | ⟨g, h, hl⟩
    · rw [h] at e; exact hne e
    · rw [h] at e; injection e with e; omega)).trans (hg.block i hi hne)⟩
theorem grown_unalloc {w w1 : World} {row : Option Nat} {o : Obj} (h : (w.alloc o).grownBy w1 row) : w.grownBy w1 row :=
  ⟨h.os, h.tape, h.output, Nat.le_trans (by simp) h.size, fun i hi hne => (h.block i (Nat.lt_of_lt_of_le hi (by simp)) hne).trans (Below.heap_alloc w o i hi)⟩
theorem byteN (n : Nat) (h : n ≤ 255) : leB n 1 = [n] := by
  show [n % 256] = [n]
  rw [Nat.mod_eq_of_lt (by omega)]
set_option maxRecDepth 100000 in
set_option maxHeartbeats 1600000 in
/-- putMembers behind a row of the call's own. -/
theorem putmem_any {w : World} {base : Nat} {A A2 : Option Addr} {n c m c2 : Nat} {l : List Nat} {L : List Int} (h : Own w base 5 A n c (bts l)) (h2 : Seg w base A2 m (nums L)) (hbase : base ≤ w.heap.size) (hs : ∀ x ∈ L, Sm x) (hm : m ≤ 255) (hn : n ≤ 900000) :
    Calls Try.prog 58 #[.slice A n c, .slice A2 m c2] w (PutTo w base A (l ++ cntB n16 L)) := by
  have hl : l.length = n := by rw [← bts_len]; exact h.len
  have hL : L.length = m := by have := h2.1; rwa [nums_len] at this
  have HLL := Lib.hid hL
  have HS := Lib.hid hs
  have HM := Lib.hid h2
  have HO0 := Lib.hid h
  have HCB := Lib.hid (show cntB n16 L = [m] ++ L.flatMap n16 by unfold cntB; rw [hL, byteN _ hm])
  clear h h2 hs hl hL
  go_enter Try.func58, Try.ntmps58
  go_wp2_with ((at_builtin; refine wpList_app _ rfl (.tmp 7) (.tmp 11) elemB rfl base rfl (HO0.out.alloc _) _ rfl (Seg.one w _ _) (one_u8 _) (by unfold maxLen; omega) (by omega) (by simp; omega) ?_; intro A1 c1 w1 hown hg hat; have HO := Lib.hid hown; have HG := Lib.hid hg; have HAT := Lib.hid hat; clear hown hg hat))
  have HO1 := Lib.hid (show Own w1 base 5 A1 (n + 1) c1 (bts (l ++ [m])) by rw [bts_snoc _ _ _ rfl]; exact HO.out)
  have HG1 := Lib.hid (show w.grownBy w1 (blk A) from grown_unalloc HG.out)
  have HC1 := Lib.hid (show Came w A A1 by
    rcases HAT.out with h2 | h2
    · exact .inl h2
    · exact .inr ⟨_, h2, by simp⟩)
  clear HO HG HAT
  go_loopw [0, 15] (fun b i wr => ∃ j : Nat, ∃ A3 n3 c3, j ≤ m ∧ i = .int .i64 (j : Int) ∧ b = .slice A3 n3 c3 ∧ n3 ≤ 900001 + 2 * j ∧ Own wr base 5 A3 n3 c3 (bts (l ++ [m] ++ (L.take j).flatMap n16)) ∧ w.grownBy wr (blk A) ∧ Came w A A3) (fun _ i _ => m - (intOf i).toNat)
  case atStart => exact ⟨0, A1, n + 1, c1, by omega, rfl, rfl, by omega, by simpa using HO1.out, HG1.out, HC1.out⟩
  case round =>
    clear HO1 HG1 HC1
    obtain ⟨j, A3, n3, c3, hj, rfl, rfl, hn3, hown, hg, hc⟩ := hrel
    have HO := Lib.hid hown
    have HG := Lib.hid hg
    have HC := Lib.hid hc
    have sz := Nat.le_trans hbase hg.size
    clear hown hg hc
    by_cases hlt : j < m
    · obtain ⟨b0, off, hkl, rfl, hbb, hc, _⟩ := Seg.num (HM.out.below (below_app (Below.refl base w) (Nat.le_refl _) hbase HO0.out HG.out)) hlt
      have HF := Lib.hid (flat_snoc n16 L hkl)
      have hx := HS.out _ (List.getElem_mem hkl)
      obtain ⟨q, hq⟩ : ∃ q : Nat, L[j] = (q : Int) := ⟨L[j].toNat, (Int.toNat_of_nonneg hx.1).symm⟩
      rw [hq] at hc HF hx
      have hq1 : (q : Int) ≤ 65535 := hx.2
      have HQ := Lib.hid (show n16 (q : Int) = leB q 2 by unfold n16; rw [Int.toNat_natCast])
      clear hq hx
      have i0 : (0 : Int) ≤ (j : Int) := by omega
      have i1 : (j : Int) < (m : Int) := by omega
      have i2 : ((j : Int)).toNat = j := by omega
      go_wp2_with fail
      refine (put_to q 2 HO.out (by omega) sz (by omega)).mono ?_
      rintro e w2 ⟨A4, n4, c4, hn4, rfl, ho, hg, hcm⟩
      have hn5 : n4 ≤ 900001 + 2 * (j + 1) := by
        rw [hn4, List.length_append, leB_len]
        have := HO.out.len
        rw [bts_len] at this
        omega
      have HO3 := Lib.hid ho
      have HG3 := Lib.hid (grown_came HG.out HC.out hg)
      have HC3 := Lib.hid (Came.trans HC.out HG.out.size hcm)
      clear ho hg hcm hn4
      go_wp2_with fail
      go_roundw
      case rel => exact ⟨j + 1, A4, n4, c4, by omega, by go_num, rfl, hn5, by rw [HF.out, HQ.out, ← List.append_assoc]; exact HO3.out, HG3.out, HC3.out⟩
      case measure => simp [intOf]; omega
    · obtain rfl : m = j := by omega
      have e1 : L.take m = L := List.take_of_length_le (by rw [HLL.out]; exact Nat.le_refl _)
      rw [e1] at HO
      have HN := Lib.hid (show PutTo w base A (l ++ cntB n16 L) (.returned (.slice A3 n3 c3)) wr from ⟨A3, n3, c3, by have := HO.out.len; rw [bts_len] at this; rw [HCB.out, ← List.append_assoc]; exact this.symm, rfl, by rw [HCB.out, ← List.append_assoc]; exact HO.out, HG.out, HC.out⟩)
      clear e1
      go_wp2_with fail
      go_ret
      exact HN.out
end Go.Proofs.Ytaagfmaboggbhaa.cat
