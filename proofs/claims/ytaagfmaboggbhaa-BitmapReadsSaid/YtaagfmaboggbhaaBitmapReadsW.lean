/-
  The walk of the law BitmapReads.
-/
import Derived.Test.YtaagfmaboggbhaaBitRead
import Derived.Deep.QuietTactic
import Derived.BigQuiet
namespace Go.Proofs.Ytaagfmaboggbhaa.bit
open Go.RowKit Go.ChangeShapes Go.WideShapes Go.ChangeAt
set_option linter.unusedVariables false

theorem castdiv0 (x r : Nat) : (0 : Int) ≤ (x : Int) / 2 ^ r := by rw [castdiv]; exact Int.natCast_nonneg _

set_option maxHeartbeats 800000 in
/-- No map: too many bytes, or a number of blocks that may not be, or not as many bytes. -/
theorem reads_none {A : Option Addr} {m c : Nat} (q : Int) (w : World) (h : 100 < m ∨ (m ≤ 100 ∧ (q < 0 ∨ 4096 < q)) ∨ ∃ n : Nat, q = (n : Int) ∧ m ≤ 100 ∧ n ≤ 4096 ∧ m ≠ (n + 7) / 8) :
    Calls Try.prog 3 #[.slice A m c, .int .i64 q] w fun e w' => e = .returned (.bool true) ∧ Below w.heap.size w w' := by
  rcases h with h | ⟨hm, h⟩ | ⟨n, rfl, hm, hn, h⟩
  · have t1 : decide ((100 : Int) < (m : Int)) = true := by simp; omega
    go_enter Try.func3, Try.ntmps3
    go_wp2_with fail
    go_ret
    exact ⟨rfl, Below.refl _ _⟩
  · have t1 : decide ((100 : Int) < (m : Int)) = false := by simp; omega
    have HR := Lib.hid (read_bad (A := A) (m := m) (c := c) q h w)
    rcases h with h | h
    · go_enter Try.func3, Try.ntmps3
      go_wp2_with fail
      refine (HR.out).mono ?_
      rintro e w1 ⟨rfl, rfl⟩
      go_wp2_with fail
      refine (alive_true _).mono ?_
      rintro e w2 ⟨rfl, hb⟩
      go_wp2_with fail
      go_ret
      exact ⟨rfl, hb⟩
    · have h' : ¬ q < 0 := by omega
      go_enter Try.func3, Try.ntmps3
      go_wp2_with fail
      refine (HR.out).mono ?_
      rintro e w1 ⟨rfl, rfl⟩
      go_wp2_with fail
      refine (alive_true _).mono ?_
      rintro e w2 ⟨rfl, hb⟩
      go_wp2_with fail
      go_ret
      exact ⟨rfl, hb⟩
  · have t1 : decide ((100 : Int) < (m : Int)) = false := by simp; omega
    have t2 : ((m : Int) != ((n : Int) + 7) / 8) = true := by rw [bne_iff_ne]; omega
    have t3 : ((m : Int) == ((n : Int) + 7) / 8) = false := by rw [beq_eq_false_iff_ne]; omega
    have t4 : decide ((4096 : Int) < (n : Int)) = false := by simp; omega
    have HR := Lib.hid (read_size (A := A) (m := m) (c := c) n hn h w)
    clear h
    go_enter Try.func3, Try.ntmps3
    go_wp2_with fail
    refine (HR.out).mono ?_
    rintro e w1 ⟨rfl, hb1⟩
    have HB := Lib.hid hb1
    clear hb1
    go_wp2_with fail
    refine (alive_true _).mono ?_
    rintro e w2 ⟨rfl, hb⟩
    go_wp2_with fail
    go_ret
    exact ⟨rfl, nextB HB.out (Nat.le_refl _) hb⟩

set_option maxRecDepth 100000 in
set_option maxHeartbeats 1600000 in
/-- Bits behind the last block. -/
theorem reads_form {A : Option Addr} {c : Nat} (n : Nat) (hn : n ≤ 4096) (l : List Nat) (w : World) (hm : l.length = (n + 7) / 8) (hs : Seg w w.heap.size A l.length (bts l)) (hl : IsB l) (hc : l.length ≤ c) (hm1 : l.length ≤ 100)
    (hr0 : 0 < n % 8) (hq : l.getD (l.length - 1) 0 / 2 ^ (n % 8) ≠ 0) :
    Calls Try.prog 3 #[.slice A l.length c, .int .i64 (n : Int)] w fun e w' => e = .returned (.bool true) ∧ Below w.heap.size w w' := by
  have HR := Lib.hid (read_form n hn l w hm hs hl hc hr0 hq)
  obtain ⟨i0, i1, i2, i3, i4⟩ := first_bit (bitAt l) n (8 * l.length) (by
    obtain ⟨i, h1, h2, h3⟩ := behind_some l hl n hm hr0 hq
    exact ⟨i, h1, h2, h3⟩)
  have HI3 := Lib.hid i3
  have HI4 := Lib.hid i4
  have t1 : decide ((100 : Int) < (l.length : Int)) = false := by simp; omega
  have t2 : ((l.length : Int) != ((n : Int) + 7) / 8) = false := by rw [bne_eq_false_iff_eq]; omega
  have t3 : ((l.length : Int) == ((n : Int) + 7) / 8) = true := by rw [beq_iff_eq]; omega
  have t4 : decide ((4096 : Int) < (n : Int)) = false := by simp; omega
  have HS := Lib.hid hs
  clear hs hq hm i3 i4
  go_enter Try.func3, Try.ntmps3
  go_wp2_with fail
  refine (HR.out).mono ?_
  rintro e w1 ⟨rfl, hb1⟩
  have HB := Lib.hid hb1
  have HS1 := Lib.hid (HS.out.below hb1)
  clear hb1
  go_wp2_with fail
  go_loop [7] (fun i => ∃ k : Nat, n ≤ k ∧ k ≤ i0 ∧ i = .int .i64 (k : Int)) (fun i => i0 - (intOf i).toNat)
  case atStart => exact ⟨n, by omega, i1, rfl⟩
  case round =>
    obtain ⟨k, k1, k2, rfl⟩ := hrel
    obtain ⟨b, off, hkl, rfl, hb, hcell⟩ := HS1.out.byte (k := k / 8) (by omega)
    have ht := Lib.hid (test_mod l k _ hkl rfl)
    generalize l[k / 8] = x at *
    have hnn := castdiv0 x (k % 8)
    by_cases hk : k = i0
    · have hbt : ((x : Int) / 2 ^ (k % 8) % 2 == 1) = true := by rw [ht.out, hk]; exact HI3.out
      clear hk
      go_wp2_with fail
      refine (alive_true _).mono ?_
      rintro e w2 ⟨rfl, hb⟩
      go_wp2_with fail
      go_ret
      exact ⟨rfl, nextB HB.out (Nat.le_refl _) hb⟩
    · have hbt : ((x : Int) / 2 ^ (k % 8) % 2 == 1) = false := by rw [ht.out]; exact HI4.out k k1 (by omega)
      go_wp2_with fail
      go_round
      case rel => exact ⟨k + 1, by omega, by omega, by go_num⟩
      case measure => simp [intOf]; omega

set_option maxRecDepth 100000 in
set_option maxHeartbeats 3200000 in
/-- A map. -/
theorem reads_ok {A : Option Addr} {c : Nat} (n : Nat) (hn : n ≤ 4096) (l : List Nat) (w : World) (hm : l.length = (n + 7) / 8) (hs : Seg w w.heap.size A l.length (bts l)) (hl : IsB l) (hc : l.length ≤ c) (hm1 : l.length ≤ 100)
    (hq : n % 8 = 0 ∨ l.getD (l.length - 1) 0 / 2 ^ (n % 8) = 0) :
    Calls Try.prog 3 #[.slice A l.length c, .int .i64 (n : Int)] w fun e w' => e = .returned (.bool true) ∧ Below w.heap.size w w' := by
  have HR := Lib.hid (read_ok n hn l w hm hs hl hc hq)
  have HI4 := Lib.hid (behind_none l n hm hq)
  have t1 : decide ((100 : Int) < (l.length : Int)) = false := by simp; omega
  have t2 : ((l.length : Int) != ((n : Int) + 7) / 8) = false := by rw [bne_eq_false_iff_eq]; omega
  have t3 : ((l.length : Int) == ((n : Int) + 7) / 8) = true := by rw [beq_iff_eq]; omega
  have t4 : decide ((4096 : Int) < (n : Int)) = false := by simp; omega
  have hn8 : n ≤ 8 * l.length := by omega
  have HS := Lib.hid hs
  have HL := Lib.hid hl
  clear hs hq hm hl
  go_enter Try.func3, Try.ntmps3
  go_wp2_with fail
  refine (HR.out).mono ?_
  rintro e w1 ⟨g, r, rfl, hmp, hb1⟩
  have HB := Lib.hid hb1
  have HS1 := Lib.hid (HS.out.below hb1)
  have HM := Lib.hid hmp
  clear hb1 hmp
  go_wp2_with fail
  go_loop [7] (fun i => ∃ k : Nat, n ≤ k ∧ k ≤ 8 * l.length ∧ i = .int .i64 (k : Int)) (fun i => 8 * l.length - (intOf i).toNat)
  case atStart => exact ⟨n, by omega, hn8, rfl⟩
  case round =>
    obtain ⟨k, k1, k2, rfl⟩ := hrel
    by_cases hk : k < 8 * l.length
    · obtain ⟨b, off, hkl, rfl, hb, hcell⟩ := HS1.out.byte (k := k / 8) (by omega)
      have ht := Lib.hid (test_mod l k _ hkl rfl)
      generalize l[k / 8] = x at *
      have hnn := castdiv0 x (k % 8)
      have hbt : ((x : Int) / 2 ^ (k % 8) % 2 == 1) = false := by rw [ht.out]; exact HI4.out k k1 (by omega)
      go_wp2_with fail
      go_round
      case rel => exact ⟨k + 1, by omega, by omega, by go_num⟩
      case measure => simp [intOf]; omega
    · go_wp2_with fail
      go_loopw [8] (fun i wr => ∃ j : Nat, j ≤ n ∧ i = .int .i64 (j : Int) ∧ IsMap wr g r n l ∧ Below w.heap.size w wr) (fun i _ => n - (intOf i).toNat)
      case atStart => exact ⟨0, by omega, rfl, HM.out, HB.out⟩
      case round =>
        obtain ⟨j, hj, rfl, hmp, hbl⟩ := hrel
        have HMr := Lib.hid hmp
        have HBr := Lib.hid hbl
        clear hmp hbl
        by_cases hjn : j < n
        · obtain ⟨b, off, hkl, rfl, hb, hcell⟩ := (HS.out.below HBr.out).byte (k := j / 8) (by omega)
          have ht := Lib.hid (test_mod l j _ hkl rfl)
          generalize l[j / 8] = x at *
          have hnn := castdiv0 x (j % 8)
          have b1 : (0 : Int) ≤ (j : Int) / 8 := by omega
          have b2 : (j : Int) / 8 < (l.length : Int) := by omega
          have b3 : ((j : Int) / 8).toNat = j / 8 := by omega
          go_wp2_with fail
          go_quiet ((go_at_call 13; exact Calls.quiet_of_same ((has_in (HMr.out.drewN _) j hjn).mono (fun e w' h => ⟨h.1, h.2.symm⟩))))
          rw [ht.out]
          generalize bitAt l j = bj at *
          rw [show (!(bj == bj)) = false by simp]
          go_wp2_with fail
          go_roundw
          case rel => exact ⟨j + 1, by omega, by go_num, HMr.out.drewN _, Bdrew HBr.out _⟩
          case measure => simp [intOf]; omega
        · obtain rfl : j = n := by omega
          go_wp2_with fail
          refine (len_any j HMr.out.box).mono ?_
          rintro e w2 ⟨rfl, rfl⟩
          go_wp2_with fail
          refine (bytes_any HMr.out).mono ?_
          rintro e w3 ⟨A2, c2, rfl, hown, hb⟩
          have HO := Lib.hid hown
          have HB3 := Lib.hid (nextB HBr.out (Nat.le_refl _) hb)
          clear hown hb
          go_wp2_with fail
          refine (equal_any c2 c (HO.out.seg) (HS.out.below HB3.out) HL.out HL.out).mono ?_
          rintro e w4 ⟨rfl, rfl⟩
          rw [decide_eq_true rfl]
          go_wp2_with fail
          refine (alive_true _).mono ?_
          rintro e w5 ⟨rfl, hb⟩
          go_wp2_with fail
          go_ret
          exact ⟨rfl, nextB HB3.out (Nat.le_refl _) hb⟩

set_option maxRecDepth 100000 in
theorem reads_main {H : Type} {enc : TypeId × Value → H} {base : Nat} (W : World) {v0 v1 : Value} {d0 d1 : DataW H} {p0 p1 : List MemPlace}
    (h0 : DataW.Trod enc Try.prog W 0 (fun _ => true) true 22 v0 d0 p0) (k0 : Value.okWide Try.prog W .any base 22 v0)
    (h1 : DataW.Trod enc Try.prog W 0 (fun _ => true) true 3 v1 d1 p1) (k1 : Value.okWide Try.prog W .any base 3 v1) :
    Calls Try.prog 3 #[v0, v1] W fun e W' => e = .returned (.bool true) ∧ Below W.heap.size W W' := by
  obtain ⟨A, m, c, l, rfl, hnc, hc, hl, hs⟩ := open_bytes h0 k0
  obtain ⟨q, rfl, rfl, rfl, w1⟩ := open_int Try.underlying3 k1 h1
  obtain rfl : l.length = m := by rw [← bts_len]; exact hs.1
  by_cases c1 : 100 < l.length
  · exact reads_none q W (.inl c1)
  by_cases c2 : q < 0 ∨ 4096 < q
  · exact reads_none q W (.inr (.inl ⟨by omega, c2⟩))
  obtain ⟨n, rfl⟩ := Int.eq_ofNat_of_zero_le (by omega : 0 ≤ q)
  by_cases c3 : l.length = (n + 7) / 8
  · by_cases c4 : n % 8 = 0 ∨ l.getD (l.length - 1) 0 / 2 ^ (n % 8) = 0
    · exact reads_ok n (by omega) l W c3 hs hl hnc (by omega) c4
    · exact reads_form n (by omega) l W c3 hs hl hnc (by omega) (by omega) (fun e => c4 (.inr e))
  · exact reads_none _ W (.inr (.inr ⟨n, rfl, by omega, by omega, c3⟩))
end Go.Proofs.Ytaagfmaboggbhaa.bit
