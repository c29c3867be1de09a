/-
  The walk of rle.Pack.
-/
import Derived.Test.YtigebiknlodghaaRle
namespace Go.Proofs.Ytigebiknlodghaa.rle
open Go.RowKit
set_option linter.unusedVariables false

theorem bts_snoc (o : List Nat) (c : Nat) (x : Int) (h : x = (c : Int)) : bts (o ++ [c]) = bts o ++ [Value.int .u8 x] := by subst h; simp [bts]
theorem one_u8 (x : Int) : ∀ u ∈ [Value.int .u8 x], u.oneCell' = true := by
  intro u hu
  obtain rfl : u = .int .u8 x := by simpa using hu
  rfl
theorem Seg.mid {w : World} {B n : Nat} {A : Option Addr} {xs : List Value} (h : Seg w B A n xs) {k z cap : Nat} (hk : k + z ≤ n) (hc : n ≤ cap) :
    Seg w B (if cap = k then A else A.map (·.add k)) z ((xs.drop k).take z) := by
  have := (h.suffix_ (k := k) (by omega) hc).prefix_ (k := z) (by omega)
  exact this
theorem Seg.midB {w : World} {B n : Nat} {A : Option Addr} {l : List Nat} (h : Seg w B A n (bts l)) {k z cap : Nat} (hk : k + z ≤ n) (hc : n ≤ cap) (hne : ¬ cap = k) :
    Seg w B (A.map (·.add k)) z (bts ((l.drop k).take z)) := by
  have := Seg.mid h hk hc
  rw [if_neg hne] at this
  rw [bts_take, bts_drop]; exact this

set_option maxRecDepth 100000 in
set_option maxHeartbeats 1600000 in
/-- rle.Pack. -/
theorem pack_any {B n : Nat} {A : Option Addr} (c : Nat) {l : List Nat} {w : World} (h : Seg w B A n (bts l)) (hB : B ≤ w.heap.size) (hnc : n ≤ c) (hn : n ≤ 1000000) :
    Calls Try.prog 25 #[.slice A n c] w (OwnRes w (pk l)) := by
  have hlen : l.length = n := by rw [← bts_len]; exact h.1
  have HL := Lib.hid hlen
  clear hlen
  go_enter Try.func25, Try.ntmps25
  go_wp2
  go_loopw [3, 4] (fun t i wr => ∃ k m : Nat, ∃ o A1 c1, k ≤ n ∧ i = .int .i64 k ∧ t = .slice A1 m c1 ∧ Own wr w.heap.size 5 A1 m c1 (bts o) ∧ Below w.heap.size w wr ∧ pk l = o ++ pk (l.drop k) ∧ m ≤ 2 * k) (fun _ i _ => n - (intOf i).toNat)
  case atStart => exact ⟨0, 0, [], none, 0, by omega, rfl, rfl, Own.nil _ _ _, Below.refl _ _, by simp, by omega⟩
  case round =>
    obtain ⟨k, m, o, A1, c1, hk, rfl, rfl, hown, hbel, hpk, hm⟩ := hrel
    have HP := Lib.hid hpk
    have HO := Lib.hid hown
    have HB := Lib.hid hbel
    have sz := hbel.size
    clear hpk hown hbel
    by_cases hlt : k < n
    · have HS := Lib.hid (h.below (HB.out.mono hB))
      have hne : l.drop k ≠ [] := by intro e; have := congrArg List.length e; simp [HL.out] at this; omega
      have HNE := Lib.hid hne
      clear hne
      have HC := Lib.hid (zeros_any (w := wr) c HS.out k hk hn)
      by_cases ct : two (l.drop k) = true
      · have hzz : 2 ≤ zc 128 (l.drop k) := (zc_two 128 _ (by omega)).2 ct
        have hzl := zc_le 128 (l.drop k)
        have hzn := zc_len 128 (l.drop k)
        rw [List.length_drop, HL.out] at hzn
        have hpk' : pk l = (o ++ [127 + zc 128 (l.drop k)]) ++ pk (l.drop (k + zc 128 (l.drop k))) := by
          rw [HP.out]
          conv => lhs; rw [pk_two _ ct]
          simp [List.drop_drop]
        have HP' := Lib.hid hpk'
        clear hpk' ct
        generalize zc 128 (l.drop k) = z at *
        have t2 : decide ((2 : Int) ≤ (z : Int)) = true := by simp; omega
        go_wp2_with (first
          | (go_at_call 50; refine (HC.out).mono ?_; rintro e w' ⟨rfl, rfl⟩)
          | (at_builtin; refine wpList_app _ rfl (.tmp 16) (.tmp 21) elemB rfl w.heap.size rfl (HO.out.alloc _) _ rfl (Seg.one wr _ _) (one_u8 _) (by unfold maxLen; omega) (by omega) (by simp; omega) ?_; intro A2 c2 w1 hown1 hg1 hat1; have HO1 := Lib.hid hown1; have HB1 := Lib.hid (below_app (HB.out.alloc sz _) (Nat.le_refl _) (by simp; omega) (HO.out.alloc _) hg1); clear hown1 hg1 hat1))
        go_roundw
        case rel => exact ⟨k + z, m + 1, o ++ [127 + z], A2, c2, by omega, by go_num, rfl, by rw [bts_snoc o (127 + z) (128 + (z : Int) - 1) (by omega)]; exact HO1.out, HB1.out, HP'.out, by omega⟩
        case measure => simp [intOf]; omega
      · have ct : two (l.drop k) = false := by simpa using ct
        have hzz : ¬ 2 ≤ zc 128 (l.drop k) := fun hh => by rw [(zc_two 128 _ (by omega)).1 hh] at ct; cases ct
        have hp1 := pos_of HNE.out ct
        have hpl := pc_le 128 (l.drop k)
        have hpn := pc_len 128 (l.drop k)
        rw [List.length_drop, HL.out] at hpn
        have hpk' : pk l = (o ++ [pc 128 (l.drop k) - 1] ++ (l.drop k).take (pc 128 (l.drop k))) ++ pk (l.drop (k + pc 128 (l.drop k))) := by
          rw [HP.out]
          conv => lhs; rw [pk_plain _ HNE.out ct]
          simp [List.drop_drop]
        have HP' := Lib.hid hpk'
        have HCP := Lib.hid (plain_any (w := wr) c HS.out k hk hn)
        clear hpk' ct
        generalize zc 128 (l.drop k) = z at *
        generalize pc 128 (l.drop k) = p at *
        have t2 : decide ((2 : Int) ≤ (z : Int)) = false := by simp; omega
        have hpc : k + p ≤ c := by omega
        have hkc : ¬ c = k := by omega
        go_wp2_with (first
          | (go_at_call 50; refine (HC.out).mono ?_; rintro e w' ⟨rfl, rfl⟩)
          | (go_at_call 51; refine (HCP.out).mono ?_; rintro e w' ⟨rfl, rfl⟩)
          | (at_builtin; refine wpList_app _ rfl (.tmp 29) (.tmp 33) elemB rfl w.heap.size rfl (HO.out.alloc _) _ rfl (Seg.one wr _ _) (one_u8 _) (by unfold maxLen; omega) (by omega) (by simp; omega) ?_; intro A2 c2 w1 hown1 hg1 hat1; have HO1 := Lib.hid hown1; have HB1 := Lib.hid (below_app (HB.out.alloc sz _) (Nat.le_refl _) (by simp; omega) (HO.out.alloc _) hg1); have HM := Lib.hid (Seg.midB (h.below (HB1.out.mono hB)) (k := k) (z := p) (cap := c) (by omega) hnc hkc); have sz1 := HB1.out.size; clear hown1 hg1 hat1)
          | (at_builtin; refine wpList_app _ rfl (.tmp 35) (.tmp 41) elemB rfl w.heap.size rfl HO1.out B rfl (by rw [Nat.add_sub_cancel_left]; exact HM.out) (bts_one _) (by unfold maxLen; omega) (by omega) sz1 ?_; intro A3 c3 w2 hown2 hg2 hat2; rw [Nat.add_sub_cancel_left] at hown2; have HO2 := Lib.hid hown2; have HB2 := Lib.hid (below_app HB1.out (Nat.le_refl _) sz1 HO1.out hg2); clear hown2 hg2 hat2))
        go_roundw
        case rel => exact ⟨k + p, m + 1 + p, o ++ [p - 1] ++ (l.drop k).take p, A3, c3, by omega, by go_num, rfl, by rw [bts_app, bts_snoc o (p - 1) ((p : Int) - 1) (by omega)]; exact HO2.out, HB2.out, HP'.out, by omega⟩
        case measure => simp [intOf]; omega
    · have hpk' : pk l = o := by rw [HP.out, List.drop_of_length_le (by rw [HL.out]; omega), pk_nil, List.append_nil]
      have hm' : m = (pk l).length := by rw [hpk', ← bts_len]; exact HO.out.len.symm
      go_wp2
      go_ret
      exact ⟨A1, c1, by rw [← hm']; rfl, by rw [← hm', hpk']; exact HO.out, HB.out⟩
end Go.Proofs.Ytigebiknlodghaa.rle
