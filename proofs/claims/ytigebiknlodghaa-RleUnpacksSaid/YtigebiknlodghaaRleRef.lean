/-
  The walks of the document's answer for layer 9.
-/
import Derived.Test.YtigebiknlodghaaRlePack
import Derived.Deep.RegionLaw
namespace Go.Proofs.Ytigebiknlodghaa.rle
open Go.RowKit
set_option linter.unusedVariables false

theorem two_cases (l : List Nat) (k : Nat) : two (l.drop k) = (decide (k + 1 < l.length) && (l.getD k 1 == 0 && l.getD (k + 1) 1 == 0)) := by
  by_cases h : k + 1 < l.length
  · rw [drop_at (show k < l.length by omega), drop_at h]
    simp only [List.getD_eq_getElem?_getD, List.getElem?_eq_getElem h, List.getElem?_eq_getElem (show k < l.length by omega), Option.getD_some, h, decide_true, Bool.true_and]
    generalize l[k] = x
    generalize l[k + 1] = y
    cases x with
    | zero => cases y with
      | zero => rfl
      | succ y => rfl
    | succ x => rfl
  · rw [decide_eq_false h, Bool.false_and]
    by_cases h2 : k < l.length
    · rw [drop_at h2, List.drop_of_length_le (show l.length ≤ k + 1 by omega)]
      generalize l[k] = x
      cases x <;> rfl
    · rw [List.drop_of_length_le (by omega)]; rfl

set_option maxRecDepth 100000 in
set_option maxHeartbeats 400000 in
/-- two. -/
theorem two_any {B n : Nat} {A : Option Addr} (c : Nat) {l : List Nat} {w : World} (h : Seg w B A n (bts l)) (k : Nat) (hk : k ≤ 1000000) (hn : n ≤ 1000000) :
    Calls Try.prog 56 #[.slice A n c, .int .i64 (k : Int)] w fun e w' => e = .returned (.bool (two (l.drop k))) ∧ w = w' := by
  have hlen : l.length = n := by rw [← bts_len]; exact h.1
  rw [two_cases, hlen]
  have HL := Lib.hid hlen
  clear hlen
  by_cases c1 : k + 1 < n
  · rw [decide_eq_true c1, Bool.true_and]
    obtain ⟨b, off, hlk, rfl, hbB, hcell⟩ := h.byte (show k < n by omega)
    obtain ⟨b', off', hlk', he, hbB', hcell'⟩ := h.byte c1
    injection he with he
    injection he with he1 he2 _
    subst he1 he2
    simp only [List.getD_eq_getElem?_getD, List.getElem?_eq_getElem hlk, List.getElem?_eq_getElem hlk', Option.getD_some]
    generalize l[k] = x at *
    generalize l[k + 1] = y at *
    by_cases c2 : x = 0
    · subst c2
      by_cases c3 : y = 0
      · subst c3
        go_enter Try.func56, Try.ntmps56
        go_wp2
        go_ret
        exact ⟨rfl, rfl⟩
      · have t1 : ((y : Int) == 0) = false := by rw [beq_eq_false_iff_ne]; omega
        have t2 : (y == 0) = false := by rw [beq_eq_false_iff_ne]; omega
        rw [t2]
        go_enter Try.func56, Try.ntmps56
        go_wp2
        go_ret
        exact ⟨rfl, rfl⟩
    · have t1 : ((x : Int) == 0) = false := by rw [beq_eq_false_iff_ne]; omega
      have t2 : (x == 0) = false := by rw [beq_eq_false_iff_ne]; omega
      rw [t2]
      go_enter Try.func56, Try.ntmps56
      go_wp2
      go_ret
      exact ⟨rfl, rfl⟩
  · rw [decide_eq_false c1, Bool.false_and]
    have t1 : decide ((k : Int) + 1 < (n : Int)) = false := by simp; omega
    go_enter Try.func56, Try.ntmps56
    go_wp2
    go_ret
    exact ⟨rfl, rfl⟩

theorem zc_step (f : Nat) (l : List Nat) (j : Nat) (hj : j < l.length) (h : l[j] = 0) : zc (f + 1) (l.drop j) = zc f (l.drop (j + 1)) + 1 := by
  rw [drop_at hj, h, zc_hit]

theorem one_cell_u8 (c : Nat) : ∀ u ∈ [Value.int .u8 (c : Int)], u.oneCell' = true := one_u8 _

set_option maxRecDepth 100000 in
set_option maxHeartbeats 3200000 in
/-- The document's Pack. -/
theorem rpack_any {B n : Nat} {A : Option Addr} (c : Nat) {l : List Nat} {w : World} (h : Seg w B A n (bts l)) (hB : B ≤ w.heap.size) (hnc : n ≤ c) (hn : n ≤ 1000000) :
    Calls Try.prog 43 #[.slice A n c] w (OwnRes w (pk l)) := by
  go_enter Try.func43, Try.ntmps43
  go_wp2
  go_loopw [0, 3] (fun v t wr => ∃ r o : List Nat, ∃ A0 n0 c0 A1 m c1, v = .slice A0 n0 c0 ∧ t = .slice A1 m c1 ∧ Seg wr B A0 n0 (bts r) ∧ n0 ≤ c0 ∧ n0 ≤ n ∧ Own wr w.heap.size 5 A1 m c1 (bts o) ∧ Below w.heap.size w wr ∧ pk l = o ++ pk r ∧ m + 2 * n0 ≤ 2 * n) (fun v _ _ => sliceLen v)
  case atStart => exact ⟨l, [], A, n, c, none, 0, 0, rfl, rfl, h, hnc, Nat.le_refl _, Own.nil _ _ _, Below.refl _ _, by simp, by omega⟩
  case round =>
    obtain ⟨r, o, A0, n0, c0, A1, m, ca, rfl, rfl, hseg, hnc0, hn0, hown, hbel, hpk, hm⟩ := hrel
    have hlen : r.length = n0 := by rw [← bts_len]; exact hseg.1
    have HL := Lib.hid hlen
    have HP := Lib.hid hpk
    have HO := Lib.hid hown
    have HB := Lib.hid hbel
    have HS := Lib.hid hseg
    have sz := hbel.size
    clear hpk hown hbel hlen h
    by_cases hlt : 0 < n0
    · have hne : r ≠ [] := by rintro rfl; have := HL.out; simp at this; omega
      have HNE := Lib.hid hne
      clear hne
      have hc0 := two_any (w := wr) c0 HS.out 0 (by omega) (by omega)
      rw [List.drop_zero] at hc0
      have HC0 := Lib.hid hc0
      clear hc0
      by_cases ct : two r = true
      · rw [ct] at HC0
        have hzl := zc_le 128 r
        have hzn := zc_len 128 r
        have hzz : 2 ≤ zc 128 r := (zc_two 128 _ (by omega)).2 ct
        rw [HL.out] at hzn
        have hpk' : pk l = (o ++ [127 + zc 128 r]) ++ pk (r.drop (zc 128 r)) := by
          rw [HP.out]
          conv => lhs; rw [pk_two _ ct]
          simp
        have HP' := Lib.hid hpk'
        clear hpk'
        go_wp2_with (go_at_call 56; refine (HC0.out).mono ?_; rintro e w' ⟨rfl, rfl⟩)
        go_loop [4] (fun t => ∃ j : Nat, j ≤ 128 ∧ j ≤ n0 ∧ t = .int .i64 j ∧ zc 128 r = j + zc (128 - j) (r.drop j)) (fun t => 128 - (intOf t).toNat)
        case atStart => exact ⟨0, by omega, by omega, rfl, by simp⟩
        case round =>
          obtain ⟨j, hj, hjn, rfl, hz⟩ := hrel
          have HZ := Lib.hid hz
          clear hz
          by_cases c1 : j < n0
          · obtain ⟨b, off, hlk, rfl, hbB, hcell⟩ := HS.out.byte c1
            by_cases c2 : j < 128
            · by_cases c3 : r[j] = 0
              · rw [c3] at hcell
                have hz' : zc 128 r = (j + 1) + zc (128 - (j + 1)) (r.drop (j + 1)) := by
                  rw [HZ.out, show 128 - j = (128 - (j + 1)) + 1 from by omega, zc_step _ r j hlk c3]; omega
                have HZ' := Lib.hid hz'
                clear hz' c3
                go_wp2
                go_round
                case rel => exact ⟨j + 1, by omega, by omega, by go_num, HZ'.out⟩
                case measure => simp [intOf]; omega
              · have t1 : (((r[j] : Nat) : Int) == 0) = false := by rw [beq_eq_false_iff_ne]; omega
                have hz' : zc 128 r = j := by rw [HZ.out, drop_at hlk, zc_miss _ _ _ c3]; omega
                clear c3
                generalize r[j] = x at *
                have HZ' := Lib.hid hz'
                clear hz'
                rw [HZ'.out] at HP' hzz hzl hzn
                have hcj : ¬ c0 = j := by omega
                go_wp2_with (at_builtin; refine wpList_app _ rfl (.tmp 27) (.tmp 31) elemB rfl w.heap.size rfl (HO.out.alloc _) _ rfl (Seg.one wr _ _) (one_u8 _) (by unfold maxLen; omega) (by omega) (by simp; omega) ?_; intro A2 c2 w1 hown1 hg1 hat1; have HO1 := Lib.hid hown1; have HB1 := Lib.hid (below_app (HB.out.alloc sz _) (Nat.le_refl _) (by simp; omega) (HO.out.alloc _) hg1); have HS1 := Lib.hid (HS.out.below (((Below.refl B wr).alloc (Nat.le_trans hB sz) _).grown hg1 (by simp; omega) (fun k hk => Nat.le_trans hB (HO.out.lt k hk).1))); clear hown1 hg1 hat1)
                go_roundw
                case rel => exact ⟨r.drop j, o ++ [127 + j], _, n0 - j, c0 - j, A2, m + 1, c2, rfl, rfl, by rw [bts_drop]; exact HS1.out.cutAt (by omega), by omega, by omega, by rw [bts_snoc o (127 + j) (127 + (j : Int)) (by omega)]; exact HO1.out, HB1.out, HP'.out, by omega⟩
                case measure => simp only [sliceLen_mk]; omega
            · have hz' : zc 128 r = j := by rw [HZ.out, show 128 - j = 0 from by omega, zc_zero]; omega
              have HZ' := Lib.hid hz'
              clear hz'
              rw [HZ'.out] at HP' hzz hzl hzn
              have hcj : ¬ c0 = j := by omega
              go_wp2_with (at_builtin; refine wpList_app _ rfl (.tmp 27) (.tmp 31) elemB rfl w.heap.size rfl (HO.out.alloc _) _ rfl (Seg.one wr _ _) (one_u8 _) (by unfold maxLen; omega) (by omega) (by simp; omega) ?_; intro A2 c2 w1 hown1 hg1 hat1; have HO1 := Lib.hid hown1; have HB1 := Lib.hid (below_app (HB.out.alloc sz _) (Nat.le_refl _) (by simp; omega) (HO.out.alloc _) hg1); have HS1 := Lib.hid (HS.out.below (((Below.refl B wr).alloc (Nat.le_trans hB sz) _).grown hg1 (by simp; omega) (fun k hk => Nat.le_trans hB (HO.out.lt k hk).1))); clear hown1 hg1 hat1)
              go_roundw
              case rel => exact ⟨r.drop j, o ++ [127 + j], _, n0 - j, c0 - j, A2, m + 1, c2, rfl, rfl, by rw [bts_drop]; exact HS1.out.cutAt (by omega), by omega, by omega, by rw [bts_snoc o (127 + j) (127 + (j : Int)) (by omega)]; exact HO1.out, HB1.out, HP'.out, by omega⟩
              case measure => simp only [sliceLen_mk]; omega
          · have hz' : zc 128 r = j := by rw [HZ.out, List.drop_of_length_le (by rw [HL.out]; omega), zc_nil]; omega
            have HZ' := Lib.hid hz'
            clear hz'
            rw [HZ'.out] at HP' hzz hzl hzn
            by_cases hcj : c0 = j
            · subst hcj
              obtain rfl : n0 = c0 := by omega
              go_wp2_with (at_builtin; refine wpList_app _ rfl (.tmp 27) (.tmp 31) elemB rfl w.heap.size rfl (HO.out.alloc _) _ rfl (Seg.one wr _ _) (one_u8 _) (by unfold maxLen; omega) (by omega) (by simp; omega) ?_; intro A2 c2 w1 hown1 hg1 hat1; have HO1 := Lib.hid hown1; have HB1 := Lib.hid (below_app (HB.out.alloc sz _) (Nat.le_refl _) (by simp; omega) (HO.out.alloc _) hg1); have HS1 := Lib.hid (HS.out.below (((Below.refl B wr).alloc (Nat.le_trans hB sz) _).grown hg1 (by simp; omega) (fun k hk => Nat.le_trans hB (HO.out.lt k hk).1))); clear hown1 hg1 hat1)
              go_roundw
              case rel => exact ⟨r.drop n0, o ++ [127 + n0], _, 0, 0, A2, m + 1, c2, rfl, rfl, by rw [bts_drop]; exact HS1.out.over, by omega, by omega, by rw [bts_snoc o (127 + n0) (127 + (n0 : Int)) (by omega)]; exact HO1.out, HB1.out, HP'.out, by omega⟩
              case measure => simp only [sliceLen_mk]; omega
            · skip
              go_wp2_with (at_builtin; refine wpList_app _ rfl (.tmp 27) (.tmp 31) elemB rfl w.heap.size rfl (HO.out.alloc _) _ rfl (Seg.one wr _ _) (one_u8 _) (by unfold maxLen; omega) (by omega) (by simp; omega) ?_; intro A2 c2 w1 hown1 hg1 hat1; have HO1 := Lib.hid hown1; have HB1 := Lib.hid (below_app (HB.out.alloc sz _) (Nat.le_refl _) (by simp; omega) (HO.out.alloc _) hg1); have HS1 := Lib.hid (HS.out.below (((Below.refl B wr).alloc (Nat.le_trans hB sz) _).grown hg1 (by simp; omega) (fun k hk => Nat.le_trans hB (HO.out.lt k hk).1))); clear hown1 hg1 hat1)
              go_roundw
              case rel => exact ⟨r.drop j, o ++ [127 + j], _, n0 - j, c0 - j, A2, m + 1, c2, rfl, rfl, by rw [bts_drop]; (have := HS1.out.suffix_ (k := j) (cap := c0) (by omega) hnc0; rw [if_neg hcj] at this; exact this), by omega, by omega, by rw [bts_snoc o (127 + j) (127 + (j : Int)) (by omega)]; exact HO1.out, HB1.out, HP'.out, by omega⟩
              case measure => simp only [sliceLen_mk]; omega
      · have ct : two r = false := by simpa using ct
        have hpos := pos_of HNE.out ct
        have hpl := pc_le 128 r
        have hpn := pc_len 128 r
        rw [HL.out] at hpn
        have hpk' : pk l = (o ++ [pc 128 r - 1] ++ r.take (pc 128 r)) ++ pk (r.drop (pc 128 r)) := by
          rw [HP.out]
          conv => lhs; rw [pk_plain _ HNE.out ct]
          simp
        have HP' := Lib.hid hpk'
        clear hpk'
        rw [ct] at HC0
        clear ct
        go_wp2_with (go_at_call 56; refine (HC0.out).mono ?_; rintro e w' ⟨rfl, rfl⟩)
        go_loop [4] (fun t => ∃ j : Nat, j ≤ 128 ∧ j ≤ n0 ∧ t = .int .i64 j ∧ pc 128 r = j + pc (128 - j) (r.drop j)) (fun t => 128 - (intOf t).toNat)
        case atStart => exact ⟨0, by omega, by omega, rfl, by simp⟩
        case round =>
          obtain ⟨j, hj, hjn, rfl, hz⟩ := hrel
          have HZ := Lib.hid hz
          clear hz
          by_cases c1 : j < n0
          · by_cases c2 : j < 128
            · have hct := two_any (w := wr) c0 HS.out j (by omega) (by omega)
              by_cases ct : two (r.drop j) = true
              · have hz' : pc 128 r = j := by rw [HZ.out, pc_two _ _ ct]; omega
                rw [ct] at hct
                have HCT := Lib.hid hct
                clear hct ct
                go_wp2_with (go_at_call 56; refine (HCT.out).mono ?_; rintro e w' ⟨rfl, rfl⟩)
                have hcj : ¬ c0 = j := by omega
                have HZ' := Lib.hid hz'
                clear hz'
                rw [HZ'.out] at HP' hpos hpl hpn
                have hjc : j ≤ c0 := by omega
                have hjc' : (j : Int) ≤ (c0 : Int) := by omega
                have hc00 : ¬ c0 = 0 := by omega
                have e1 : IntKind.i64.wrap ((j : Int) - 1) = (j : Int) - 1 := IntWalk.i64_in _ (by omega)
                have e2 : IntKind.u8.wrap ((j : Int) - 1) = (j : Int) - 1 := IntWalk.u8_in _ (by omega)
                go_wp2
                have OWN0 := Lib.hid (HO.out.alloc (.cells #[.int .u8 ((j : Int) - 1)] 5)).drew
                have SEG0 := Lib.hid (Seg.one wr (.int .u8 ((j : Int) - 1)) 5).drew
                have BEL0 := Lib.hid (HB.out.alloc sz (.cells #[.int .u8 ((j : Int) - 1)] 5)).drew
                have SZ0 := Lib.hid BEL0.out.size
                have L0 : Hid (m + 1 ≤ maxLen) := by show m + 1 ≤ maxLen; unfold maxLen; omega
                have L1 : Hid ((m + 1) * 1 ≤ 140737488355328) := by show (m + 1) * 1 ≤ 140737488355328; omega
                have L2 : Hid (m + 1 + j ≤ maxLen) := by show m + 1 + j ≤ maxLen; unfold maxLen; omega
                have L3 : Hid ((m + 1 + j) * 1 ≤ 140737488355328) := by show (m + 1 + j) * 1 ≤ 140737488355328; omega
                have OB : Hid (∀ k, blk A1 = some k → B ≤ k) := fun k hk => Nat.le_trans hB (HO.out.lt k hk).1
                have NB : Hid (Below B wr (wr.alloc (.cells #[.int .u8 ((j : Int) - 1)] 5)).drew) := ((Below.refl B wr).alloc (Nat.le_trans hB sz) _).drew
                have SB : Hid (B ≤ (wr.alloc (.cells #[.int .u8 ((j : Int) - 1)] 5)).drew.heap.size) := Nat.le_trans hB SZ0.out
                go_region_law (first
                  | (refine step_app (wr.alloc (.cells #[.int .u8 ((j : Int) - 1)] 5)).drew rfl (.tmp 49) (.tmp 53) elemB rfl w.heap.size (A := A1) (n := m) (c := ca) (by simp [Act.eval]) OWN0.out (wr.heap.size + 1) (A2 := some ⟨wr.heap.size, 0, none⟩) (m := 1) (c2 := 1) (by simp [Act.eval]) SEG0.out (one_u8 _) L0.out L1.out SZ0.out ?_; intro A2 c2 w1 hown1 hg1 hat1; have HO1 := Lib.hid hown1; have HB1 := Lib.hid (below_app BEL0.out (Nat.le_refl _) SZ0.out OWN0.out hg1); have HS1 := Lib.hid (HS.out.below (NB.out.grown hg1 SB.out OB.out)); clear hown1 hg1 hat1)
                  | (refine step_app w1 rfl (.tmp 54) (.tmp 57) elemB rfl w.heap.size (A := A2) (n := m + 1) (c := c2) (by simp [Act.eval]) HO1.out B (A2 := A0) (m := j) (c2 := c0) (by simp [Act.eval]) (HS1.out.prefix_ hjn) (fun u hu => bts_one r u (List.mem_of_mem_take hu)) L2.out L3.out HB1.out.size ?_; intro A3 c3 w2 hown2 hg2 hat2; have HO2 := Lib.hid hown2; have HB2 := Lib.hid (below_app HB1.out (Nat.le_refl _) HB1.out.size HO1.out hg2); have HS2 := Lib.hid (HS1.out.below ((Below.refl B w1).grown hg2 (Nat.le_trans hB HB1.out.size) (fun k hk => Nat.le_trans hB (HO1.out.lt k hk).1))); clear hown2 hg2 hat2))
                all_goals
                  go_wp2
                  go_roundw
                  case rel => exact ⟨r.drop j, o ++ [j - 1] ++ r.take j, _, n0 - j, c0 - j, A3, m + 1 + j, c3, rfl, rfl, by rw [bts_drop]; (have := HS2.out.suffix_ (k := j) (cap := c0) (by omega) hnc0; rw [if_neg hcj] at this; exact this), by omega, by omega, by rw [bts_app, bts_snoc o (j - 1) ((j : Int) - 1) (by omega), bts_take]; exact HO2.out, HB2.out, HP'.out, by omega⟩
                  case measure => simp only [sliceLen_mk]; omega
              · have ct : two (r.drop j) = false := by simpa using ct
                have hz' : pc 128 r = (j + 1) + pc (128 - (j + 1)) (r.drop (j + 1)) := by
                  rw [HZ.out, show 128 - j = (128 - (j + 1)) + 1 from by omega, pc_hit _ _ _ (by rw [HL.out]; exact c1) ct]; omega
                have HZ' := Lib.hid hz'
                rw [ct] at hct
                have HCT := Lib.hid hct
                clear hct ct hz'
                go_wp2_with (go_at_call 56; refine (HCT.out).mono ?_; rintro e w' ⟨rfl, rfl⟩)
                go_round
                case rel => exact ⟨j + 1, by omega, by omega, by go_num, HZ'.out⟩
                case measure => simp [intOf]; omega
            · have hz' : pc 128 r = j := by rw [HZ.out, show 128 - j = 0 from by omega]; unfold pc; omega
              have hcj : ¬ c0 = j := by omega
              have HZ' := Lib.hid hz'
              clear hz'
              rw [HZ'.out] at HP' hpos hpl hpn
              have hjc : j ≤ c0 := by omega
              have hjc' : (j : Int) ≤ (c0 : Int) := by omega
              have hc00 : ¬ c0 = 0 := by omega
              have e1 : IntKind.i64.wrap ((j : Int) - 1) = (j : Int) - 1 := IntWalk.i64_in _ (by omega)
              have e2 : IntKind.u8.wrap ((j : Int) - 1) = (j : Int) - 1 := IntWalk.u8_in _ (by omega)
              go_wp2
              have OWN0 := Lib.hid (HO.out.alloc (.cells #[.int .u8 ((j : Int) - 1)] 5)).drew
              have SEG0 := Lib.hid (Seg.one wr (.int .u8 ((j : Int) - 1)) 5).drew
              have BEL0 := Lib.hid (HB.out.alloc sz (.cells #[.int .u8 ((j : Int) - 1)] 5)).drew
              have SZ0 := Lib.hid BEL0.out.size
              have L0 : Hid (m + 1 ≤ maxLen) := by show m + 1 ≤ maxLen; unfold maxLen; omega
              have L1 : Hid ((m + 1) * 1 ≤ 140737488355328) := by show (m + 1) * 1 ≤ 140737488355328; omega
              have L2 : Hid (m + 1 + j ≤ maxLen) := by show m + 1 + j ≤ maxLen; unfold maxLen; omega
              have L3 : Hid ((m + 1 + j) * 1 ≤ 140737488355328) := by show (m + 1 + j) * 1 ≤ 140737488355328; omega
              have OB : Hid (∀ k, blk A1 = some k → B ≤ k) := fun k hk => Nat.le_trans hB (HO.out.lt k hk).1
              have NB : Hid (Below B wr (wr.alloc (.cells #[.int .u8 ((j : Int) - 1)] 5)).drew) := ((Below.refl B wr).alloc (Nat.le_trans hB sz) _).drew
              have SB : Hid (B ≤ (wr.alloc (.cells #[.int .u8 ((j : Int) - 1)] 5)).drew.heap.size) := Nat.le_trans hB SZ0.out
              go_region_law (first
                | (refine step_app (wr.alloc (.cells #[.int .u8 ((j : Int) - 1)] 5)).drew rfl (.tmp 49) (.tmp 53) elemB rfl w.heap.size (A := A1) (n := m) (c := ca) (by simp [Act.eval]) OWN0.out (wr.heap.size + 1) (A2 := some ⟨wr.heap.size, 0, none⟩) (m := 1) (c2 := 1) (by simp [Act.eval]) SEG0.out (one_u8 _) L0.out L1.out SZ0.out ?_; intro A2 c2 w1 hown1 hg1 hat1; have HO1 := Lib.hid hown1; have HB1 := Lib.hid (below_app BEL0.out (Nat.le_refl _) SZ0.out OWN0.out hg1); have HS1 := Lib.hid (HS.out.below (NB.out.grown hg1 SB.out OB.out)); clear hown1 hg1 hat1)
                | (refine step_app w1 rfl (.tmp 54) (.tmp 57) elemB rfl w.heap.size (A := A2) (n := m + 1) (c := c2) (by simp [Act.eval]) HO1.out B (A2 := A0) (m := j) (c2 := c0) (by simp [Act.eval]) (HS1.out.prefix_ hjn) (fun u hu => bts_one r u (List.mem_of_mem_take hu)) L2.out L3.out HB1.out.size ?_; intro A3 c3 w2 hown2 hg2 hat2; have HO2 := Lib.hid hown2; have HB2 := Lib.hid (below_app HB1.out (Nat.le_refl _) HB1.out.size HO1.out hg2); have HS2 := Lib.hid (HS1.out.below ((Below.refl B w1).grown hg2 (Nat.le_trans hB HB1.out.size) (fun k hk => Nat.le_trans hB (HO1.out.lt k hk).1))); clear hown2 hg2 hat2))
              all_goals
                go_wp2
                go_roundw
                case rel => exact ⟨r.drop j, o ++ [j - 1] ++ r.take j, _, n0 - j, c0 - j, A3, m + 1 + j, c3, rfl, rfl, by rw [bts_drop]; (have := HS2.out.suffix_ (k := j) (cap := c0) (by omega) hnc0; rw [if_neg hcj] at this; exact this), by omega, by omega, by rw [bts_app, bts_snoc o (j - 1) ((j : Int) - 1) (by omega), bts_take]; exact HO2.out, HB2.out, HP'.out, by omega⟩
                case measure => simp only [sliceLen_mk]; omega
          · have hz' : pc 128 r = j := by rw [HZ.out, List.drop_of_length_le (by rw [HL.out]; omega), pc_nil]; omega
            by_cases hcj : c0 = j
            · subst hcj
              obtain rfl : n0 = c0 := by omega
              have HZ' := Lib.hid hz'
              clear hz'
              rw [HZ'.out] at HP' hpos hpl hpn
              have hjc : n0 ≤ n0 := by omega
              have hjc' : (n0 : Int) ≤ (n0 : Int) := by omega
              have hc00 : ¬ n0 = 0 := by omega
              have e1 : IntKind.i64.wrap ((n0 : Int) - 1) = (n0 : Int) - 1 := IntWalk.i64_in _ (by omega)
              have e2 : IntKind.u8.wrap ((n0 : Int) - 1) = (n0 : Int) - 1 := IntWalk.u8_in _ (by omega)
              go_wp2
              have OWN0 := Lib.hid (HO.out.alloc (.cells #[.int .u8 ((n0 : Int) - 1)] 5)).drew
              have SEG0 := Lib.hid (Seg.one wr (.int .u8 ((n0 : Int) - 1)) 5).drew
              have BEL0 := Lib.hid (HB.out.alloc sz (.cells #[.int .u8 ((n0 : Int) - 1)] 5)).drew
              have SZ0 := Lib.hid BEL0.out.size
              have L0 : Hid (m + 1 ≤ maxLen) := by show m + 1 ≤ maxLen; unfold maxLen; omega
              have L1 : Hid ((m + 1) * 1 ≤ 140737488355328) := by show (m + 1) * 1 ≤ 140737488355328; omega
              have L2 : Hid (m + 1 + n0 ≤ maxLen) := by show m + 1 + n0 ≤ maxLen; unfold maxLen; omega
              have L3 : Hid ((m + 1 + n0) * 1 ≤ 140737488355328) := by show (m + 1 + n0) * 1 ≤ 140737488355328; omega
              have OB : Hid (∀ k, blk A1 = some k → B ≤ k) := fun k hk => Nat.le_trans hB (HO.out.lt k hk).1
              have NB : Hid (Below B wr (wr.alloc (.cells #[.int .u8 ((n0 : Int) - 1)] 5)).drew) := ((Below.refl B wr).alloc (Nat.le_trans hB sz) _).drew
              have SB : Hid (B ≤ (wr.alloc (.cells #[.int .u8 ((n0 : Int) - 1)] 5)).drew.heap.size) := Nat.le_trans hB SZ0.out
              go_region_law (first
                | (refine step_app (wr.alloc (.cells #[.int .u8 ((n0 : Int) - 1)] 5)).drew rfl (.tmp 49) (.tmp 53) elemB rfl w.heap.size (A := A1) (n := m) (c := ca) (by simp [Act.eval]) OWN0.out (wr.heap.size + 1) (A2 := some ⟨wr.heap.size, 0, none⟩) (m := 1) (c2 := 1) (by simp [Act.eval]) SEG0.out (one_u8 _) L0.out L1.out SZ0.out ?_; intro A2 c2 w1 hown1 hg1 hat1; have HO1 := Lib.hid hown1; have HB1 := Lib.hid (below_app BEL0.out (Nat.le_refl _) SZ0.out OWN0.out hg1); have HS1 := Lib.hid (HS.out.below (NB.out.grown hg1 SB.out OB.out)); clear hown1 hg1 hat1)
                | (refine step_app w1 rfl (.tmp 54) (.tmp 57) elemB rfl w.heap.size (A := A2) (n := m + 1) (c := c2) (by simp [Act.eval]) HO1.out B (A2 := A0) (m := n0) (c2 := n0) (by simp [Act.eval]) (HS1.out.prefix_ (Nat.le_refl _)) (fun u hu => bts_one r u (List.mem_of_mem_take hu)) L2.out L3.out HB1.out.size ?_; intro A3 c3 w2 hown2 hg2 hat2; have HO2 := Lib.hid hown2; have HB2 := Lib.hid (below_app HB1.out (Nat.le_refl _) HB1.out.size HO1.out hg2); have HS2 := Lib.hid (HS1.out.below ((Below.refl B w1).grown hg2 (Nat.le_trans hB HB1.out.size) (fun k hk => Nat.le_trans hB (HO1.out.lt k hk).1))); clear hown2 hg2 hat2))
              all_goals
                go_wp2
                go_roundw
                case rel => exact ⟨r.drop n0, o ++ [n0 - 1] ++ r.take n0, _, 0, 0, A3, m + 1 + n0, c3, rfl, rfl, by rw [bts_drop]; exact HS2.out.over, by omega, by omega, by rw [bts_app, bts_snoc o (n0 - 1) ((n0 : Int) - 1) (by omega), bts_take]; exact HO2.out, HB2.out, HP'.out, by omega⟩
                case measure => simp only [sliceLen_mk]; omega
            · skip
              have HZ' := Lib.hid hz'
              clear hz'
              rw [HZ'.out] at HP' hpos hpl hpn
              have hjc : j ≤ c0 := by omega
              have hjc' : (j : Int) ≤ (c0 : Int) := by omega
              have hc00 : ¬ c0 = 0 := by omega
              have e1 : IntKind.i64.wrap ((j : Int) - 1) = (j : Int) - 1 := IntWalk.i64_in _ (by omega)
              have e2 : IntKind.u8.wrap ((j : Int) - 1) = (j : Int) - 1 := IntWalk.u8_in _ (by omega)
              go_wp2
              have OWN0 := Lib.hid (HO.out.alloc (.cells #[.int .u8 ((j : Int) - 1)] 5)).drew
              have SEG0 := Lib.hid (Seg.one wr (.int .u8 ((j : Int) - 1)) 5).drew
              have BEL0 := Lib.hid (HB.out.alloc sz (.cells #[.int .u8 ((j : Int) - 1)] 5)).drew
              have SZ0 := Lib.hid BEL0.out.size
              have L0 : Hid (m + 1 ≤ maxLen) := by show m + 1 ≤ maxLen; unfold maxLen; omega
              have L1 : Hid ((m + 1) * 1 ≤ 140737488355328) := by show (m + 1) * 1 ≤ 140737488355328; omega
              have L2 : Hid (m + 1 + j ≤ maxLen) := by show m + 1 + j ≤ maxLen; unfold maxLen; omega
              have L3 : Hid ((m + 1 + j) * 1 ≤ 140737488355328) := by show (m + 1 + j) * 1 ≤ 140737488355328; omega
              have OB : Hid (∀ k, blk A1 = some k → B ≤ k) := fun k hk => Nat.le_trans hB (HO.out.lt k hk).1
              have NB : Hid (Below B wr (wr.alloc (.cells #[.int .u8 ((j : Int) - 1)] 5)).drew) := ((Below.refl B wr).alloc (Nat.le_trans hB sz) _).drew
              have SB : Hid (B ≤ (wr.alloc (.cells #[.int .u8 ((j : Int) - 1)] 5)).drew.heap.size) := Nat.le_trans hB SZ0.out
              go_region_law (first
                | (refine step_app (wr.alloc (.cells #[.int .u8 ((j : Int) - 1)] 5)).drew rfl (.tmp 49) (.tmp 53) elemB rfl w.heap.size (A := A1) (n := m) (c := ca) (by simp [Act.eval]) OWN0.out (wr.heap.size + 1) (A2 := some ⟨wr.heap.size, 0, none⟩) (m := 1) (c2 := 1) (by simp [Act.eval]) SEG0.out (one_u8 _) L0.out L1.out SZ0.out ?_; intro A2 c2 w1 hown1 hg1 hat1; have HO1 := Lib.hid hown1; have HB1 := Lib.hid (below_app BEL0.out (Nat.le_refl _) SZ0.out OWN0.out hg1); have HS1 := Lib.hid (HS.out.below (NB.out.grown hg1 SB.out OB.out)); clear hown1 hg1 hat1)
                | (refine step_app w1 rfl (.tmp 54) (.tmp 57) elemB rfl w.heap.size (A := A2) (n := m + 1) (c := c2) (by simp [Act.eval]) HO1.out B (A2 := A0) (m := j) (c2 := c0) (by simp [Act.eval]) (HS1.out.prefix_ hjn) (fun u hu => bts_one r u (List.mem_of_mem_take hu)) L2.out L3.out HB1.out.size ?_; intro A3 c3 w2 hown2 hg2 hat2; have HO2 := Lib.hid hown2; have HB2 := Lib.hid (below_app HB1.out (Nat.le_refl _) HB1.out.size HO1.out hg2); have HS2 := Lib.hid (HS1.out.below ((Below.refl B w1).grown hg2 (Nat.le_trans hB HB1.out.size) (fun k hk => Nat.le_trans hB (HO1.out.lt k hk).1))); clear hown2 hg2 hat2))
              all_goals
                go_wp2
                go_roundw
                case rel => exact ⟨r.drop j, o ++ [j - 1] ++ r.take j, _, n0 - j, c0 - j, A3, m + 1 + j, c3, rfl, rfl, by rw [bts_drop]; (have := HS2.out.suffix_ (k := j) (cap := c0) (by omega) hnc0; rw [if_neg hcj] at this; exact this), by omega, by omega, by rw [bts_app, bts_snoc o (j - 1) ((j : Int) - 1) (by omega), bts_take]; exact HO2.out, HB2.out, HP'.out, by omega⟩
                case measure => simp only [sliceLen_mk]; omega
    · have hr : r = [] := List.eq_nil_of_length_eq_zero (by rw [HL.out]; omega)
      have hpk' : pk l = o := by rw [HP.out, hr, pk_nil, List.append_nil]
      have hm' : m = (pk l).length := by rw [hpk', ← bts_len]; exact HO.out.len.symm
      clear hr
      go_wp2
      go_ret
      exact ⟨A1, ca, by rw [← hm']; rfl, by rw [← hm', hpk']; exact HO.out, HB.out⟩
end Go.Proofs.Ytigebiknlodghaa.rle
