/-
  The walks of the document's answer for layer 2, over arrays of 32 bools.
-/
import Derived.Test.YtigebiknlodghaaCrcPlain
import Derived.Test.YtigebiknlodghaaBytes
import Derived.Test.YtigebiknlodghaaArr
import Derived.Deep.QuietTactic
import Derived.BigQuiet
namespace Go.Proofs.Ytigebiknlodghaa.crc
open Go.RowKit
set_option linter.unusedVariables false

theorem infoA (f : Nat → Bool) : (Try.prog.info? 70).map (·.size) = some (bArr f).size := by
  rw [bArr_size]; exact (by kernel_rfl : (Try.prog.info? 70).map (·.size) = some 32)

set_option maxHeartbeats 400000 in
/-- bits. -/
theorem bits_any (n : Nat) (h : n < 4294967296) (w : World) :
    Calls Try.prog 48 #[.int .u32 (n : Int)] w fun e w' => e = .returned (.agg (bArr n.testBit)) ∧ Below w.heap.size w w' := by
  go_enter Try.func48, Try.ntmps48
  go_wp2
  go_loopw [0, 4] (fun t i wr => ∃ k : Nat, k ≤ 32 ∧ i = .int .i64 k ∧ t = .int .u32 ((n / 2 ^ k : Nat) : Int) ∧ Box wr w.heap.size 70 (bArr fun _ => false) ∧ Box wr (w.heap.size + 1) 70 (bArr fun i => if i < k then n.testBit i else false) ∧ Below w.heap.size w wr) (fun _ i _ => 32 - (intOf i).toNat)
  case atStart =>
    refine ⟨0, by omega, rfl, by simp, (Box.new w _ _).alloc _, ?_, ((Below.refl _ _).alloc (Nat.le_refl _) _).alloc (by simp) _⟩
    have := Box.new (w.alloc (.cells (bArr fun _ => false) 70)) (bArr fun _ => false) 70
    rw [World.size_alloc] at this
    exact this
  case round =>
    obtain ⟨k, hk, rfl, rfl, hx1, hx2, hbel⟩ := hrel
    by_cases hlt : k < 32
    · have hc := hx2.cell k
      rw [bArr_get _ k hlt] at hc
      have hf := hx2.frozen k
      have hb : n / 2 ^ k < 4294967296 := Nat.lt_of_le_of_lt (Nat.div_le_self _ _) h
      have e1 : (((n / 2 ^ k : Nat) : Int) % 2 == 1) = n.testBit k := by
        have : n.testBit k = decide (n / 2 ^ k % 2 = 1) := by rw [Nat.testBit_eq_decide_div_mod_eq]
        rw [this, Bool.eq_iff_iff, beq_iff_eq, decide_eq_true_eq]; omega
      have e2 : n / 2 ^ (k + 1) = (n / 2 ^ k) / 2 := by rw [Nat.pow_succ, Nat.div_div_eq_div_mul]
      have E2 := Lib.hid e2
      clear e2
      have hset := hx2.set_ k (.bool (n.testBit k))
      rw [bArr_set] at hset
      have hset1 := hx1.far (p := ⟨w.heap.size + 1, k, none⟩) (by simp) (.bool (n.testBit k))
      have hbel' := hbel.setCell (p := ⟨w.heap.size + 1, k, none⟩) (by simp) (.bool (n.testBit k))
      generalize n / 2 ^ k = m at *
      generalize hq : n.testBit k = q at *
      have HQ := Lib.hid hq
      have H1 := Lib.hid hset
      have H2 := Lib.hid hset1
      have H3 := Lib.hid hbel'
      clear hq hset hset1 hbel' hx1 hx2 hbel
      go_wp2
      go_roundw
      case rel =>
        refine ⟨k + 1, by omega, by go_num, by rw [E2.out]; rfl, H2.out, ?_, H3.out⟩
        have e : (bArr fun i => if i < k + 1 then n.testBit i else false) = bArr (fun i => if i = k then q else if i < k then n.testBit i else false) := bArr_ext fun i hi => by
          by_cases hik : i = k
          · subst hik; rw [if_pos (by omega), if_pos rfl, HQ.out]
          · rw [if_neg hik]
            by_cases hl : i < k
            · rw [if_pos (by omega), if_pos hl]
            · rw [if_neg (by omega), if_neg hl]
        rw [e]; exact H1.out
      case measure => simp [intOf]; omega
    · obtain rfl : k = 32 := by omega
      have e : (bArr fun i => if i < 32 then n.testBit i else false) = bArr n.testBit := bArr_ext fun i hi => by rw [if_pos hi]
      rw [e] at hx2
      have hu := Try.underlying70
      go_wp2_with (first
        | (with_reducible refine wpList_load_box rfl 70 (.tmp 3) rfl (w.heap.size + 1) rfl 70 _ _ hx2 hu rfl (infoA _) ?_)
        | (with_reducible refine wpList_store_box rfl 70 (.tmp 2) (.tmp 16) rfl w.heap.size _ rfl rfl 70 _ hx1 (infoA _) (by rw [bArr_size, bArr_size]) (bArr_one _) ?_; intro w1 hb1 hg1))
      refine bodyPost_ret (v := .agg (bArr n.testBit)) (results_cell_row Try.results48 _ _ w.heap.size 70 _ _ _ rfl hb1 hu rfl (infoA _)) rfl ⟨rfl, hbel.grown hg1 (Nat.le_trans (by omega) hbel.size) (fun k hk => by injection hk with hk; omega)⟩

set_option maxHeartbeats 400000 in
/-- turned. -/
theorem turned_any (f : Nat → Bool) (w : World) :
    Calls Try.prog 47 #[.agg (bArr f)] w fun e w' => e = .returned (.agg (bArr fun i => !f i)) ∧ Below w.heap.size w w' := by
  go_enter Try.func47, Try.ntmps47
  go_wp2
  go_loopw [3] (fun i wr => ∃ k : Nat, k ≤ 32 ∧ i = .int .i64 k ∧ Box wr w.heap.size 70 (bArr fun i => if i < k then !f i else f i) ∧ Box wr (w.heap.size + 1) 70 (bArr fun _ => false) ∧ Below w.heap.size w wr) (fun i _ => 32 - (intOf i).toNat)
  case atStart =>
    refine ⟨0, by omega, rfl, ?_, ?_, ((Below.refl _ _).alloc (Nat.le_refl _) _).alloc (by simp) _⟩
    · have e : (bArr fun i => if i < 0 then !f i else f i) = bArr f := bArr_ext fun i hi => by rw [if_neg (by omega)]
      rw [e]
      exact (Box.new w _ _).alloc _
    · have := Box.new (w.alloc (.cells (bArr f) 70)) (bArr fun _ => false) 70
      rw [World.size_alloc] at this
      exact this
  case round =>
    obtain ⟨k, hk, rfl, hx1, hx2, hbel⟩ := hrel
    by_cases hlt : k < 32
    · have hc := hx1.cell k
      rw [bArr_get _ k hlt, if_neg (by omega)] at hc
      have hf := hx1.frozen k
      have hset := hx1.set_ k (.bool (!f k))
      rw [bArr_set] at hset
      have hset1 := hx2.far (p := ⟨w.heap.size, k, none⟩) (by simp) (.bool (!f k))
      have hbel' := hbel.setCell (p := ⟨w.heap.size, k, none⟩) (by simp) (.bool (!f k))
      have H1 := Lib.hid hset
      have H2 := Lib.hid hset1
      have H3 := Lib.hid hbel'
      clear hset hset1 hbel' hx1 hx2 hbel
      generalize hq : f k = q at *
      have HQ := Lib.hid hq
      clear hq
      go_wp2
      go_roundw
      case rel =>
        refine ⟨k + 1, by omega, by go_num, ?_, H2.out, H3.out⟩
        have e : (bArr fun i => if i < k + 1 then !f i else f i) = bArr (fun i => if i = k then !q else if i < k then !f i else f i) := bArr_ext fun i hi => by
          by_cases hik : i = k
          · subst hik; rw [if_pos (by omega), if_pos rfl, HQ.out]
          · rw [if_neg hik]
            by_cases hl : i < k
            · rw [if_pos (by omega), if_pos hl]
            · rw [if_neg (by omega), if_neg hl]
        rw [e]; exact H1.out
      case measure => simp [intOf]; omega
    · obtain rfl : k = 32 := by omega
      have e : (bArr fun i => if i < 32 then !f i else f i) = bArr (fun i => !f i) := bArr_ext fun i hi => by rw [if_pos hi]
      rw [e] at hx1
      have hu := Try.underlying70
      go_wp2_with (first
        | (with_reducible refine wpList_load_box rfl 70 (.tmp 1) rfl w.heap.size rfl 70 _ _ hx1 hu rfl (infoA _) ?_)
        | (with_reducible refine wpList_store_box rfl 70 (.tmp 2) (.tmp 14) rfl (w.heap.size + 1) _ rfl rfl 70 _ hx2 (infoA _) (by rw [bArr_size, bArr_size]) (bArr_one _) ?_; intro w1 hb1 hg1))
      refine bodyPost_ret (v := .agg (bArr fun i => !f i)) (results_cell_row Try.results47 _ _ (w.heap.size + 1) 70 _ _ _ rfl hb1 hu rfl (infoA _)) rfl ⟨rfl, hbel.grown hg1 hbel.size (fun k hk => by injection hk with hk; omega)⟩

theorem half_up (n k : Nat) : 2 * (n / 2 ^ (k + 1)) + (if n.testBit k then 1 else 0) = n / 2 ^ k := by
  have e : n / 2 ^ (k + 1) = n / 2 ^ k / 2 := by rw [Nat.pow_succ, Nat.div_div_eq_div_mul]
  rw [e, Nat.testBit_eq_decide_div_mod_eq]
  generalize n / 2 ^ k = m
  by_cases h : m % 2 = 1
  · simp [h]; omega
  · simp [h]; omega

set_option maxHeartbeats 400000 in
/-- number. -/
theorem number_any (n : Nat) (h : n < 4294967296) (w : World) :
    Calls Try.prog 49 #[.agg (bArr n.testBit)] w fun e w' => e = .returned (.int .u32 (n : Int)) ∧ Below w.heap.size w w' := by
  go_enter Try.func49, Try.ntmps49
  go_wp2
  have hx := Box.new w (bArr n.testBit) 70
  go_loop [3, 4] (fun t i => ∃ k : Nat, k ≤ 32 ∧ i = .int .i64 ((k : Int) - 1) ∧ t = .int .u32 ((n / 2 ^ k : Nat) : Int)) (fun _ i => (intOf i + 1).toNat)
  case atStart => exact ⟨32, by omega, rfl, by rw [Nat.div_eq_of_lt (by simpa using h)]; rfl⟩
  case round =>
    obtain ⟨k, hk, rfl, rfl⟩ := hrel
    by_cases hlt : 0 < k
    · obtain ⟨j, rfl⟩ : ∃ j, k = j + 1 := ⟨k - 1, by omega⟩
      have hc := hx.cell j
      rw [bArr_get _ j (by omega)] at hc
      have e2 := half_up n j
      have hm : n / 2 ^ j < 4294967296 := Nat.lt_of_le_of_lt (Nat.div_le_self _ _) h
      have E2 := Lib.hid e2
      clear e2 hx
      have hj : (((j + 1 : Nat) : Int) - 1) = (j : Int) := by omega
      rw [hj]
      generalize n / 2 ^ (j + 1) = m at *
      generalize hmm : n / 2 ^ j = m' at *
      have HM := Lib.hid hmm
      clear hmm hj
      generalize hq : n.testBit j = q at *
      have HQ := Lib.hid hq
      clear hq
      have hmb : 2 * m + 1 < 4294967297 := by have := E2.out; revert this; cases q <;> simp <;> omega
      cases q
      · have e3 := E2.out
        simp only [Bool.false_eq_true, if_false] at e3
        have E3 := Lib.hid e3
        clear e3 E2
        have hmb' : 2 * m < 4294967296 := by have := E3.out; omega
        go_wp2
        go_round
        case rel => exact ⟨j, by omega, by go_num, by rw [HM.out, ← E3.out]; go_num⟩
        case measure => simp [intOf]
      · have e3 := E2.out
        simp only [if_true] at e3
        have E3 := Lib.hid e3
        clear e3 E2
        have hmb' : 2 * m + 1 < 4294967296 := by have := E3.out; omega
        go_wp2
        go_round
        case rel => exact ⟨j, by omega, by go_num, by rw [HM.out, ← E3.out]; go_num⟩
        case measure => simp [intOf]
    · obtain rfl : k = 0 := by omega
      go_wp2
      go_ret
      exact ⟨by simp, (Below.refl _ _).alloc (Nat.le_refl _) _⟩

theorem bits_poly (w : World) : Calls Try.prog 48 #[.int .u32 3988292384] w fun e w' => e = .returned (.agg (bArr P.testBit)) ∧ Below w.heap.size w w' := bits_any 3988292384 (by decide) w
theorem inv_bit (n : Nat) (h : n < 4294967296) : (bArr fun i => !n.testBit i) = bArr (inv n).testBit := bArr_ext fun i hi => (not_bit n h i hi).symm

set_option maxHeartbeats 400000 in
/-- The document's answer for layer 2. -/
theorem go_any (s : Nat) (hs : s < 4294967296) {B n : Nat} {A : Option Addr} (c : Nat) {l : List Nat} {w : World} (h : Seg w B A n (bts l)) (hl : IsB l) (hB : B ≤ w.heap.size) (hn : n ≤ 9223372036854775807) :
    Calls Try.prog 23 #[.int .u32 (s : Int), .slice A n c] w fun e w' => e = .returned (.int .u32 ((adds s l : Nat) : Int)) ∧ Below w.heap.size w w' := by
  have hlen : l.length = n := by rw [← bts_len]; exact h.1
  have HL := Lib.hid hlen
  clear hlen
  have HE := Lib.hid (adds_inv s l)
  have b1 := inv_lt s
  go_enter Try.func23, Try.ntmps23
  go_wp2_with fail
  refine (bits_any s hs _).mono ?_
  rintro e w1 ⟨rfl, hw1⟩
  go_wp2_with fail
  refine (turned_any _ _).mono ?_
  rintro e w2 ⟨rfl, hw2⟩
  rw [inv_bit s hs]
  generalize inv s = q at *
  have hb2 : Below w.heap.size w w2 := hw1.trans (hw2.mono hw1.size)
  have sz2 := hb2.size
  go_wp2_with (refine wpList_store_box rfl 70 (.tmp 5) (.tmp 14) rfl w2.heap.size _ rfl rfl 70 _ (Box.new w2 _ _) (infoA _) (by rw [bArr_size]; rfl) (bArr_one _) ?_; intro w3 hx3 hg3)
  have hb3 : Below w.heap.size w w3 := (hb2.alloc sz2 _).grown hg3 (by simp; omega) (fun k hk => by injection hk with hk; omega)
  clear hg3
  refine (bits_poly _).mono ?_
  rintro e w4 ⟨rfl, hw4⟩
  have hx4 := hx3.below hw4 hx3.lt
  have hb4 : Below w.heap.size w w4 := hb3.trans (hw4.mono hb3.size)
  have sz4 : w2.heap.size < w4.heap.size := hx4.lt
  go_wp2_with (refine wpList_store_box rfl 70 (.tmp 6) (.tmp 15) rfl w4.heap.size _ rfl rfl 70 _ (Box.new w4 _ _) (infoA _) (by rw [bArr_size]; rfl) (bArr_one _) ?_; intro w5 hp5 hg5)
  have hx5 := (hx4.alloc (.cells (bArr fun _ => false) 70)).grown hg5 (by simp; omega)
  have hb5 : Below w.heap.size w w5 := (hb4.alloc (by omega) _).grown hg5 (by simp; omega) (fun k hk => by injection hk with hk; omega)
  clear hg5 hw1 hw2 hb2 hx3 hb3 hw4 hx4 hb4
  generalize w2.heap.size = gs at *
  generalize w4.heap.size = gp at *
  go_loopw [7] (fun i wr => ∃ k : Nat, k ≤ n ∧ i = .int .i64 k ∧ Box wr gs 70 (bArr (turns q (l.take k)).testBit) ∧ Box wr gp 70 (bArr P.testBit) ∧ Below w.heap.size w wr) (fun i _ => n - (intOf i).toNat)
  case atStart => exact ⟨0, by omega, rfl, hx5, hp5, hb5⟩
  case round =>
    obtain ⟨k, hk, rfl, hxs, hxp, hbel⟩ := hrel
    clear hx5 hp5 hb5
    have hS : turns q (l.take k) < 4294967296 := turns_lt (hl.take k) (n := q) b1
    by_cases hlt : k < n
    · have h' := h.below (hbel.mono hB)
      obtain ⟨b, off', hlk, rfl, hbB, hcell⟩ := h'.byte hlt
      have hturn : turns q (l.take (k + 1)) = bsteps (l[k]) (turns q (l.take k)) 8 := by rw [List.take_succ_eq_append_getElem hlk, turns_snoc, turn_bsteps _ _ (hl.at_ hlk)]
      have HT := Lib.hid hturn
      have hck := hl.at_ hlk
      clear hturn
      generalize turns q (l.take k) = S at *
      generalize hd : l[k] = d at *
      have HD := Lib.hid hd
      clear hd h h'
      go_wp2_with fail
      refine (bits_any d (by omega) _).mono ?_
      rintro e w6 ⟨rfl, hw6⟩
      have hxs6 := hxs.below hw6 hxs.lt
      have hxp6 := hxp.below hw6 hxp.lt
      have hb6 : Below w.heap.size w w6 := hbel.trans (hw6.mono hbel.size)
      have sz6 := hxp6.lt
      have sz7 := hxs6.lt
      have sz8 := hb6.size
      go_wp2_with (refine wpList_store_box rfl 70 (.tmp 8) (.tmp 27) rfl w6.heap.size _ rfl rfl 70 _ (Box.new w6 _ _) (infoA _) (by rw [bArr_size]; rfl) (bArr_one _) ?_; intro w7 hc7 hg7)
      have hxs7 := (hxs6.alloc (.cells (bArr fun _ => false) 70)).grown hg7 (by simp; omega)
      have hxp7 := (hxp6.alloc (.cells (bArr fun _ => false) 70)).grown hg7 (by simp; omega)
      have hb7 : Below w.heap.size w w7 := (hb6.alloc (by omega) _).grown hg7 (by simp; omega) (fun k hk => by injection hk with hk; omega)
      clear hg7 hxs6 hxp6 hb6 hw6 hxs hxp hbel
      generalize w6.heap.size = gc at *
      go_loopw [9] (fun i wx => ∃ k : Nat, k ≤ 8 ∧ i = .int .i64 k ∧ Box wx gs 70 (bArr (bsteps d S k).testBit) ∧ Box wx gp 70 (bArr P.testBit) ∧ Box wx gc 70 (bArr d.testBit) ∧ Below w.heap.size w wx) (fun i _ => 8 - (intOf i).toNat)
      case atStart => exact ⟨0, by omega, rfl, hxs7, hxp7, hc7, hb7⟩
      case round =>
        clear hxs7 hxp7 hc7 hb7
        obtain ⟨j, hj, rfl, hxs, hxp, hxc, hbel⟩ := hrel
        have hT : bsteps d S j < 4294967296 := bsteps_lt (s := S) hS j
        by_cases hlt2 : j < 8
        · have hc0 := hxs.cell 0
          rw [bArr_get _ 0 (by omega)] at hc0
          have hcj := hxc.cell j
          rw [bArr_get _ j (by omega)] at hcj
          have hnext : bsteps d S (j + 1) = bstep (bsteps d S j) (d.testBit j) := rfl
          have HN := Lib.hid hnext
          clear hnext
          generalize bsteps d S j = T at *
          have HB := Lib.hid (bstep_bit T (d.testBit j))
          have HTop := Lib.hid (bstep_top T hT (d.testBit j))
          obtain ⟨o, ho⟩ : ∃ o, (T.testBit 0 != d.testBit j) = o := ⟨_, rfl⟩
          rw [ho] at HTop
          have HB' : Hid (∀ i, (bstep T (d.testBit j)).testBit i = (T.testBit (i + 1) != (o && P.testBit i))) := by rw [← ho]; exact HB
          clear HB
          generalize bstep T (d.testBit j) = T' at *
          have H1 := Lib.hid hxs
          have H2 := Lib.hid hxp
          have H3 := Lib.hid hxc
          have H4 := Lib.hid hbel
          clear hxs hxp hxc hbel
          generalize T.testBit 0 = x at *
          generalize d.testBit j = y at *
          have ho' : (!(x == y)) = o := by rw [← ho]; rfl
          have HO := Lib.hid ho'
          clear ho ho'
          go_wp2
          go_quiet (fail)
          go_wp2
          rw [HO.out]
          clear hc0 hcj
          go_loopw [11] (fun i wy => ∃ m : Nat, m ≤ 31 ∧ i = .int .i64 m ∧ Box wy gs 70 (bArr fun i => if i < m then T'.testBit i else T.testBit i) ∧ Box wy gp 70 (bArr P.testBit) ∧ Box wy gc 70 (bArr d.testBit) ∧ Below w.heap.size w wy) (fun i _ => 31 - (intOf i).toNat)
          case atStart =>
            refine ⟨0, by omega, rfl, ?_, H2.out, H3.out, Bdrew H4.out _⟩
            have e : (bArr fun i => if i < 0 then T'.testBit i else T.testBit i) = bArr T.testBit := bArr_ext fun i hi => by rw [if_neg (by omega)]
            rw [e]; exact H1.out
          case round =>
            clear H1 H2 H3 H4
            obtain ⟨m, hm, rfl, hxs, hxp, hxc, hbel⟩ := hrel
            by_cases hlt3 : m < 31
            · have hc1 := hxs.cell (m + 1)
              rw [bArr_get _ (m + 1) (by omega), if_neg (by omega)] at hc1
              have hc2 := hxp.cell m
              rw [bArr_get _ m (by omega)] at hc2
              have hc3 := hxs.cell m
              rw [bArr_get _ m (by omega)] at hc3
              have hf := hxs.frozen m
              have hbit := HB'.out m
              have hset := hxs.set_ m (.bool (T'.testBit m))
              rw [bArr_set] at hset
              have e : (bArr fun i => if i = m then T'.testBit m else if i < m then T'.testBit i else T.testBit i) = bArr fun i => if i < m + 1 then T'.testBit i else T.testBit i := bArr_ext fun i hi => by
                by_cases hik : i = m
                · subst hik; rw [if_pos rfl, if_pos (by omega)]
                · rw [if_neg hik]
                  by_cases hl : i < m
                  · rw [if_pos hl, if_pos (by omega)]
                  · rw [if_neg hl, if_neg (by omega)]
              rw [e] at hset
              clear e
              have hset1 := hxp.far (p := ⟨gs, m, none⟩) (by simp; omega) (.bool (T'.testBit m))
              have hset2 := hxc.far (p := ⟨gs, m, none⟩) (by simp; omega) (.bool (T'.testBit m))
              have hbel' := hbel.setCell (p := ⟨gs, m, none⟩) (by simp; omega) (.bool (T'.testBit m))
              have H1 := Lib.hid hset
              have H2 := Lib.hid hset1
              have H3 := Lib.hid hset2
              have H4 := Lib.hid hbel'
              clear hset hset1 hset2 hbel' hxs hxp hxc hbel
              rw [if_neg (by omega)] at hc3
              generalize hv : T'.testBit m = v at *
              have HV := Lib.hid hv
              have HBIT := Lib.hid hbit
              clear hv hbit
              generalize hv2 : T.testBit m = v2 at *
              clear hv2
              generalize T.testBit (m + 1) = y2 at *
              generalize P.testBit m = z2 at *
              have hcases : v = (y2 != (o && z2)) := HBIT.out
              have hlt31 : decide ((m : Int) < 31) = true := by simp; omega
              cases o <;> cases y2 <;> cases z2
              all_goals
                simp at hcases
                subst hcases
                go_wp2
                go_region
              all_goals
                go_wp2
                go_roundw
                case rel =>
                  exact ⟨m + 1, by omega, by go_num, H1.out, H2.out, H3.out, H4.out.drew⟩
                case measure => simp [intOf]; omega
            · obtain rfl : m = 31 := by omega
              have hc1 := hxs.cell 31
              rw [bArr_get _ 31 (by omega), if_neg (by omega)] at hc1
              have hc2 := hxp.cell 31
              rw [bArr_get _ 31 (by omega)] at hc2
              have hf := hxs.frozen 31
              have hset := hxs.set_ 31 (.bool (T'.testBit 31))
              rw [bArr_set] at hset
              have hset1 := hxp.far (p := ⟨gs, 31, none⟩) (by simp; omega) (.bool (T'.testBit 31))
              have hset2 := hxc.far (p := ⟨gs, 31, none⟩) (by simp; omega) (.bool (T'.testBit 31))
              have hbel' := hbel.setCell (p := ⟨gs, 31, none⟩) (by simp; omega) (.bool (T'.testBit 31))
              have e : (bArr fun i => if i = 31 then T'.testBit 31 else if i < 31 then T'.testBit i else T.testBit i) = bArr T'.testBit := bArr_ext fun i hi => by
                by_cases hik : i = 31
                · subst hik; rw [if_pos rfl]
                · rw [if_neg hik, if_pos (by omega)]
              rw [e] at hset
              have H1 := Lib.hid hset
              have H2 := Lib.hid hset1
              have H3 := Lib.hid hset2
              have H4 := Lib.hid hbel'
              clear hset hset1 hset2 hbel' hxs hxp hxc hbel e
              have htop : T'.testBit 31 = (o && P.testBit 31) := HTop.out
              generalize T'.testBit 31 = v at *
              generalize P.testBit 31 = z2 at *
              generalize T.testBit 31 = v2 at *
              cases o <;> cases z2
              all_goals
                simp at htop
                subst htop
                go_wp2
                go_roundw
                case rel => exact ⟨j + 1, by omega, by go_num, by rw [HN.out]; exact H1.out, H2.out, H3.out, H4.out⟩
                case measure => simp [intOf]; omega
        · obtain rfl : j = 8 := by omega
          rw [← HT.out] at hxs
          go_wp2
          go_roundw
          case rel => exact ⟨k + 1, by omega, by go_num, hxs, hxp, hbel⟩
          case measure => simp [intOf]; omega
    · have e3 : adds s l = inv (turns q (l.take k)) := by rw [HE.out, List.take_of_length_le (by rw [HL.out]; omega)]
      generalize turns q (l.take k) = S at *
      have E3 := Lib.hid e3
      have HI := Lib.hid (inv_bit S hS)
      clear e3
      have hu := Try.underlying70
      go_wp2_with (with_reducible refine wpList_load_box rfl 70 (.tmp 5) rfl gs rfl 70 _ _ hxs hu rfl (infoA _) ?_)
      refine (turned_any _ _).mono ?_
      rintro e w6 ⟨rfl, hw6⟩
      rw [HI.out]
      go_wp2_with fail
      refine (number_any _ (inv_lt S) _).mono ?_
      rintro e w7 ⟨rfl, hw7⟩
      go_wp2_with fail
      go_ret
      have hb6 : Below w.heap.size w w6 := hbel.trans (hw6.mono hbel.size)
      exact ⟨by rw [E3.out]; rfl, hb6.trans (hw7.mono hb6.size)⟩
end Go.Proofs.Ytigebiknlodghaa.crc
