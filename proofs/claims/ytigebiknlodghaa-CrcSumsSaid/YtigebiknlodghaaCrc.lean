/-
  The walks of package crc's functions, each by the plain words of the text CrcPlain.
-/
import Derived.Test.YtigebiknlodghaaCrcPlain
import Derived.Test.YtigebiknlodghaaBytes
import Derived.Deep.QuietTactic
import Derived.BigQuiet
namespace Go.Proofs.Ytigebiknlodghaa.crc
open Go.RowKit
set_option linter.unusedVariables false

theorem mask1 (n : Nat) (h : n < 4294967296) : bits .and .u32 (n : Int) 1 = ((n % 2 : Nat) : Int) := by
  have := u32_and_nat n 1 h (by decide)
  rw [nat_mask1] at this
  exact this
theorem xorP (n : Nat) (h : n < 4294967296) : bits .xor .u32 (n : Int) 3988292384 = ((n ^^^ P : Nat) : Int) := u32_xor_nat n P h (by decide)
theorem xorb (n c : Nat) (h : n < 4294967296) (hc : c < 256) : bits .xor .u32 (n : Int) (c : Int) = ((n ^^^ c : Nat) : Int) := u32_xor_nat n c h (by omega)

set_option maxHeartbeats 400000 in
/-- crc.turn: a byte over a state. -/
theorem turn_any (n c : Nat) (h : n < 4294967296) (hc : c < 256) (w : World) :
    Calls Try.prog 46 #[.int .u32 (n : Int), .int .u8 (c : Int)] w fun e w' => e = .returned (.int .u32 (turn n c : Nat)) ∧ w = w' := by
  have x0 := xorb n c h hc
  have b0 : (n ^^^ c) < 4294967296 := Nat.xor_lt_two_pow (n := 32) h (by omega)
  go_enter Try.func46, Try.ntmps46
  go_wp2
  go_loop [0, 9] (fun t i => ∃ k : Nat, k ≤ 8 ∧ i = .int .i64 k ∧ t = .int .u32 ((steps k (n ^^^ c) : Nat) : Int)) (fun _ i => 8 - (intOf i).toNat)
  case atStart => exact ⟨0, by omega, rfl, rfl⟩
  case round =>
    obtain ⟨k, hk, rfl, rfl⟩ := hrel
    have hb : steps k (n ^^^ c) < 4294967296 := steps_lt (n := n ^^^ c) b0 k
    have hs : steps (k + 1) (n ^^^ c) = step (steps k (n ^^^ c)) := rfl
    have HS := Lib.hid hs
    clear hs x0
    generalize hm : steps k (n ^^^ c) = m at *
    have HM := Lib.hid hm
    clear hm
    by_cases hlt : k < 8
    · have e1 := mask1 m hb
      have e2 : bits .xor .u32 ((m : Int) / 2) 3988292384 = ((m / 2 ^^^ P : Nat) : Int) := xorP (m / 2) (by omega)
      by_cases g : m % 2 = 1
      · have e3 : ((m : Int) % 2 == 1) = true := by rw [beq_iff_eq]; omega
        have r : step m = (m / 2) ^^^ P := by unfold step; rw [if_pos g]
        have R := Lib.hid r
        clear r g
        go_wp2
        go_round
        case rel => exact ⟨k + 1, by omega, by go_num, by rw [HS.out, R.out]⟩
        case measure => simp [intOf]; omega
      · have e3 : ((m : Int) % 2 == 1) = false := by rw [beq_eq_false_iff_ne]; omega
        have r : step m = m / 2 := by unfold step; rw [if_neg g]
        have R := Lib.hid r
        clear r g
        go_wp2
        go_round
        case rel => exact ⟨k + 1, by omega, by go_num, by rw [HS.out, R.out]; rfl⟩
        case measure => simp [intOf]; omega
    · go_wp2
      go_ret
      obtain rfl : k = 8 := by omega
      exact ⟨by rw [← HM.out]; rfl, rfl⟩

theorem xor_max (n : Nat) (h : n < 4294967296) : bits .xor .u32 IntKind.u32.max (n : Int) = ((inv n : Nat) : Int) := by
  rw [← xor_all n h]
  exact u32_xor_nat 4294967295 n (by decide) h
/-- (*crc.Sum).Add. -/
theorem add_any (g off s : Nat) (hs : s < 4294967296) {B n : Nat} {A : Option Addr} (c : Nat) {l : List Nat} {w : World} (hc : w.cell? ⟨g, off, none⟩ = some (.int .u32 (s : Int))) (hf : w.frozen? ⟨g, off, none⟩ = false)
    (h : Seg w B A n (bts l)) (hl : IsB l) (hn : n ≤ 9223372036854775807) :
    Calls Try.prog 20 #[.pointer (some ⟨g, off, none⟩), .slice A n c] w fun e w' => e = .returned (.tuple #[]) ∧ w.setCell ⟨g, off, none⟩ (.int .u32 ((adds s l : Nat) : Int)) = w' := by
  have hlen : l.length = n := by rw [← bts_len]; exact h.1
  have HL := Lib.hid hlen
  clear hlen
  have hsg : IntKind.u32.signed = false := rfl
  have e1 := xor_max s hs
  have b1 := inv_lt s
  have HE := Lib.hid (adds_inv s l)
  generalize inv s = q at *
  go_enter Try.func20, Try.ntmps20
  go_wp2
  go_loop [4, 14] (fun t i => ∃ k : Nat, k ≤ n ∧ i = .int .i64 k ∧ t = .int .u32 ((turns q (l.take k) : Nat) : Int)) (fun _ i => n - (intOf i).toNat)
  case atStart => exact ⟨0, by omega, rfl, rfl⟩
  case round =>
    obtain ⟨k, hk, rfl, rfl⟩ := hrel
    have hb : turns q (l.take k) < 4294967296 := turns_lt (hl.take k) (n := q) b1
    clear e1
    by_cases hlt : k < n
    · obtain ⟨b, off', hlk, rfl, hbB, hcell⟩ := h.byte hlt
      have hs : turns q (l.take (k + 1)) = turn (turns q (l.take k)) (l[k]) := by rw [List.take_succ_eq_append_getElem hlk, turns_snoc]
      have HS := Lib.hid hs
      have hck := hl.at_ hlk
      clear hs
      generalize hm : turns q (l.take k) = m at *
      have HM := Lib.hid hm
      clear hm
      generalize hd : l[k] = d at *
      have HD := Lib.hid hd
      clear hd
      go_wp2_with (go_at_call 46; refine (turn_any m d hb hck _).mono ?_; rintro e w' ⟨rfl, rfl⟩)
      go_round
      case rel => exact ⟨k + 1, by omega, by go_num, by rw [HS.out]⟩
      case measure => simp [intOf]; omega
    · have e2 := xor_max _ hb
      have e3 : adds s l = inv (turns q (l.take k)) := by rw [HE.out, List.take_of_length_le (by rw [HL.out]; omega)]
      have H3 := Lib.hid e3
      clear e3
      go_wp2
      go_end0
      exact ⟨rfl, by rw [H3.out]⟩

/-- (*crc.Sum).Value. -/
theorem value_any (g off : Nat) (s : Int) {w : World} (hc : w.cell? ⟨g, off, none⟩ = some (.int .u32 s)) :
    Calls Try.prog 21 #[.pointer (some ⟨g, off, none⟩)] w fun e w' => e = .returned (.int .u32 s) ∧ w = w' := by
  go_enter Try.func21, Try.ntmps21
  go_wp2
  go_ret
  exact ⟨rfl, rfl⟩

set_option maxHeartbeats 400000 in
/-- crc.Of: the world has one block more. -/
theorem of_any {B n : Nat} {A : Option Addr} (c : Nat) {L : List Piece} {w : World} (h : Pieces w B A n L) (hB : B ≤ w.heap.size) (hn : n ≤ 9223372036854775807) :
    Calls Try.prog 22 #[.slice A n c] w fun e w' => e = .returned (.int .u32 ((adds 0 (flat L) : Nat) : Int)) ∧ w.alloc (.cells #[.int .u32 ((adds 0 (flat L) : Nat) : Int)] 40) = w' := by
  have hlen := h.len
  have HL := Lib.hid hlen
  clear hlen
  go_enter Try.func22, Try.ntmps22
  go_wp2
  go_loopw [10] (fun i wr => ∃ k : Nat, k ≤ n ∧ i = .int .i64 k ∧ wr = w.alloc (.cells #[.int .u32 ((adds 0 (flat (L.take k)) : Nat) : Int)] 40)) (fun i _ => n - (intOf i).toNat)
  case atStart => exact ⟨0, by omega, rfl, by rw [show flat (L.take 0) = [] from rfl, adds_nil 0 (by decide)]; rfl⟩
  case round =>
    obtain ⟨k, hk, rfl, rfl⟩ := hrel
    have hb := adds_lt 0 (flat (L.take k))
    by_cases hlt : k < n
    · have h' := h.below ((Below.refl B w).alloc hB (.cells #[.int .u32 ((adds 0 (flat (L.take k)) : Nat) : Int)] 40))
      obtain ⟨b, off, hlk, rfl, hbB, hcell, hseg, hby, hcap, hmax⟩ := h'.at_ hlt
      have ha := adds_append 0 (flat (L.take k)) L[k].l (by decide) ((h.prefix_ hk).flatB)
      rw [← flat_take L hlk] at ha
      have HA := Lib.hid ha
      clear ha
      generalize adds 0 (flat (L.take k)) = m at *
      unfold maxLen at hmax
      generalize L[k] = x at *
      go_wp2_with (go_at_call 20; refine (add_any _ 0 m hb _ ((Box.new w #[.int .u32 (m : Int)] 40).cell 0) ((Box.new w _ _).frozen 0) hseg hby (by omega)).mono ?_; rintro e w' ⟨rfl, rfl⟩)
      go_roundw
      case rel => exact ⟨k + 1, by omega, by go_num, by rw [← HA.out]⟩
      case measure => simp [intOf]; omega
    · have e : L.take k = L := List.take_of_length_le (by rw [HL.out]; omega)
      rw [e] at hb ⊢
      have hx := (Box.new w #[.int .u32 ((adds 0 (flat L) : Nat) : Int)] 40).cell 0
      have hx' : (w.alloc (.cells #[.int .u32 ((adds 0 (flat L) : Nat) : Int)] 40)).cell? ⟨w.heap.size, 0, none⟩ = some (.int .u32 ((adds 0 (flat L) : Nat) : Int)) := hx
      clear hx
      go_wp2_with (go_at_call 21; refine (value_any _ 0 _ hx').mono ?_; rintro e w' ⟨rfl, rfl⟩)
      go_ret
      exact ⟨rfl, rfl⟩

/-- The same, the sum under another name. -/
theorem of_eq {B n : Nat} {A : Option Addr} (c : Nat) {L : List Piece} {w : World} (h : Pieces w B A n L) (hB : B ≤ w.heap.size) (hn : n ≤ 9223372036854775807) (s : Int) (hs : ((adds 0 (flat L) : Nat) : Int) = s) :
    Calls Try.prog 22 #[.slice A n c] w fun e w' => e = .returned (.int .u32 s) ∧ w.alloc (.cells #[.int .u32 s] 40) = w' := by
  subst hs; exact of_any c h hB hn

theorem check_sum : adds 0 [49, 50, 51, 52, 53, 54, 55, 56, 57] = 3421780262 := by decide +kernel
theorem none_sum : adds 0 [] = 0 := adds_nil 0 (by decide)

set_option maxHeartbeats 400000 in
/-- The chapter's example. -/
theorem alive_true (w : World) : Calls Try.prog 24 #[] w fun e w' => e = .returned (.bool true) ∧ Below w.heap.size w w' := by
  have q1 := Seg.lit (w := w) [49, 50, 51, 52, 53, 54, 55, 56, 57] (cs := #[.int .u8 49, .int .u8 50, .int .u8 51, .int .u8 52, .int .u8 53, .int .u8 54, .int .u8 55, .int .u8 56, .int .u8 57]) rfl 5
  have p1 := Pieces.single 37 q1 (by unfold IsB; decide) (Nat.le_refl 9) (by unfold maxLen; omega) (by simp)
  rw [World.size_alloc] at p1
  clear q1
  go_enter Try.func24, Try.ntmps24
  go_wp2_with fail
  refine (of_eq 1 p1 (by simp) (by omega) 3421780262 (by rw [flat_one]; exact congrArg Int.ofNat check_sum)).mono ?_
  rintro e w' ⟨rfl, rfl⟩
  clear p1
  go_wp2_with fail
  refine (of_eq 0 (Pieces.none_ _ 0 none) (Nat.zero_le _) (by omega) 0 (congrArg Int.ofNat none_sum)).mono ?_
  rintro e w' ⟨rfl, rfl⟩
  go_wp2_with fail
  go_ret
  exact ⟨rfl, ((((Below.refl _ _).alloc (Nat.le_refl _) _).alloc (by simp) _).alloc (by simp; omega) _).alloc (by simp; omega) _⟩

set_option maxHeartbeats 400000 in
/-- crc.Zeros. -/
theorem zeros_any (s : Nat) (hs : s < 4294967296) (n : Int) (n1 : n ≤ 300) (w : World) :
    Calls Try.prog 28 #[.int .u32 (s : Int), .int .i64 n] w fun e w' => e = .returned (.int .u32 ((adds s (List.replicate n.toNat 0) : Nat) : Int)) ∧ Below w.heap.size w w' := by
  go_enter Try.func28, Try.ntmps28
  go_wp2
  go_loopw [9] (fun i wr => ∃ k : Nat, k ≤ n.toNat ∧ i = .int .i64 k ∧ Box wr w.heap.size 40 #[.int .u32 ((adds s (List.replicate k 0) : Nat) : Int)] ∧ Below w.heap.size w wr) (fun i _ => n.toNat - (intOf i).toNat)
  case atStart => exact ⟨0, by omega, rfl, by rw [show List.replicate 0 0 = ([] : List Nat) from rfl, adds_nil s hs]; exact Box.new w _ _, (Below.refl _ _).alloc (Nat.le_refl _) _⟩
  case round =>
    obtain ⟨k, hk, rfl, hx, hbel⟩ := hrel
    have hb := adds_lt s (List.replicate k 0)
    by_cases hlt : (k : Int) < n
    · have ha := adds_append s (List.replicate k 0) [0] hs (fun c hc => by rw [List.eq_of_mem_replicate hc]; omega)
      rw [← List.replicate_succ'] at ha
      have HA := Lib.hid ha
      clear ha
      generalize adds s (List.replicate k 0) = m at *
      have hseg := Seg.one wr (.int .u8 (0 : Nat)) 5
      have hx1 := hx.alloc (.cells #[.int .u8 0] 5)
      have sz := hbel.size
      have hlt' := hx.lt
      have hcell : (wr.alloc (.cells #[.int .u8 0] 5)).cell? ⟨w.heap.size, 0, none⟩ = some (.int .u32 (m : Int)) := hx1.cell 0
      have hfr := hx1.frozen 0
      have hx2 := (hx.set_ 0 (.int .u32 ((adds m [0] : Nat) : Int))).alloc (.cells #[.int .u8 0] 5)
      have hb2 := (hbel.setCell (p := ⟨w.heap.size, 0, none⟩) (Nat.le_refl _) (.int .u32 ((adds m [0] : Nat) : Int))).alloc (by simp; omega) (.cells #[.int .u8 0] 5)
      have H1 := Lib.hid hx2
      have H2 := Lib.hid hb2
      clear hx hbel hx1 hx2 hb2
      go_wp2_with (go_at_call 20; refine (add_any _ 0 m hb 1 hcell hfr (l := [0]) hseg (by unfold IsB; decide) (by omega)).mono ?_; rintro e w' ⟨rfl, rfl⟩)
      go_roundw
      case rel => exact ⟨k + 1, by omega, by go_num, by rw [← HA.out]; exact H1.out, H2.out⟩
      case measure => simp [intOf]; omega
    · obtain rfl : k = n.toNat := by omega
      have hcell : wr.cell? ⟨w.heap.size, 0, none⟩ = some (.int .u32 ((adds s (List.replicate n.toNat 0) : Nat) : Int)) := hx.cell 0
      go_wp2
      go_ret
      exact ⟨rfl, hbel⟩
end Go.Proofs.Ytigebiknlodghaa.crc
