/-
  The walks of the bitmap's methods: in, Has, Len, Bytes, New.
-/
import Derived.Test.YtaagfmaboggbhaaMake
import Derived.Test.YtaagfmaboggbhaaBytes
import Derived.Test.YtaagfmaboggbhaaBitPlain
import Derived.WalkLawsBesides
import Derived.Laws.BitsAllLaws
import Derived.Laws.BitsLemmas
import Derived.Outline
namespace Go.Proofs.Ytaagfmaboggbhaa.bit
open Go.RowKit
set_option linter.unusedVariables false

theorem ofInt_i64 (a : Nat) (ha : a < 9223372036854775808) : (BitVec.ofInt 64 (a : Int)).toNat = a := by
  rw [BitVec.ofInt_natCast, BitVec.toNat_ofNat]; exact Nat.mod_eq_of_lt (by omega)
theorem and7 (i : Nat) (h : i < 9223372036854775808) : bits .and .i64 (i : Int) 7 = ((i % 8 : Nat) : Int) := by
  show IntKind.i64.wrap ((BitVec.ofInt 64 (i : Int) &&& BitVec.ofInt 64 ((7 : Nat) : Int)).toNat : Int) = _
  rw [BitVec.toNat_and, ofInt_i64 i h, ofInt_i64 7 (by decide), Nat.and_two_pow_sub_one_eq_mod i 3, IntKind.wrap_i64]
  omega

theorem castdiv (x r : Nat) : (x : Int) / 2 ^ r = ((x / 2 ^ r : Nat) : Int) := by simp
theorem beq1 (k : Nat) : ((k : Int) == 1) = (k == 1) := by
  by_cases h : k = 1
  · subst h; rfl
  · rw [beq_eq_false_iff_ne.2 h, beq_eq_false_iff_ne.2 (by omega)]
theorem test_and (l : List Nat) (i x : Nat) (hx : x < 256) (hl : i / 8 < l.length) (e : l[i / 8] = x) : (bits .and .u8 ((x : Int) / 2 ^ (i % 8)) 1 == 1) = bitAt l i := by
  have h1 : x / 2 ^ (i % 8) < 256 := Nat.lt_of_le_of_lt (Nat.div_le_self _ _) hx
  have h2 := u8_and_nat (x / 2 ^ (i % 8)) 1 h1 (by decide)
  rw [nat_mask1] at h2
  rw [castdiv]
  rw [show bits .and .u8 ((x / 2 ^ (i % 8) : Nat) : Int) 1 = ((x / 2 ^ (i % 8) % 2 : Nat) : Int) from h2, beq1]
  unfold bitAt
  rw [List.getD_eq_getElem?_getD, List.getElem?_eq_getElem hl, e]
  rfl
theorem test_mod (l : List Nat) (i x : Nat) (hl : i / 8 < l.length) (e : l[i / 8] = x) : ((x : Int) / 2 ^ (i % 8) % 2 == 1) = bitAt l i := by
  rw [castdiv, show ((x / 2 ^ (i % 8) : Nat) : Int) % 2 = ((x / 2 ^ (i % 8) % 2 : Nat) : Int) by omega, beq1]
  unfold bitAt
  rw [List.getD_eq_getElem?_getD, List.getElem?_eq_getElem hl, e]
  rfl

/-- A map behind a pointer, of n blocks with bytes l. -/
structure IsMap (w : World) (g r n : Nat) (l : List Nat) : Prop where
  box : Box w g 78 #[.slice (some ⟨r, 0, none⟩) l.length l.length, .int .i64 (n : Int)]
  row : Box w r 5 (bts l).toArray
  isB : IsB l
  len : l.length = (n + 7) / 8
  max : n ≤ 4096
theorem row_seg {w : World} {r : Nat} {l : List Nat} (h : Box w r 5 (bts l).toArray) : Seg w (r + 1) (some ⟨r, 0, none⟩) l.length (bts l) := by
  have := Seg.block (w := w) (B := r + 1) h (by omega)
  simpa [bts_len] using this
section
variable {w w' : World} {g r n : Nat} {l : List Nat}
theorem IsMap.seg (h : IsMap w g r n l) : Seg w (r + 1) (some ⟨r, 0, none⟩) l.length (bts l) := row_seg h.row
theorem IsMap.ne (h : IsMap w g r n l) : g ≠ r := by
  rintro rfl
  have h1 := h.box
  have h2 := h.row
  unfold Box at h1 h2
  rw [h1] at h2
  injection h2 with h2
  injection h2 with _ h3
  exact absurd h3 (by decide)
theorem IsMap.below (h : IsMap w g r n l) (hb : Below w.heap.size w w') : IsMap w' g r n l := ⟨h.box.below hb h.box.lt, h.row.below hb h.row.lt, h.isB, h.len, h.max⟩
theorem IsMap.drewN (h : IsMap w g r n l) (k : Nat) : IsMap (w.drewN k) g r n l := ⟨h.box, h.row, h.isB, h.len, h.max⟩
theorem IsMap.drew (h : IsMap w g r n l) : IsMap w.drew g r n l := ⟨h.box, h.row, h.isB, h.len, h.max⟩
theorem IsMap.alloc (h : IsMap w g r n l) (o : Obj) : IsMap (w.alloc o) g r n l := ⟨h.box.alloc o, h.row.alloc o, h.isB, h.len, h.max⟩
end

theorem in_yes {w : World} {g : Nat} {s : Value} (n i : Nat) (h : Box w g 78 #[s, .int .i64 (n : Int)]) (hi : i < n) (hn : n ≤ 4096) :
    Calls Try.prog 46 #[.pointer (some ⟨g, 0, none⟩), .int .i64 (i : Int)] w fun e w' => e = .returned (.bool true) ∧ w = w' := by
  have h1 : w.cell? ⟨g, 1, none⟩ = some (.int .i64 (n : Int)) := (h.cell 1).trans rfl
  clear h
  go_enter Try.func46, Try.ntmps46
  go_wp2
  go_ret
  exact ⟨rfl, rfl⟩
theorem in_no {w : World} {g : Nat} {s : Value} (n : Nat) (i : Int) (h : Box w g 78 #[s, .int .i64 (n : Int)]) (hi : i < 0 ∨ (n : Int) ≤ i) (hn : n ≤ 4096) :
    Calls Try.prog 46 #[.pointer (some ⟨g, 0, none⟩), .int .i64 i] w fun e w' => e = .returned (.bool false) ∧ w = w' := by
  have h1 : w.cell? ⟨g, 1, none⟩ = some (.int .i64 (n : Int)) := (h.cell 1).trans rfl
  clear h
  by_cases c1 : i < 0
  · go_enter Try.func46, Try.ntmps46
    go_wp2
    go_ret
    exact ⟨rfl, rfl⟩
  · have c2 : (n : Int) ≤ i := by omega
    have c3 : decide (i < (n : Int)) = false := by simpa using c2
    clear hi
    go_enter Try.func46, Try.ntmps46
    go_wp2
    go_ret
    exact ⟨rfl, rfl⟩

theorem len_any {w : World} {g : Nat} {s : Value} (n : Nat) (h : Box w g 78 #[s, .int .i64 (n : Int)]) :
    Calls Try.prog 14 #[.pointer (some ⟨g, 0, none⟩)] w fun e w' => e = .returned (.int .i64 (n : Int)) ∧ w = w' := by
  have h1 : w.cell? ⟨g, 1, none⟩ = some (.int .i64 (n : Int)) := (h.cell 1).trans rfl
  clear h
  go_enter Try.func14, Try.ntmps14
  go_wp2
  go_ret
  exact ⟨rfl, rfl⟩

set_option maxHeartbeats 400000 in
theorem has_in {w : World} {g r n : Nat} {l : List Nat} (h : IsMap w g r n l) (i : Nat) (hi : i < n) :
    Calls Try.prog 13 #[.pointer (some ⟨g, 0, none⟩), .int .i64 (i : Int)] w fun e w' => e = .returned (.bool (bitAt l i)) ∧ w = w' := by
  have hm := h.len
  have hmax := h.max
  have hI := in_yes n i h.box hi h.max
  obtain ⟨b, off, hl, he, hb, hcell⟩ := h.seg.byte (k := i / 8) (by omega)
  injection he with he
  injection he with e1 e2
  subst e1 e2
  have h0 : w.cell? ⟨g, 0, none⟩ = some (.slice (some ⟨r, 0, none⟩) l.length l.length) := (h.box.cell 0).trans rfl
  have hbyte := h.isB.at_ hl
  have a7 := and7 i (by omega)
  have h8 : i / 8 < l.length := by omega
  have ht := Lib.hid (test_and l i _ hbyte hl rfl)
  generalize l[i / 8] = x at *
  rw [Nat.zero_add] at hcell
  have hm' : l.length ≤ 1000 := by omega
  clear hm h
  generalize l.length = m at *
  go_enter Try.func13, Try.ntmps13
  go_wp2_with (go_at_call 46; refine hI.mono ?_; rintro e w' ⟨rfl, rfl⟩)
  go_ret
  exact ⟨by rw [← ht.out]; rfl, rfl⟩
theorem has_out {w : World} {g r n : Nat} {l : List Nat} (h : IsMap w g r n l) (i : Int) (hi : i < 0 ∨ (n : Int) ≤ i) :
    Calls Try.prog 13 #[.pointer (some ⟨g, 0, none⟩), .int .i64 i] w fun e w' => e = .returned (.bool false) ∧ w = w' := by
  have hI := in_no n i h.box hi h.max
  clear h hi
  go_enter Try.func13, Try.ntmps13
  go_wp2_with (go_at_call 46; refine hI.mono ?_; rintro e w' ⟨rfl, rfl⟩)
  go_ret
  exact ⟨rfl, rfl⟩

/-- Bytes: a copy. -/
theorem bytes_any {w : World} {g r n : Nat} {l : List Nat} (h : IsMap w g r n l) :
    Calls Try.prog 16 #[.pointer (some ⟨g, 0, none⟩)] w fun e w' => ∃ A' c', e = .returned (.slice A' l.length c') ∧ Own w' w.heap.size 5 A' l.length c' (bts l) ∧ Below w.heap.size w w' := by
  have hm := h.len
  have hmax := h.max
  have hseg := h.seg
  have h0 : w.cell? ⟨g, 0, none⟩ = some (.slice (some ⟨r, 0, none⟩) l.length l.length) := (h.box.cell 0).trans rfl
  have hm' : l.length ≤ 1000 := by omega
  clear h hm
  generalize hml : l.length = m at *
  have HML := Lib.hid hml
  clear hml
  go_enter Try.func16, Try.ntmps16
  go_wp2_with ((at_builtin; refine wpList_app _ rfl (.const (.slice none 0 0)) (.tmp 6) elemB rfl w.heap.size rfl (Own.nil _ _ _) (r + 1) rfl hseg (bts_one _) (by unfold maxLen; omega) (by omega) (Nat.le_refl _) ?_; intro A1 c1 w1 hown hg hat; simp only [Nat.zero_add, List.nil_append] at hown; have HO := Lib.hid hown; have HB := Lib.hid (below_app (Below.refl _ _) (Nat.le_refl _) (Nat.le_refl _) (Own.nil w w.heap.size 5) hg); clear hown hg hat))
  go_ret
  exact ⟨A1, c1, by first | rfl | (simp; done), HO.out, HB.out⟩

/-- New. -/
theorem new_bad (i : Int) (hi : i < 0 ∨ 4096 < i) (w : World) :
    Calls Try.prog 32 #[.int .i64 i] w fun e w' => e = .returned (.tuple #[.pointer none, .int .i64 10]) ∧ w = w' := by
  by_cases c1 : i < 0
  · clear hi
    go_enter Try.func32, Try.ntmps32
    go_wp2
    go_ret2
    exact ⟨rfl, rfl⟩
  · have c2 : 4096 < i := by omega
    clear hi
    go_enter Try.func32, Try.ntmps32
    go_wp2
    go_ret2
    exact ⟨rfl, rfl⟩
theorem made_bts (m : Nat) : made (.int .u8 0) m = (bts (List.replicate m 0)).toArray := by
  apply Array.ext'
  rw [made_bytes]
theorem new_ok (n : Nat) (hn : n ≤ 4096) (w : World) :
    Calls Try.prog 32 #[.int .i64 (n : Int)] w fun e w' => ∃ g r, e = .returned (.tuple #[.pointer (some ⟨g, 0, none⟩), .int .i64 0]) ∧ IsMap w' g r n (List.replicate ((n + 7) / 8) 0) ∧ w.heap.size ≤ g ∧ w.heap.size ≤ r ∧ Below w.heap.size w w' := by
  obtain ⟨m, hm⟩ : ∃ m, m = (n + 7) / 8 := ⟨_, rfl⟩
  have hmk := fun W => run_mk elemB rfl m (by omega) (by omega) W
  have e1 : ((n : Int) + 7) / 8 = (m : Int) := by omega
  rw [← hm]
  have HM := Lib.hid hm
  clear hm
  go_enter Try.func32, Try.ntmps32
  go_wp2
  go_ret2
  refine ⟨w.heap.size + 1, w.heap.size, by simp, ⟨?_, ?_, IsB.rep _, by rw [List.length_replicate]; exact HM.out, hn⟩, by omega, by omega, ?_⟩
  · have := Box.new (w.alloc (.cells (made (.int .u8 0) m) 5)) #[.slice (some ⟨w.heap.size, 0, none⟩) m m, .int .i64 (n : Int)] 78
    simpa using this
  · rw [← made_bts]; exact (Box.new w (made (.int .u8 0) m) 5).alloc _
  · exact ((Below.refl _ _).alloc (Nat.le_refl _) _).alloc (by simp) _
end Go.Proofs.Ytaagfmaboggbhaa.bit
