/-
  The walk of the law BitmapPlays.
-/
import Derived.Test.YtaagfmaboggbhaaBitTold
import Derived.Test.YtaagfmaboggbhaaOpen
import Derived.Deep.SlicePairs
namespace Go.Proofs.Ytaagfmaboggbhaa.bit
open Go.RowKit Go.ChangeShapes Go.WideShapes Go.ChangeAt Go.Deep
set_option linter.unusedVariables false

set_option maxRecDepth 100000 in
set_option maxHeartbeats 800000 in
theorem set_new2 {w : World} {g r n : Nat} {l : List Nat} (h : IsMap w g r n l) (i : Nat) (hi : i < n) (hb0 : bitAt l i = false) :
    Calls Try.prog 34 #[.pointer (some ⟨g, 0, none⟩), .int .i64 (i : Int)] w fun e w' => e = .returned (.bool true) ∧ IsMap w' g r n (setB l i) ∧ w.grownBy w' (some r) ∧ ∀ B a, B ≤ r → Below B a w → Below B a w' := by
  have hm := h.len
  have hmax := h.max
  have hI := Lib.hid (fun W (hW : IsMap W g r n l) => in_yes n i hW.box hi hW.max)
  have hH := Lib.hid (fun W (hW : IsMap W g r n l) => has_in hW i hi)
  rw [hb0] at hH
  have HI := Lib.hid h
  have HB0 := Lib.hid hb0
  go_enter Try.func34, Try.ntmps34
  go_wp2_with (first
    | (go_at_call 46; refine (hI.out _ HI.out).mono ?_; rintro e w' ⟨rfl, rfl⟩)
    | (go_at_call 13; refine (hH.out _ HI.out).mono ?_; rintro e w' ⟨rfl, rfl⟩))
  obtain ⟨b, off, hl, he, hb, hcell⟩ := h.seg.byte (k := i / 8) (by omega)
  injection he with he
  injection he with e1 e2
  subst e1 e2
  have h0 : w.cell? ⟨g, 0, none⟩ = some (.slice (some ⟨r, 0, none⟩) l.length l.length) := (h.box.cell 0).trans rfl
  have hbyte := h.isB.at_ hl
  have a7 := and7 i (by omega)
  have h8 : i / 8 < l.length := by omega
  rw [Nat.zero_add] at hcell
  have hfr : w.frozen? ⟨r, i / 8, none⟩ = false := h.row.frozen _
  have hx : l.getD (i / 8) 0 = l[i / 8] := by rw [List.getD_eq_getElem?_getD, List.getElem?_eq_getElem hl]; rfl
  have hor := or_bit l[i / 8] i hbyte (by
    unfold bitAt at hb0
    rw [hx] at hb0
    have := beq_eq_false_iff_ne.1 hb0
    omega)
  have HOR := Lib.hid hor
  have HX := Lib.hid hx
  have b1 : (0 : Int) ≤ (i : Int) / 8 := by omega
  have b2 : (i : Int) / 8 < (l.length : Int) := by omega
  have b3 : ((i : Int) / 8).toNat = i / 8 := by omega
  clear hor hx hm h hb0
  go_still_tail 13, (by kernel_rfl)
  change wpList _ _ _ _ _ w.drew
  rw [HOR.out]
  go_wp2_with fail
  go_ret
  have hlt : l[i / 8] + 2 ^ (i % 8) < 256 := by
    have h1 := HB0.out
    unfold bitAt at h1
    rw [HX.out] at h1
    have := beq_eq_false_iff_ne.1 h1
    exact (set_bits (i % 8) (Nat.mod_lt _ (by decide)) _ hbyte (by omega)).2.1
  refine ⟨rfl, ?_, ⟨rfl, rfl, rfl, by simp, fun k _ hk => Below.heap_setCell _ _ _ k (fun e => hk (congrArg some e))⟩, fun B a hB hb => below_store hB hb⟩
  have := (HI.out.stored (i / 8) (l[i / 8] + 2 ^ (i % 8)) hlt (((l[i / 8] : Nat) : Int) + 2 ^ (i % 8)) (by simp)).drew
  unfold setB
  rw [HX.out]
  exact this


/-- A slice of calls that can be read. -/
structure PSeg (w : World) (B : Nat) (A : Option Addr) (n : Nat) (P : List (Int × Int)) : Prop where
  len : P.length = n
  cells : 0 < n → ∃ b off, A = some ⟨b, off, none⟩ ∧ b < B ∧ ∀ (j : Nat) (h : j < P.length), w.cell? ⟨b, off + j * 2, none⟩ = some (.int .i64 P[j].1) ∧ w.cell? ⟨b, off + j * 2 + 1, none⟩ = some (.int .i64 P[j].2)
  bd : ∀ p ∈ P, -9223372036854775808 ≤ p.2 ∧ p.2 ≤ 9223372036854775807
theorem PSeg.at_ {w w' : World} {B n : Nat} {A : Option Addr} {P : List (Int × Int)} (h : PSeg w B A n P) (hb : Below B w w') {k : Nat} (hk : k < n) : ∃ b off, ∃ hl : k < P.length, A = some ⟨b, off, none⟩ ∧ b < B ∧ w'.cell? ⟨b, off + k * 2, none⟩ = some (.int .i64 P[k].1) ∧ w'.cell? ⟨b, off + k * 2 + 1, none⟩ = some (.int .i64 P[k].2) ∧ -9223372036854775808 ≤ P[k].2 ∧ P[k].2 ≤ 9223372036854775807 := by
  obtain ⟨b, off, e, hlt, hc⟩ := h.cells (by omega)
  have hl : k < P.length := by rw [h.len]; exact hk
  exact ⟨b, off, hl, e, hlt, (hb.cell (p := ⟨b, _, none⟩) hlt).trans (hc k hl).1, (hb.cell (p := ⟨b, _, none⟩) hlt).trans (hc k hl).2, h.bd _ (List.getElem_mem hl)⟩

set_option maxRecDepth 100000 in
theorem open_ops {H : Type} {enc : TypeId × Value → H} {W : World} {base b0 : Nat} {spare : Nat → Bool} {held : Bool} {v : Value} {d : DataW H} {p : List MemPlace}
    (h : DataW.Trod enc Try.prog W base spare held 55 v d p) (k : Value.okWide Try.prog W .any b0 55 v) :
    ∃ A n c P, v = .slice A n c ∧ n ≤ c ∧ c ≤ maxLen ∧ PSeg W W.heap.size A n P := by
  obtain ⟨A, n, c, rfl⟩ := okWide_slice Try.underlying55 k
  obtain ⟨fuel, hf⟩ := h
  rcases open_slice_pairs Try.underlying55 Try.underlying59 (by kernel_rfl) rfl rfl (by kernel_rfl) (by kernel_rfl) hf with ⟨hcs, _⟩ | ⟨a, len, cap, m, f, V0, V1, D0, D1, P0, P1, hcs, _, hl, hm, hmm, _, hx⟩
  · simp [Value.cells] at hcs
    obtain ⟨rfl, rfl, rfl⟩ := hcs
    exact ⟨_, _, _, [], rfl, Nat.le_refl _, Nat.zero_le _, rfl, fun h => absurd h (Nat.lt_irrefl 0), fun _ h => by cases h⟩
  · simp [Value.cells] at hcs
    obtain ⟨rfl, rfl, rfl⟩ := hcs
    have hlm : n ≤ m := by rw [hmm]; split <;> omega
    have hz : ∀ i, i < n → ∃ z : Int × Int, V0 i = .int .i64 z.1 ∧ V1 i = .int .i64 z.2 ∧ -9223372036854775808 ≤ z.2 ∧ z.2 ≤ 9223372036854775807 := fun i hi => by
      obtain ⟨_, _, h0, h1⟩ := hx i (by omega)
      obtain ⟨q, e0, _, _⟩ := DataW.trod_int Try.underlying3 h0
      obtain ⟨q', e1, _, w1⟩ := DataW.trod_int Try.underlying3 h1
      simp only [List.cons.injEq, and_true] at e0 e1
      exact ⟨(q, q'), e0, e1, (i64_bd w1).1, (i64_bd w1).2⟩
    let f : Nat → Int × Int := fun i => if h : i < n then (hz i h).choose else (0, 0)
    have hg : ∀ i, i < n → V0 i = .int .i64 (f i).1 ∧ V1 i = .int .i64 (f i).2 ∧ -9223372036854775808 ≤ (f i).2 ∧ (f i).2 ≤ 9223372036854775807 := fun i hi => by
      have e : f i = (hz i hi).choose := by simp only [f]; rw [dif_pos hi]
      rw [e]; exact (hz i hi).choose_spec
    refine ⟨_, _, _, (List.range n).map f, rfl, hl, hm, by simp, fun hn => ?_, fun z hz => ?_⟩
    · have h0 := (hx 0 (by omega)).1
      have hsp : a.spot = none := by simpa [Addr.add] using World.cell?_spot h0
      have hlt : a.block < W.heap.size := by simpa [Addr.add] using block_lt_of_cell h0
      obtain ⟨b, off, sp⟩ := a
      obtain rfl : sp = none := hsp
      refine ⟨b, off, rfl, hlt, fun j hj => ?_⟩
      have hj : j < n := by simpa using hj
      obtain ⟨h1, h2, _, _⟩ := hx j (by omega)
      rw [addr_plain] at h1 h2
      rw [(hg j hj).1] at h1
      rw [(hg j hj).2.1] at h2
      simp only [List.getElem_map, List.getElem_range]
      exact ⟨h1, by rw [Nat.add_assoc]; exact h2⟩
    · obtain ⟨i, hi, rfl⟩ := List.mem_map.1 hz
      exact (hg i (by simpa using hi)).2.2

theorem elemL : Elem Try.prog 57 4 (.bool false) 1 := Elem.of Try.underlying57 (by kernel_rfl) rfl

set_option maxHeartbeats 800000 in
theorem plays_none {A : Option Addr} {m c : Nat} (q : Int) (w : World) (h : q < 0 ∨ 4096 < q) :
    Calls Try.prog 8 #[.int .i64 q, .slice A m c] w fun e w' => e = .returned (.bool true) ∧ Below w.heap.size w w' := by
  have HN := Lib.hid (new_bad q h w)
  rcases h with h | h
  · go_enter Try.func8, Try.ntmps8
    go_wp2_with fail
    refine (HN.out).mono ?_
    rintro e w1 ⟨rfl, rfl⟩
    go_wp2_with fail
    refine (alive_true _).mono ?_
    rintro e w2 ⟨rfl, hb⟩
    go_wp2_with fail
    go_ret
    exact ⟨rfl, hb⟩
  · have h' : ¬ q < 0 := by omega
    go_enter Try.func8, Try.ntmps8
    go_wp2_with fail
    refine (HN.out).mono ?_
    rintro e w1 ⟨rfl, rfl⟩
    go_wp2_with fail
    refine (alive_true _).mono ?_
    rintro e w2 ⟨rfl, hb⟩
    go_wp2_with fail
    go_ret
    exact ⟨rfl, hb⟩
theorem plays_many {A : Option Addr} {m c : Nat} (n : Nat) (w : World) (hn : n ≤ 4096) (h : 70 < n ∨ (n ≤ 70 ∧ 60 < m)) :
    Calls Try.prog 8 #[.int .i64 (n : Int), .slice A m c] w fun e w' => e = .returned (.bool true) ∧ Below w.heap.size w w' := by
  have HN := Lib.hid (new_ok n hn w)
  have t1 : decide ((4096 : Int) < (n : Int)) = false := decide_eq_false (by omega)
  rcases h with h | ⟨h, h2⟩
  · have t2 : decide ((70 : Int) < (n : Int)) = true := decide_eq_true (by omega)
    go_enter Try.func8, Try.ntmps8
    go_wp2_with fail
    refine (HN.out).mono ?_
    rintro e w1 ⟨g, r, rfl, _, _, _, hb⟩
    go_wp2_with fail
    go_ret
    exact ⟨rfl, hb⟩
  · have t2 : decide ((70 : Int) < (n : Int)) = false := decide_eq_false (by omega)
    have t3 : decide ((60 : Int) < (m : Int)) = true := decide_eq_true (by omega)
    go_enter Try.func8, Try.ntmps8
    go_wp2_with fail
    refine (HN.out).mono ?_
    rintro e w1 ⟨g, r, rfl, _, _, _, hb⟩
    go_wp2_with fail
    go_ret
    exact ⟨rfl, hb⟩
end Go.Proofs.Ytaagfmaboggbhaa.bit
