/-
  The walk of the law DeltaApply.
-/
import Derived.Test.YtaagfmaboggbhaaDeltaOfL
import Derived.Test.YtaagfmaboggbhaaOpen
import Derived.Deep.SlicePairs
namespace Go.Proofs.Ytaagfmaboggbhaa.delta
open Go.RowKit Go.ChangeShapes Go.WideShapes Go.ChangeAt Go.Deep
set_option linter.unusedVariables false

theorem lay_one (p : List Nat) (i x : Nat) (h : i < p.length) : lay p i [x] = p.set i x := by
  unfold lay
  apply List.ext_getElem?
  intro k
  simp only [List.length_singleton]
  rw [List.getElem?_set]
  by_cases h1 : k < i
  · rw [if_neg (by omega), List.append_assoc, List.getElem?_append_left (by rw [List.length_take]; omega), List.getElem?_take, if_pos h1]
  · by_cases h2 : i = k
    · subst h2
      rw [if_pos rfl, if_pos h, List.append_assoc, List.getElem?_append_right (by rw [List.length_take]; omega)]
      simp [Nat.min_eq_left (Nat.le_of_lt h)]
    · rw [if_neg h2, List.getElem?_append_right (by simp; omega), List.getElem?_drop]
      congr 1
      simp
      omega
theorem lay_set (o : List Nat) (s : Nat) (d : List Nat) {j : Nat} (h : s + d.length ≤ o.length) (hj : j < d.length) : (lay o s (d.take j)).set (s + j) d[j] = lay o s (d.take (j + 1)) := by
  have e1 : (d.take j).length = j := by rw [List.length_take]; omega
  rw [List.take_succ_eq_append_getElem hj, lay_ext o s (d.take j) d[j] (by omega), e1, lay_one]
  rw [lay_len _ _ _ (by omega)]; omega

set_option maxRecDepth 100000 in
/-- An argument of type []delta.Edit. -/
theorem open_edits {H : Type} {enc : TypeId × Value → H} {W : World} {base b0 : Nat} {spare : Nat → Bool} {held : Bool} {v : Value} {d : DataW H} {p : List MemPlace}
    (h : DataW.Trod enc Try.prog W base spare held 33 v d p) (k : Value.okWide Try.prog W .any b0 33 v) :
    ∃ A n c L, v = .slice A n c ∧ n ≤ c ∧ c ≤ maxLen ∧ EdSeg W W.heap.size A n L := by
  obtain ⟨A, n, c, rfl⟩ := okWide_slice Try.underlying33 k
  obtain ⟨fuel, hf⟩ := h
  rcases open_slice_pairs Try.underlying33 Try.underlying43 (by kernel_rfl) rfl rfl (by kernel_rfl) (by kernel_rfl) hf with ⟨hcs, _⟩ | ⟨a, len, cap, m, f, V0, V1, D0, D1, P0, P1, hcs, _, hl, hm, hmm, _, hx⟩
  · simp [Value.cells] at hcs
    obtain ⟨rfl, rfl, rfl⟩ := hcs
    exact ⟨_, _, _, [], rfl, Nat.le_refl _, Nat.zero_le _, EdSeg.nil _ _ _⟩
  · simp [Value.cells] at hcs
    obtain ⟨rfl, rfl, rfl⟩ := hcs
    have hlm : n ≤ m := by rw [hmm]; split <;> omega
    have hz : ∀ i, i < n → ∃ z : Ed, V0 i = .int .i64 z.pos ∧ V1 i = z.x.val ∧ PcOk W W.heap.size z.x := fun i hi => by
      obtain ⟨_, _, h0, h1⟩ := hx i (by omega)
      obtain ⟨q, e0, _, _⟩ := DataW.trod_int Try.underlying3 h0
      simp only [List.cons.injEq, and_true] at e0
      obtain ⟨x, e1, hs, hb, hn, hc⟩ := open_piece Try.underlying22 Try.underlying5 (by kernel_rfl) h1
      exact ⟨⟨q, x⟩, e0, e1, hs, hb, hn, hc⟩
    let f : Nat → Ed := fun i => if h : i < n then (hz i h).choose else ⟨0, ⟨none, 0, 0, []⟩⟩
    have hg : ∀ i, i < n → V0 i = .int .i64 (f i).pos ∧ V1 i = (f i).x.val ∧ PcOk W W.heap.size (f i).x := fun i hi => by
      have e : f i = (hz i hi).choose := by simp only [f]; rw [dif_pos hi]
      rw [e]; exact (hz i hi).choose_spec
    refine ⟨_, _, _, (List.range n).map f, rfl, hl, hm, by simp, fun hn => ?_, fun z hz => ?_⟩
    · have h0 := (hx 0 (by omega)).1
      have hsp : a.spot = none := by simpa [Addr.add] using World.cell?_spot h0
      have hlt : a.block < W.heap.size := by simpa [Addr.add] using block_lt_of_cell h0
      obtain ⟨b, off, sp⟩ := a
      obtain rfl : sp = none := hsp
      refine ⟨b, off, rfl, hlt, fun j hj => ?_⟩
      have hj : j < n := by simpa using hj
      obtain ⟨h1, h2, _, _⟩ := hx j (by omega)
      rw [addr_plain] at h1 h2
      rw [(hg j hj).1] at h1
      rw [(hg j hj).2.1] at h2
      simp only [List.getElem_map, List.getElem_range]
      exact ⟨h1, by rw [Nat.add_assoc]; exact h2⟩
    · obtain ⟨i, hi, rfl⟩ := List.mem_map.1 hz
      exact (hg i (by simpa using hi)).2.2
end Go.Proofs.Ytaagfmaboggbhaa.delta
