/-
  Arguments that are slices, out of their readings: one-cell elements of whatever type; slices of slices of bytes. Over any program.
-/
import Derived.Test.YtaagfmaboggbhaaMem
import Derived.Deep.Slices
namespace Go.Proofs.Ytaagfmaboggbhaa
open Go.RowKit Go.ChangeShapes Go.WideShapes Go.ChangeAt Go.Deep
set_option linter.unusedVariables false

section
variable {P : Program} {H : Type} {enc : TypeId × Value → H} {W : World} {base : Nat} {spare : Nat → Bool} {held : Bool}
theorem addr_plain {b off : Nat} (j : Nat) : (⟨b, off, none⟩ : Addr).add j = ⟨b, off + j, none⟩ := by unfold Addr.add; split <;> simp_all
/-- A slice of one-cell elements: each element's cell and its own reading. -/
theorem open_elems {t e : TypeId} (ht : P.underlying t = some (.slice e)) (hC : P.cellsOf e = 1) {fuel : Nat} {cs : List Value} {x : DataW H × List MemPlace}
    (h : DataW.trod enc P W base spare held fuel t cs = some x) :
    ∃ A n c, ∃ V : Nat → Value, ∃ m : Nat, cs = [.slice A n c] ∧ n ≤ c ∧ c ≤ maxLen ∧ Seg W W.heap.size A n ((List.range n).map V) ∧ ∀ i, i < n → ∃ y, DataW.trod enc P W base spare held m e [V i] = some y := by
  rcases open_slice1 ht hC h with ⟨rfl, _⟩ | ⟨a, len, cap, m, n, V, D, Pl, rfl, _, hl, hm, hmm, _, hi⟩
  · exact ⟨none, 0, 0, fun _ => .nilIface, 0, rfl, Nat.le_refl _, Nat.zero_le _, Seg.empty _, fun i hi => by omega⟩
  · have hlm : len ≤ m := by rw [hmm]; split <;> omega
    refine ⟨some a, len, cap, V, n, rfl, hl, hm, ⟨by simp, fun hn => ?_⟩, fun i him => ⟨_, (hi i (by omega)).2⟩⟩
    have h0 := (hi 0 (by omega)).1
    have hsp : a.spot = none := by simpa [Addr.add] using World.cell?_spot h0
    have hlt : a.block < W.heap.size := by simpa [Addr.add] using block_lt_of_cell h0
    obtain ⟨b, off, sp⟩ := a
    obtain rfl : sp = none := hsp
    refine ⟨b, off, rfl, hlt, fun j u hu => ?_⟩
    have hj : j < len := by
      rcases Nat.lt_or_ge j len with h | h
      · exact h
      · rw [List.getElem?_eq_none (by simp; omega)] at hu; cases hu
    have hc := (hi j (by omega)).1
    rw [addr_plain] at hc
    rw [hc]
    simpa [hj] using hu
/-- A slice of bytes, out of its cell. -/
theorem open_piece {t e : TypeId} (ht : P.underlying t = some (.slice e)) (he : P.underlying e = some (.int .u8)) (hC : P.cellsOf e = 1) {fuel : Nat} {v : Value} {y : DataW H × List MemPlace}
    (h : DataW.trod enc P W base spare held fuel t [v] = some y) : ∃ x : Piece, v = x.val ∧ Seg W W.heap.size x.A x.n (bts x.l) ∧ IsB x.l ∧ x.n ≤ x.c ∧ x.c ≤ maxLen := by
  obtain ⟨A, n, c, V, m, hv, hnc, hc, hs, hi⟩ := open_elems ht hC h
  simp only [List.cons.injEq, and_true] at hv
  have hz : ∀ i, i < n → ∃ z : Nat, z < 256 ∧ V i = .int .u8 (z : Int) := fun i hin => by
    obtain ⟨y, hy⟩ := hi i hin
    obtain ⟨z, e1, _, w1⟩ := DataW.trod_int he hy
    simp only [List.cons.injEq, and_true] at e1
    have := u8_bd w1
    exact ⟨z.toNat, by omega, by rw [e1, Int.toNat_of_nonneg this.1]⟩
  let f : Nat → Nat := fun i => match V i with | .int _ q => q.toNat | _ => 0
  have hf : ∀ i, i < n → f i < 256 ∧ V i = .int .u8 ((f i : Nat) : Int) := fun i hin => by
    obtain ⟨z, hz, e⟩ := hz i hin
    have : f i = z := by simp only [f, e]; simp
    rw [this]; exact ⟨hz, e⟩
  refine ⟨⟨A, n, c, (List.range n).map f⟩, hv, ?_, fun c hc => ?_, hnc, hc⟩
  · have e : (List.range n).map V = bts ((List.range n).map f) := by
      unfold bts
      rw [List.map_map]
      exact List.map_congr_left fun i hi => (hf i (by simpa using hi)).2
    show Seg W W.heap.size A n (bts ((List.range n).map f))
    rw [← e]; exact hs
  · obtain ⟨i, hi, rfl⟩ := List.mem_map.1 hc
    exact (hf i (by simpa using hi)).1
/-- A slice of slices of bytes. -/
theorem open_pieces {t s e : TypeId} (ht : P.underlying t = some (.slice s)) (hs : P.underlying s = some (.slice e)) (he : P.underlying e = some (.int .u8)) (hCs : P.cellsOf s = 1) (hC : P.cellsOf e = 1)
    {b0 : Nat} {v : Value} {d : DataW H} {p : List MemPlace} (h : DataW.Trod enc P W base spare held t v d p) (k : Value.okWide P W .any b0 t v) :
    ∃ A n c, ∃ L : List Piece, v = .slice A n c ∧ n ≤ c ∧ c ≤ maxLen ∧ Pieces W W.heap.size A n L := by
  obtain ⟨A, n, c, rfl⟩ := okWide_slice ht k
  obtain ⟨fuel, hf⟩ := h
  obtain ⟨A', n', c', V, m, hv, hnc, hc, hseg, hi⟩ := open_elems ht hCs hf
  simp only [Value.cells, List.cons.injEq, and_true, Value.slice.injEq] at hv
  obtain ⟨rfl, rfl, rfl⟩ := hv
  have hp : ∀ i, i < n → ∃ x : Piece, V i = x.val ∧ Seg W W.heap.size x.A x.n (bts x.l) ∧ IsB x.l ∧ x.n ≤ x.c ∧ x.c ≤ maxLen := fun i hin => by
    obtain ⟨y, hy⟩ := hi i hin
    exact open_piece hs he hC hy
  let g : Nat → Piece := fun i => if h : i < n then (hp i h).choose else ⟨none, 0, 0, []⟩
  have hg : ∀ i, i < n → V i = (g i).val ∧ Seg W W.heap.size (g i).A (g i).n (bts (g i).l) ∧ IsB (g i).l ∧ (g i).n ≤ (g i).c ∧ (g i).c ≤ maxLen := fun i hin => by
    have e : g i = (hp i hin).choose := by simp only [g]; rw [dif_pos hin]
    rw [e]; exact (hp i hin).choose_spec
  refine ⟨A, n, c, (List.range n).map g, rfl, hnc, hc, ?_, fun x hx => ?_⟩
  · have e : (List.range n).map V = ((List.range n).map g).map Piece.val := by
      rw [List.map_map]
      exact List.map_congr_left fun i hi => (hg i (by simpa using hi)).1
    rw [← e]; exact hseg
  · obtain ⟨i, hi, rfl⟩ := List.mem_map.1 hx
    exact (hg i (by simpa using hi)).2
end
end Go.Proofs.Ytaagfmaboggbhaa
