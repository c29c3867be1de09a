/-
  Edits in a row of the call's own.
-/
import Derived.Test.YtaagfmaboggbhaaDelta
import Derived.Test.YtaagfmaboggbhaaRow
namespace Go.Proofs.Ytaagfmaboggbhaa.delta
open Go.RowKit
set_option linter.unusedVariables false

theorem elemE : ElemR Try.prog 33 43 (.agg #[.int .i64 0, .slice none 0 0]) 2 32 := ElemR.of Try.underlying33 (by kernel_rfl) rfl (by decide)
/-- A row of edits, each with bytes of its own. -/
structure EdOwn (w : World) (base : Nat) (A : Option Addr) (n c : Nat) (L : List Ed) : Prop where
  row : OwnR w base 43 2 A n c (edCells L)
  pcs : ∀ z ∈ L, Own w base 5 z.x.A z.x.n z.x.c (bts z.x.l) ∧ IsB z.x.l ∧ 0 < z.x.n
section
variable {w w' : World} {base n c : Nat} {A : Option Addr} {L : List Ed}
theorem EdOwn.nil (w : World) (base : Nat) : EdOwn w base none 0 0 [] := ⟨OwnR.nil _ _ _ _, fun _ h => by cases h⟩
theorem EdOwn.alloc (h : EdOwn w base A n c L) (o : Obj) : EdOwn (w.alloc o) base A n c L := ⟨h.row.alloc o, fun z hz => ⟨(h.pcs z hz).1.alloc o, (h.pcs z hz).2⟩⟩
theorem EdOwn.drew (h : EdOwn w base A n c L) : EdOwn w.drew base A n c L := ⟨h.row.drew, fun z hz => ⟨(h.pcs z hz).1.drew, (h.pcs z hz).2⟩⟩
theorem EdOwn.drewN (h : EdOwn w base A n c L) (k : Nat) : EdOwn (w.drewN k) base A n c L := ⟨h.row.drewN k, fun z hz => ⟨(h.pcs z hz).1.drewN k, (h.pcs z hz).2⟩⟩
theorem EdOwn.below (h : EdOwn w base A n c L) (hb : Below w.heap.size w w') : EdOwn w' base A n c L := ⟨h.row.below hb, fun z hz => ⟨(h.pcs z hz).1.below hb, (h.pcs z hz).2⟩⟩
theorem EdOwn.len (h : EdOwn w base A n c L) : L.length = n := by have := h.row.len; rw [edCells_len] at this; omega
theorem own_pc (h : EdOwn w base A n c L) {z : Ed} (hz : z ∈ L) : PcOk w w.heap.size z.x := ⟨(h.pcs z hz).1.seg, (h.pcs z hz).2.1, (h.pcs z hz).1.cap, (h.pcs z hz).1.max⟩
theorem EdOwn.seg (h : EdOwn w base A n c L) : EdSeg w w.heap.size A n L := by
  refine ⟨h.len, fun hn => ?_, fun z hz => own_pc h hz⟩
  obtain ⟨g, hA, _, hl⟩ := h.row.at_ hn
  refine ⟨g, 0, hA, hl, fun j hj => ?_⟩
  have := edCells_at L j hj
  rw [Nat.zero_add]
  exact ⟨h.row.cells hA _ _ this.1, h.row.cells hA _ _ this.2⟩
theorem EdOwn.push (h : EdOwn w base A n c L) {pos : Int} {x : Piece} (hx : Own w base 5 x.A x.n x.c (bts x.l)) (hxb : IsB x.l) (hx0 : 0 < x.n) (hg : w.grownBy w' (blk A)) {A' : Option Addr} {c' : Nat}
    (hr : OwnR w' base 43 2 A' (n + 1) c' (edCells L ++ [.int .i64 pos, .slice x.A x.n x.c])) : EdOwn w' base A' (n + 1) c' (L ++ [⟨pos, x⟩]) := by
  have hk : ∀ y : Piece, Own w base 5 y.A y.n y.c (bts y.l) → 0 < y.n → Own w' base 5 y.A y.n y.c (bts y.l) := fun y hy h0 => hy.kept hg (.inr (h.row.ne_own hy (by decide) h0))
  refine ⟨?_, fun z hz => ?_⟩
  · rw [edCells_app]; exact hr
  · rcases List.mem_append.1 hz with hz | hz
    · exact ⟨hk _ (h.pcs z hz).1 (h.pcs z hz).2.2, (h.pcs z hz).2⟩
    · obtain rfl : z = ⟨pos, x⟩ := by simpa using hz
      exact ⟨hk _ hx hx0, hxb, hx0⟩
end
theorem es_snoc (L : List Ed) (z : Ed) : es (L ++ [z]) = es L ++ [z.e] := by simp [es]

/-- Bytes at a place of two rows: do they differ? -/
theorem df_at {a b : List Nat} {i : Nat} (h1 : i < a.length) (h2 : i < b.length) : df a b i = (a[i] != b[i]) := by
  unfold df
  rw [List.getD_eq_getElem?_getD, List.getElem?_eq_getElem h1, List.getD_eq_getElem?_getD, List.getElem?_eq_getElem h2]
  rfl
theorem castbne (x y : Nat) : ((x : Int) != (y : Int)) = (x != y) := by
  by_cases h : x = y
  · subst h; simp
  · rw [bne_iff_ne.2 h, bne_iff_ne.2 (by omega)]
theorem castbeq (x y : Nat) : ((x : Int) == (y : Int)) = !(x != y) := by
  by_cases h : x = y
  · subst h; simp
  · rw [bne_iff_ne.2 h, beq_eq_false_iff_ne.2 (by omega)]; rfl
end Go.Proofs.Ytaagfmaboggbhaa.delta
