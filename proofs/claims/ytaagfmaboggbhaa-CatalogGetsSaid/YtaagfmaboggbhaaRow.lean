/-
  Rows of the call's own whose elements have several cells: append of one element. Over any program.
-/
import Derived.Test.YtaagfmaboggbhaaMake
namespace Go.Proofs.Ytaagfmaboggbhaa
open Go.RowKit
set_option linter.unusedVariables false

/-- The slice value '.slice A n c' owns the cells xs, s for each element: nil, or a row from block base on. -/
def OwnR (w : World) (base : Nat) (e : TypeId) (s : Nat) (A : Option Addr) (n c : Nat) (xs : List Value) : Prop := w.ownsRow base e s (.slice A n c) n xs
section
variable {w w' : World} {base n c s : Nat} {e : TypeId} {A : Option Addr} {xs : List Value}
theorem OwnR.nil (w : World) (base : Nat) (e : TypeId) (s : Nat) : OwnR w base e s none 0 0 [] := World.ownsRow_nil _ _ _ _
theorem OwnR.len (h : OwnR w base e s A n c xs) : xs.length = n * s := h.1
theorem OwnR.cap (h : OwnR w base e s A n c xs) : n ≤ c := by
  rcases h.2 with ⟨h, _⟩ | ⟨g, cap, cur, h, _, _, hc, _⟩
  · injection h with _ h1 h2; omega
  · injection h with _ _ h2; omega
theorem OwnR.max (h : OwnR w base e s A n c xs) : c ≤ maxLen := by
  rcases h.2 with ⟨h, _⟩ | ⟨g, cap, cur, h, _, _, _, hc, _⟩
  · injection h with _ h1 h2; omega
  · injection h with _ _ h2; omega
theorem OwnR.at_ (h : OwnR w base e s A n c xs) (hn : 0 < n) : ∃ g, A = some ⟨g, 0, none⟩ ∧ base ≤ g ∧ g < w.heap.size := by
  obtain ⟨g, cap, hv, hb, hl⟩ := h.form hn
  injection hv with hA
  exact ⟨g, hA, hb, hl⟩
theorem OwnR.lt (h : OwnR w base e s A n c xs) : ∀ k, blk A = some k → base ≤ k ∧ k < w.heap.size := by
  rw [← blk_own A n c]; exact World.ownsRow.lt h
theorem OwnR.kept {row : Option Nat} (h : OwnR w base e s A n c xs) (hg : w.grownBy w' row) (hne : blk A = none ∨ blk A ≠ row) : OwnR w' base e s A n c xs :=
  World.ownsRow.kept h hg (by rw [blk_own]; exact hne)
theorem OwnR.alloc (h : OwnR w base e s A n c xs) (o : Obj) : OwnR (w.alloc o) base e s A n c xs := World.ownsRow.alloc h o
theorem OwnR.drew (h : OwnR w base e s A n c xs) : OwnR w.drew base e s A n c xs := h
theorem OwnR.drewN (h : OwnR w base e s A n c xs) (k : Nat) : OwnR (w.drewN k) base e s A n c xs := h
theorem OwnR.below (h : OwnR w base e s A n c xs) (hb : Below w.heap.size w w') : OwnR w' base e s A n c xs := by
  rcases hA : blk A with _ | g
  · exact h.kept (grown_of_below hb none) (.inl hA)
  · exact h.kept (grown_of_below hb none) (.inr (by rw [hA]; simp))
theorem OwnR.cells (h : OwnR w base e s A n c xs) {g : Nat} (hA : A = some ⟨g, 0, none⟩) (j : Nat) (u : Value) (hu : xs[j]? = some u) : w.cell? ⟨g, j, none⟩ = some u := by
  subst hA
  have := World.ownsRow.cells h (g := g) rfl j u hu
  unfold Addr.add at this
  split at this
  · subst_vars; exact this
  · simpa using this
/-- A row of one-cell elements of another type is another block. -/
theorem OwnR.ne_own {base' n' c' : Nat} {e' : TypeId} {A' : Option Addr} {xs' : List Value} (h : OwnR w base e s A n c xs) (h' : Own w base' e' A' n' c' xs') (hne : e ≠ e') (h0 : 0 < n') : blk A' ≠ blk A := by
  obtain ⟨g', rfl, _, _⟩ := h'.at_ h0
  intro hA
  rcases h.2 with ⟨hv, _⟩ | ⟨g, cap, cur, hv, _, hh, _⟩
  · injection hv with hv; subst hv; cases hA
  · injection hv with hv
    subst hv
    have hgg : g' = g := by simpa [blk] using hA
    subst hgg
    rcases h'.2 with ⟨hv2, h00⟩ | ⟨g2, cap2, cur2, hv2, _, hh2, _⟩
    · omega
    · injection hv2 with hv2
      injection hv2 with hv2
      injection hv2 with hv2
      subst hv2
      rw [hh] at hh2
      injection hh2 with hh2
      injection hh2 with _ ht
      exact hne ht
theorem below_appR {a : World} {B : Nat} (hb : Below B a w) (hB : B ≤ base) (h : OwnR w base e s A n c xs) (hbase : base ≤ w.heap.size) (hg : w.grownBy w' (blk A)) : Below B a w' :=
  hb.grown hg (by omega) fun k hk => by have := (h.lt k hk).1; omega
end
/-- A slice type t whose elements e have s cells. -/
structure ElemR (P : Program) (t e : TypeId) (z : Value) (s bytes : Nat) : Prop where
  ht : P.underlying t = some (.slice e)
  hi : ∃ i, P.info? e = some i ∧ i.zero = some z ∧ i.size = s ∧ i.bytes = bytes
  hz : z.cells.size = s
  h0 : 0 < s
theorem ElemR.of {P : Program} {t e : TypeId} {z : Value} {s bytes : Nat} (ht : P.underlying t = some (.slice e)) (hi : (P.info? e).map (fun i => (i.zero, i.size, i.bytes)) = some (some z, s, bytes)) (hz : z.cells.size = s) (h0 : 0 < s) : ElemR P t e z s bytes := by
  obtain ⟨i, h1, h2, h3, h4⟩ := info_parts hi
  exact ⟨ht, ⟨i, h1, h2, h3, h4⟩, hz, h0⟩
section
variable {P : Program} (w : World)
/-- One element, out of a block of its own. -/
theorem run_appR {t e : TypeId} {z : Value} {s bytes : Nat} (S : ElemR P t e z s bytes) (ty base : Nat) {A : Option Addr} {n c : Nat} {xs : List Value} (hown : OwnR w base e s A n c xs)
    {g : Nat} (c2 : Nat) {cs : Array Value} (hb : Box w g e cs) (hcs : cs.size = s) (h1 : ∀ u ∈ cs.toList, u.oneCell' = true)
    (h63 : n + 1 ≤ maxLen) (hbytes : (n + 1) * bytes ≤ 140737488355328) (hbase : base ≤ w.heap.size) :
    ∃ A' c' w', (Builtin.append_ #[t, t] ty #[.slice A n c, .slice (some ⟨g, 0, none⟩) 1 c2]).run P w = .ok (.slice A' (n + 1) c') w' ∧ OwnR w' base e s A' (n + 1) c' (xs ++ cs.toList) ∧ w.grownBy w' (blk A) ∧ (blk A' = blk A ∨ blk A' = some w.heap.size) := by
  obtain ⟨i, hi, hz, hs, hby⟩ := S.hi
  obtain ⟨g', cap, w', hrun, ho, hg, hat, _⟩ := run_append_lies (P := P) w t ty base e i z s bytes S.ht hi hz hs hby S.hz S.h0 _ n xs hown ⟨g, 0, none⟩ 1 c2 cs.toList (by simp [hcs]) (fun j u hu => by
    have h2 : w.cell? ⟨g, j, none⟩ = some u := by rw [hb.cell j]; simpa using hu
    unfold Addr.add
    split
    · subst_vars; exact h2
    · simpa using h2) h1 (by omega) h63 hbytes hbase w.heap.size rfl
  refine ⟨_, _, w', hrun, ho, by rw [← blk_own A n c]; exact hg, ?_⟩
  rw [blk_own] at hat
  rcases hat with h | h
  · exact .inl h.symm
  · exact .inr (by rw [h]; rfl)
theorem wpList_appR {ops : Array Oper} {rest : List Oper} {o : Oper} {a : Act} {Q : Exit → Act → World → Prop} (hgd : o.guard = none) (p q : Operand) {t e : TypeId} {z : Value} {s bytes : Nat} (S : ElemR P t e z s bytes)
    (ho : o.op = .call { callee := .builtin .append, args := #[p, q], argTypes := #[t, t] }) (base : Nat) {A : Option Addr} {n c : Nat} {xs : List Value} (hp : a.eval p = .slice A n c) (hown : OwnR w base e s A n c xs)
    {g c2 : Nat} {cs : Array Value} (hq : a.eval q = .slice (some ⟨g, 0, none⟩) 1 c2) (hb : Box w g e cs) (hcs : cs.size = s) (h1 : ∀ u ∈ cs.toList, u.oneCell' = true)
    (h63 : n + 1 ≤ maxLen) (hbytes : (n + 1) * bytes ≤ 140737488355328) (hbase : base ≤ w.heap.size)
    (h : ∀ A' c' w', OwnR w' base e s A' (n + 1) c' (xs ++ cs.toList) → w.grownBy w' (blk A) → (blk A' = blk A ∨ blk A' = some w.heap.size) → wpList P ops Q rest (a.put o.dst (.slice A' (n + 1) c')) w') : wpList P ops Q (o :: rest) a w :=
  wpList_plain hgd fun K hK => by
    obtain ⟨A', c', w', hr, h2, h3, h4⟩ := run_appR (P := P) w S o.type base hown c2 hb hcs h1 h63 hbytes hbase
    unfold Oper.wp execOp
    simp only [ho, resolve, invoke, builtin, Sem.run_bind, Sem.run_pure, Result.andThen_ok, List.map_toArray, List.map_cons, List.map_nil, hp, hq, hr]
    exact hK _ _ (h A' c' w' h2 h3 h4)
end
end Go.Proofs.Ytaagfmaboggbhaa
