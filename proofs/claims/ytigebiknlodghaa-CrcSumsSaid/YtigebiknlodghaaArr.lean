/-
  Arrays of 32 bools as cells; a whole array loaded and stored.
-/
import Derived.Test.YtigebiknlodghaaMem
import Derived.Laws.Tables
namespace Go.Proofs.Ytigebiknlodghaa
open Go.RowKit
set_option linter.unusedVariables false

/-- 32 bools as cells. -/
def bArr (f : Nat → Bool) : Array Value := ((List.range 32).map fun i => Value.bool (f i)).toArray
theorem bArr_size (f : Nat → Bool) : (bArr f).size = 32 := by simp [bArr]
theorem bArr_get (f : Nat → Bool) (i : Nat) (h : i < 32) : (bArr f)[i]? = some (.bool (f i)) := by simp [bArr, h]
theorem bArr_ext {f g : Nat → Bool} (h : ∀ i, i < 32 → f i = g i) : bArr f = bArr g := by
  unfold bArr
  congr 1
  exact List.map_congr_left fun i hi => by rw [h i (by simpa using hi)]
theorem bArr_set (f : Nat → Bool) (j : Nat) (v : Bool) : (bArr f).setIfInBounds j (.bool v) = bArr fun i => if i = j then v else f i := by
  apply Array.ext_getElem?
  intro i
  rw [Array.getElem?_setIfInBounds, bArr_size]
  by_cases hi : i < 32
  · rw [bArr_get _ i hi, bArr_get _ i hi]
    by_cases e : j = i
    · subst e; simp [hi]
    · rw [if_neg e, if_neg (fun x => e x.symm)]
  · have z : ∀ g : Nat → Bool, (bArr g)[i]? = none := fun g => Array.getElem?_eq_none (by rw [bArr_size]; omega)
    rw [z, z]
    split
    · rw [if_neg (by omega)]
    · rfl
theorem bArr_one (f : Nat → Bool) : (bArr f).all (·.oneCell') = true := by
  rw [Array.all_eq_true_iff_forall_mem]
  intro v hv
  simp only [bArr, List.mem_toArray, List.mem_map, List.mem_range] at hv
  obtain ⟨i, _, rfl⟩ := hv
  rfl

section
variable {P : Program} {w : World}
theorem setRow_box {g : Nat} {t : TypeId} {old cells : Array Value} (h : Box w g t old) : Box (w.setRow g cells) g t cells := setRow_heap w g old cells t _ h
theorem setRow_grown {g : Nat} (cells : Array Value) : w.grownBy (w.setRow g cells) (some g) := ⟨rfl, rfl, rfl, by simp, fun k _ hk => setRow_other w g k _ (fun e => hk (by rw [e]))⟩
/-- A whole array stored into a block that is known whole. -/
theorem wpList_store_box {ops : Array Oper} {rest : List Oper} {o : Oper} {a : Act} {Q : Exit → Act → World → Prop} (hgd : o.guard = none) (ty : TypeId) (x y : Operand) (ho : o.op = .store ty x y)
    (g : Nat) (cells : Array Value) (hx : a.eval x = .pointer (some ⟨g, 0, none⟩)) (hy : a.eval y = .agg cells) (t : TypeId) (old : Array Value) (hg : Box w g t old)
    (hi : (P.info? ty).map (·.size) = some cells.size) (hold : old.size = cells.size) (h1 : cells.all (·.oneCell') = true)
    (h : ∀ w', Box w' g t cells → w.grownBy w' (some g) → wpList P ops Q rest (a.put o.dst undef) w') : wpList P ops Q (o :: rest) a w :=
  wpList_plain hgd fun _ hK => wp_store_row ty x y ho g cells hx hy t old hg hi hold h1 (hK _ _ (h _ (setRow_box hg) (setRow_grown cells)))
/-- A whole array loaded. -/
theorem wpList_load_box {ops : Array Oper} {rest : List Oper} {o : Oper} {a : Act} {Q : Exit → Act → World → Prop} (hgd : o.guard = none) (ty : TypeId) (x : Operand) (ho : o.op = .load ty x)
    (g : Nat) (hx : a.eval x = .pointer (some ⟨g, 0, none⟩)) (t : TypeId) (cs : Array Value) (d : TypeDesc) (hg : Box w g t cs)
    (hu : P.underlying ty = some d) (hd : (match d with | .struct _ | .array _ _ => true | _ => false) = true) (hi : (P.info? ty).map (·.size) = some cs.size)
    (h : wpList P ops Q rest (a.put o.dst (.agg cs)) w) : wpList P ops Q (o :: rest) a w :=
  wpList_load_row hgd ty x ho g hx t cs (0, 0) d hg hu hd hi h
end
end Go.Proofs.Ytigebiknlodghaa
