/-
  append of so many zero elements (a make that is appended) onto a row of the call's own, over any program.
-/
import Derived.Test.YtigebiknlodghaaMake
import Derived.Lib.AppendZerosOnto
namespace Go.Proofs.Ytigebiknlodghaa
open Go.RowKit
set_option linter.unusedVariables false

theorem zc_list (z : Value) (k : Nat) : (Builtin.zeroCells #[z] k).toList = List.replicate k z := by
  apply List.ext_getElem?
  intro j
  by_cases hj : j < k
  · simp [Builtin.zeroCells, hj, Nat.mod_one]
  · simp [Builtin.zeroCells, hj]

section
variable {P : Program} (w : World)
theorem run_appz {t tn e : TypeId} {z : Value} {bytes : Nat} {kn : IntKind} (S : Elem P t e z bytes) (hzc : z.cells = #[z]) (h1z : z.oneCell' = true) (htn : P.underlying tn = some (.int kn)) (ty base : Nat)
    {A : Option Addr} {n c : Nat} {xs : List Value} (hown : Own w base e A n c xs) (kq : IntKind) (k : Nat) (h0 : 0 < k)
    (h63 : n + k ≤ maxLen) (hbytes : (n + k) * bytes ≤ 140737488355328) (hbase : base ≤ w.heap.size) :
    ∃ A' c' w', (Builtin.append_ #[t, tn] ty #[.slice A n c, .int kq (k : Int)]).run P w = .ok (.slice A' (n + k) c') w' ∧ Own w' base e A' (n + k) c' (xs ++ List.replicate k z) ∧ w.grownBy w' (blk A) ∧ (blk A' = blk A ∨ blk A' = some w.heap.size) := by
  obtain ⟨i, hi, hz, hs, hby⟩ := S.hi
  subst hby
  have h63' : n + k ≤ 9223372036854775807 := by unfold maxLen at h63; omega
  have hkb : k * i.bytes ≤ 281474976710656 := by
    have : k * i.bytes ≤ (n + k) * i.bytes := Nat.mul_le_mul_right _ (by omega)
    omega
  by_cases hroom : n + k ≤ c
  · rcases hown.2 with ⟨hv, h00⟩ | ⟨g, cap, cur, hv, hbg, hg, hnc, hcm, hcs, htake⟩
    · injection hv with hv1 hv2 hv3; omega
    · injection hv with hv1 hv2 hv3
      subst hv1 hv3
      have hw : IntKind.i64.wrap (k : Int) = k := by rw [IntKind.wrap_i64]; omega
      have hk : k ≠ 0 := by omega
      have h48i : ¬ (281474976710656 < (k : Int) * (i.bytes : Int)) := by rw [← Int.natCast_mul]; omega
      have hneg : ¬ ((k : Int) < 0) := by omega
      have hst := run_storeCells_at P g n e (List.replicate k z) 0 cur w hg (by simp; omega) (fun u hu => by rw [List.eq_of_mem_replicate hu]; exact h1z)
      simp only [Nat.add_zero] at hst
      have hzl := zc_list z k
      refine ⟨some ⟨g, 0, none⟩, c, w.setRow g (cur.toList.take n ++ List.replicate k z ++ cur.toList.drop (n + (List.replicate k z).length)).toArray, ?_, ⟨by simp [hown.len], .inr ⟨g, c, _, rfl, hbg, setRow_heap w g cur _ e _ hg, hroom, hcm, ?_, ?_⟩⟩, ⟨rfl, rfl, rfl, by simp, fun j _ hj => setRow_other w g j _ (fun e => hj (by rw [e]; rfl))⟩, .inl rfl⟩
      · simp [Builtin.append_, run_underlying S.ht, run_underlying htn, sizeOf, typeInfo, zeroValue, hi, hz, asInt, asIntOf, hw, hk, hneg, hs, h48i, hroom, Addr.add_lit, hzc, hzl, hst]
      · simp only [List.size_toArray, List.length_append, List.length_take, List.length_drop, Array.length_toList, List.length_replicate]
        omega
      · have e1 : cur.toList.take n = xs := by rw [← htake, Nat.mul_one]
        rw [e1, Nat.mul_one]
        have hl : (xs ++ List.replicate k z).length = n + k := by rw [List.length_append, hown.len, List.length_replicate]
        show List.take (n + k) (xs ++ List.replicate k z ++ _) = _
        rw [← hl]; exact List.take_left
  · have hold : (Builtin.firstCells i.size n (.slice A n c)).run P w.drew = .ok xs.toArray w.drew := by
      rcases hown.2 with ⟨hv, h00⟩ | ⟨g, cap, cur, hv, hbg, hg, hnc, hcm, hcs, htake⟩
      · injection hv with hv1 hv2 hv3
        subst hv1 h00
        obtain rfl : xs = [] := List.eq_nil_of_length_eq_zero hown.len
        simp [Builtin.firstCells]
      · injection hv with hv1 hv2 hv3
        subst hv1
        exact run_firstCells_some (P := P) w.drew i.size n ⟨g, 0, none⟩ n c xs (by rw [hown.len, hs]; omega) (fun j u hu => World.ownsRow.cells hown (g := g) rfl j u hu)
    have hr := Lib.run_append_grow_zeros (P := P) w t tn ty e i z kq kn S.ht htn hi hz A n c xs hold k h0 (by omega) (by omega) (by omega) hkb (growslice_fits (by omega) hbytes)
    have hge := grownCap_ge w (n + k) c e
    refine ⟨_, _, _, hr, ⟨by simp [hown.len], .inr ⟨w.heap.size, _, _, rfl, hbase, heap_alloc_new w.drew _, hge, grownCap_le_maxLen w (n + k) c e h63, ?_, ?_⟩⟩, ⟨rfl, rfl, rfl, by simp, fun j hj _ => Below.heap_alloc w.drew _ j hj⟩, .inr rfl⟩
    · simp only [Array.size_append, List.size_toArray, size_zeroCells, hown.len, hzc]
      simp
      omega
    · rw [hzc, Array.toList_append, Array.toList_append, zc_list, List.append_assoc]
      have hl : (xs ++ List.replicate k z).length = (n + k) * 1 := by rw [List.length_append, hown.len, List.length_replicate]; omega
      rw [← List.append_assoc, ← hl]
      exact List.take_left

theorem wpList_appz {ops : Array Oper} {rest : List Oper} {o : Oper} {a : Act} {Q : Exit → Act → World → Prop} (hgd : o.guard = none) (s x : Operand) {t tn e : TypeId} {z : Value} {bytes : Nat} {kn : IntKind} (S : Elem P t e z bytes) (hzc : z.cells = #[z]) (h1z : z.oneCell' = true) (htn : P.underlying tn = some (.int kn))
    (ho : o.op = .call { callee := .builtin .append, args := #[s, x], argTypes := #[t, tn] }) (base : Nat) {A : Option Addr} {n c : Nat} {xs : List Value} (hs : a.eval s = .slice A n c) (hown : Own w base e A n c xs)
    {kq : IntKind} (k : Nat) (q : Int) (hq : q = (k : Int)) (hx : a.eval x = .int kq q) (h0 : 0 < k)
    (h63 : n + k ≤ maxLen) (hbytes : (n + k) * bytes ≤ 140737488355328) (hbase : base ≤ w.heap.size)
    (h : ∀ A' c' w', Own w' base e A' (n + k) c' (xs ++ List.replicate k z) → w.grownBy w' (blk A) → (blk A' = blk A ∨ blk A' = some w.heap.size) → wpList P ops Q rest (a.put o.dst (.slice A' (n + k) c')) w') : wpList P ops Q (o :: rest) a w := by
  subst hq
  obtain ⟨A', c', w', hr, h2, h3, h4⟩ := run_appz (P := P) w S hzc h1z htn o.type base hown kq k h0 h63 hbytes hbase
  exact Lib.wpList_append_run w hgd s x t tn ho _ _ hs hx _ _ hr (h A' c' w' h2 h3 h4)
end
end Go.Proofs.Ytigebiknlodghaa
