/-
  Bits of bytes, in plain Lean: whether a bit is set; when the last byte has bits behind the last block.
-/
namespace Go.Proofs.Ytaagfmaboggbhaa.bit
set_option linter.unusedVariables false

/-- Bit i of bytes. -/
def bitAt (l : List Nat) (i : Nat) : Bool := l.getD (i / 8) 0 / 2 ^ (i % 8) % 2 == 1

theorem top_bit : ∀ r < 8, ∀ c < 256, c / 2 ^ r ≠ 0 → ∃ j < 8, r ≤ j ∧ c / 2 ^ j % 2 = 1 := by decide +kernel
theorem no_bit (c r j : Nat) (h : c / 2 ^ r = 0) (hj : r ≤ j) : c / 2 ^ j = 0 := by
  have h1 : c < 2 ^ r := by
    have := Nat.div_eq_zero_iff.1 h
    rcases this with h | h
    · have : 0 < 2 ^ r := Nat.pow_pos (by decide)
      omega
    · exact h
  exact Nat.div_eq_of_lt (Nat.lt_of_lt_of_le h1 (Nat.pow_le_pow_right (by decide) hj))
/-- Bits behind the last block, from the last byte. -/
theorem behind_some (l : List Nat) (hl : ∀ c ∈ l, c < 256) (n : Nat) (hlen : l.length = (n + 7) / 8) (hr : 0 < n % 8) (h : l.getD (l.length - 1) 0 / 2 ^ (n % 8) ≠ 0) :
    ∃ i, n ≤ i ∧ i < 8 * l.length ∧ bitAt l i = true := by
  have hlt : l.length - 1 < l.length := by omega
  have hc : l.getD (l.length - 1) 0 < 256 := by
    rw [List.getD_eq_getElem?_getD, List.getElem?_eq_getElem hlt]
    exact hl _ (List.getElem_mem hlt)
  obtain ⟨j, hj, hrj, hb⟩ := top_bit (n % 8) (Nat.mod_lt _ (by decide)) _ hc h
  refine ⟨8 * (l.length - 1) + j, by omega, by omega, ?_⟩
  unfold bitAt
  rw [show (8 * (l.length - 1) + j) / 8 = l.length - 1 by omega, show (8 * (l.length - 1) + j) % 8 = j by omega, hb]
  rfl
theorem behind_none (l : List Nat) (n : Nat) (hlen : l.length = (n + 7) / 8) (h : n % 8 = 0 ∨ l.getD (l.length - 1) 0 / 2 ^ (n % 8) = 0) (i : Nat) (h1 : n ≤ i) (h2 : i < 8 * l.length) : bitAt l i = false := by
  rcases h with h | h
  · omega
  · unfold bitAt
    have e : i / 8 = l.length - 1 := by omega
    rw [e, no_bit _ (n % 8) (i % 8) h (by omega)]
    rfl
/-- The first bit behind a place. -/
theorem first_bit (f : Nat → Bool) (n m : Nat) (h : ∃ i, n ≤ i ∧ i < m ∧ f i = true) : ∃ i, n ≤ i ∧ i < m ∧ f i = true ∧ ∀ k, n ≤ k → k < i → f k = false := by
  obtain ⟨i, h1, h2, h3⟩ := h
  induction i using Nat.strongRecOn with
  | _ i ih =>
    by_cases hx : ∃ k, n ≤ k ∧ k < i ∧ f k = true
    · obtain ⟨k, k1, k2, k3⟩ := hx
      exact ih k k2 k1 (by omega) k3
    · refine ⟨i, h1, h2, h3, fun k k1 k2 => ?_⟩
      cases hk : f k
      · rfl
      · exact absurd ⟨k, k1, k2, hk⟩ hx
end Go.Proofs.Ytaagfmaboggbhaa.bit
