/-
  Numbers as bytes of fixed width, the lowest byte first, in plain Lean.
-/
import Derived.Test.YtaagfmaboggbhaaMem
namespace Go.Proofs.Ytaagfmaboggbhaa.fix
set_option linter.unusedVariables false

/-- The number of bytes. -/
def leN : List Nat → Nat
  | [] => 0
  | c :: l => c + 256 * leN l
/-- So many bytes of a number. -/
def leB (n : Nat) : Nat → List Nat
  | 0 => []
  | k + 1 => n % 256 :: leB (n / 256) k
theorem leB_len (n k : Nat) : (leB n k).length = k := by
  induction k generalizing n with
  | zero => rfl
  | succ k ih => simp [leB, ih]
theorem leB_isB (n k : Nat) : IsB (leB n k) := by
  induction k generalizing n with
  | zero => exact IsB.nil
  | succ k ih =>
    intro c hc
    rcases List.mem_cons.1 hc with h | h
    · subst h; exact Nat.mod_lt _ (by decide)
    · exact ih _ c h
theorem leB_snoc (n k : Nat) : leB n (k + 1) = leB n k ++ [n / 2 ^ (8 * k) % 256] := by
  induction k generalizing n with
  | zero => simp [leB]
  | succ k ih =>
    rw [leB, ih (n / 256)]
    conv => rhs; rw [leB]
    rw [List.cons_append, Nat.div_div_eq_div_mul, show 256 * 2 ^ (8 * k) = 2 ^ (8 * (k + 1)) by rw [show 8 * (k + 1) = 8 + 8 * k by omega, Nat.pow_add]]
theorem leN_leB (n k : Nat) : leN (leB n k) = n % 2 ^ (8 * k) := by
  induction k generalizing n with
  | zero => simp [leB, leN, Nat.mod_one]
  | succ k ih =>
    rw [leB, leN, ih, show 2 ^ (8 * (k + 1)) = 256 * 2 ^ (8 * k) by rw [show 8 * (k + 1) = 8 + 8 * k by omega, Nat.pow_add], Nat.mod_mul]
theorem leN_app (l m : List Nat) : leN (l ++ m) = leN l + 2 ^ (8 * l.length) * leN m := by
  induction l with
  | nil => simp [leN]
  | cons c l ih =>
    rw [List.cons_append, leN, leN, ih, List.length_cons, show 2 ^ (8 * (l.length + 1)) = 256 * 2 ^ (8 * l.length) by rw [show 8 * (l.length + 1) = 8 + 8 * l.length by omega, Nat.pow_add], Nat.mul_add, Nat.mul_assoc, Nat.add_assoc]
theorem leN_lt {l : List Nat} (h : IsB l) : leN l < 2 ^ (8 * l.length) := by
  induction l with
  | nil => simp [leN]
  | cons c l ih =>
    have h1 : c < 256 := h c (by simp)
    have h2 := ih (fun d hd => h d (by simp [hd]))
    rw [leN, List.length_cons, show 2 ^ (8 * (l.length + 1)) = 256 * 2 ^ (8 * l.length) by rw [show 8 * (l.length + 1) = 8 + 8 * l.length by omega, Nat.pow_add]]
    omega
theorem leN_lt8 {l : List Nat} (h : IsB l) (hl : l.length ≤ 8) : leN l < 18446744073709551616 := by
  have h1 := Nat.pow_le_pow_right (n := 2) (by decide) (show 8 * l.length ≤ 64 by omega)
  exact Nat.lt_of_lt_of_le (leN_lt h) (Nat.le_trans h1 (by decide))
theorem leN_step {l : List Nat} {k : Nat} (hk : k < l.length) : leN (l.take (k + 1)) = leN (l.take k) + l[k] * 2 ^ (8 * k) := by
  rw [List.take_succ_eq_append_getElem hk, leN_app]
  simp only [leN, List.length_take, Nat.mul_zero, Nat.add_zero, Nat.min_eq_left (Nat.le_of_lt hk)]
  rw [Nat.mul_comm]
theorem leN_drop {l : List Nat} {k : Nat} (hk : k < l.length) : leN (l.drop k) = l[k] + 256 * leN (l.drop (k + 1)) := by
  rw [List.drop_eq_getElem_cons hk, leN]
theorem or_step (n c k : Nat) (hn : n < 2 ^ (8 * k)) : n ||| (c * 2 ^ (8 * k)) = n + c * 2 ^ (8 * k) := by
  have := Nat.shiftLeft_add_eq_or_of_lt hn c
  rw [Nat.shiftLeft_eq] at this
  rw [Nat.or_comm, ← this, Nat.add_comm]

/-- What a number of so many bytes is read as; what is left; whether it was not there. -/
def rdVal (k : Nat) (l : List Nat) : Nat := if k ≤ l.length then leN (l.take k) else 0
def rdRest (k : Nat) (l : List Nat) : List Nat := if k ≤ l.length then l.drop k else []
def rdBad (k : Nat) (l : List Nat) : Bool := decide (l.length < k)
theorem rdRest_len (k : Nat) (l : List Nat) : (rdRest k l).length ≤ l.length := by unfold rdRest; split <;> simp
theorem rdVal_lt (k : Nat) (l : List Nat) (h : IsB l) : rdVal k l < 2 ^ (8 * k) := by
  unfold rdVal
  split
  · have := leN_lt (h.take k)
    rw [List.length_take, Nat.min_eq_left (by assumption)] at this
    exact this
  · exact Nat.pow_pos (by decide)
end Go.Proofs.Ytaagfmaboggbhaa.fix
