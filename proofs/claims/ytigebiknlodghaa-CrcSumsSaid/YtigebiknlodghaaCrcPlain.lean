/-
  Plain facts on the sum of 32 bits: a step, a byte, a row of bytes, as natural numbers; the document's way, bit by bit, comes to the same; another byte gives another sum.
-/
import Derived.Test.YtigebiknlodghaaRows
namespace Go.Proofs.Ytigebiknlodghaa.crc

/-- The polynomial. -/
def P : Nat := 3988292384
/-- One step of a state. -/
def step (n : Nat) : Nat := if n % 2 = 1 then (n / 2) ^^^ P else n / 2
/-- So many steps. -/
def steps : Nat → Nat → Nat
  | 0, n => n
  | k + 1, n => step (steps k n)
/-- A byte over a state. -/
def turn (n c : Nat) : Nat := steps 8 (n ^^^ c)
/-- Bytes over a state. -/
def turns (n : Nat) (l : List Nat) : Nat := l.foldl turn n
/-- Bytes over a sum. -/
def adds (s : Nat) (l : List Nat) : Nat := 4294967295 - turns (4294967295 - s) l

theorem xor_right {a b c : Nat} (h : a ^^^ c = b ^^^ c) : a = b := by
  have := congrArg (· ^^^ c) h
  simpa [Nat.xor_assoc] using this
theorem xor_left {a b c : Nat} (h : c ^^^ a = c ^^^ b) : a = b := xor_right (c := c) (by rw [Nat.xor_comm a, Nat.xor_comm b]; exact h)
theorem P_lt : P < 2 ^ 32 := by decide
theorem step_lt {n : Nat} (h : n < 2 ^ 32) : step n < 2 ^ 32 := by
  unfold step; split
  · exact Nat.xor_lt_two_pow (by omega) P_lt
  · omega
theorem steps_lt {n : Nat} (h : n < 2 ^ 32) : ∀ k, steps k n < 2 ^ 32
  | 0 => h
  | k + 1 => step_lt (steps_lt h k)
theorem turn_lt {n c : Nat} (h : n < 2 ^ 32) (hc : c < 256) : turn n c < 2 ^ 32 := steps_lt (Nat.xor_lt_two_pow h (by omega)) 8
theorem turns_lt {l : List Nat} (hl : ∀ c ∈ l, c < 256) : ∀ {n : Nat}, n < 2 ^ 32 → turns n l < 2 ^ 32 := by
  induction l with
  | nil => intro n h; exact h
  | cons c l ih => intro n h; exact ih (fun x hx => hl x (List.mem_cons_of_mem _ hx)) (turn_lt h (hl c (List.mem_cons_self ..)))
theorem adds_lt (s : Nat) (l : List Nat) : adds s l < 2 ^ 32 := by unfold adds; omega
theorem adds_nil (s : Nat) (h : s < 2 ^ 32) : adds s [] = s := by
  unfold adds turns; simp only [List.foldl_nil]; omega
theorem turns_append (n : Nat) (a b : List Nat) : turns n (a ++ b) = turns (turns n a) b := by simp [turns, List.foldl_append]
theorem turns_cons (n c : Nat) (b : List Nat) : turns n (c :: b) = turns (turn n c) b := by unfold turns; rw [List.foldl_cons]
theorem turns_snoc (n c : Nat) (b : List Nat) : turns n (b ++ [c]) = turn (turns n b) c := by simp [turns, List.foldl_append]
theorem adds_append (s : Nat) (a b : List Nat) (h : s < 2 ^ 32) (ha : ∀ c ∈ a, c < 256) : adds (adds s a) b = adds s (a ++ b) := by
  have := turns_lt ha (n := 4294967295 - s) (by omega)
  unfold adds
  rw [turns_append, show 4294967295 - (4294967295 - turns (4294967295 - s) a) = turns (4294967295 - s) a from by omega]

/-! ### the document's way -/
/-- One bit of a byte over a row of bits. -/
def bstep (s : Nat) (b : Bool) : Nat := (s / 2) ^^^ (if (s.testBit 0 != b) then P else 0)
/-- So many bits of a byte. -/
def bsteps (c s : Nat) : Nat → Nat
  | 0 => s
  | k + 1 => bstep (bsteps c s k) (c.testBit k)
theorem bstep_lt {s : Nat} (h : s < 2 ^ 32) (b : Bool) : bstep s b < 2 ^ 32 := by
  unfold bstep
  refine Nat.xor_lt_two_pow (by omega) ?_
  split
  · exact P_lt
  · decide
theorem bsteps_lt {c s : Nat} (h : s < 2 ^ 32) : ∀ k, bsteps c s k < 2 ^ 32
  | 0 => h
  | k + 1 => bstep_lt (bsteps_lt h k) _
theorem odd_bit (n : Nat) : (n % 2 = 1) ↔ n.testBit 0 = true := by simp [Nat.testBit_zero]
theorem half_xor (a b : Nat) : (a ^^^ b) / 2 = (a / 2) ^^^ (b / 2) := by
  apply Nat.eq_of_testBit_eq; intro i
  simp [Nat.testBit_div_two, Nat.testBit_xor]
theorem steps_bsteps (s c : Nat) : ∀ k, steps k (s ^^^ c) = bsteps c s k ^^^ (c / 2 ^ k)
  | 0 => by simp [steps, bsteps]
  | k + 1 => by
    rw [steps, steps_bsteps s c k, bsteps]
    unfold step bstep
    have e : (c / 2 ^ (k + 1)) = (c / 2 ^ k) / 2 := by rw [Nat.pow_succ, Nat.div_div_eq_div_mul]
    have b : (c / 2 ^ k).testBit 0 = c.testBit k := by rw [Nat.testBit_div_two_pow]; simp
    rw [half_xor, e]
    have h : ((bsteps c s k ^^^ c / 2 ^ k) % 2 = 1) ↔ ((bsteps c s k).testBit 0 != c.testBit k) = true := by
      rw [odd_bit, Nat.testBit_xor, b]
    by_cases g : ((bsteps c s k).testBit 0 != c.testBit k) = true
    · rw [if_pos (h.2 g), if_pos g]
      simp only [Nat.xor_assoc]
      rw [Nat.xor_comm P]
    · rw [if_neg (fun x => g (h.1 x)), if_neg g]
      simp
/-- A byte, bit by bit. -/
theorem turn_bsteps (s c : Nat) (hc : c < 256) : turn s c = bsteps c s 8 := by
  unfold turn
  rw [steps_bsteps, show c / 2 ^ 8 = 0 from by omega]
  simp

/-- The bits of the row that the inner loop writes, place by place. -/
theorem bstep_bit (s : Nat) (b : Bool) (j : Nat) : (bstep s b).testBit j = (s.testBit (j + 1) != ((s.testBit 0 != b) && P.testBit j)) := by
  unfold bstep
  rw [Nat.testBit_xor, Nat.testBit_div_two]
  generalize (s.testBit 0 != b) = q
  cases q <;> simp
theorem bstep_top (s : Nat) (h : s < 2 ^ 32) (b : Bool) : (bstep s b).testBit 31 = ((s.testBit 0 != b) && P.testBit 31) := by
  rw [bstep_bit]
  have : s.testBit (31 + 1) = false := Nat.testBit_lt_two_pow (by simpa using h)
  rw [this]; simp
/-- Each bit the other one. -/
theorem not_bit (n : Nat) (h : n < 2 ^ 32) (j : Nat) (hj : j < 32) : (4294967295 - n).testBit j = !n.testBit j := by
  have := Nat.testBit_two_pow_sub_succ (x := n) (n := 32) h j
  simp only [show (2 : Nat) ^ 32 - (n + 1) = 4294967295 - n from by omega] at this
  rw [this]; simp [hj]

/-! ### another byte, another sum -/
theorem step_top (n : Nat) (h : n < 2 ^ 32) : (step n).testBit 31 = n.testBit 0 := by
  unfold step
  have z : (n / 2).testBit 31 = false := Nat.testBit_lt_two_pow (by omega)
  have p : P.testBit 31 = true := by decide
  by_cases g : n % 2 = 1
  · rw [if_pos g, Nat.testBit_xor, z, p, (odd_bit n).1 g]; rfl
  · rw [if_neg g, z]
    simp only [odd_bit] at g
    simpa using g
theorem step_inj {a b : Nat} (ha : a < 2 ^ 32) (hb : b < 2 ^ 32) (h : step a = step b) : a = b := by
  have t : a.testBit 0 = b.testBit 0 := by rw [← step_top a ha, ← step_top b hb, h]
  have e : (a % 2 = 1) ↔ (b % 2 = 1) := by rw [odd_bit, odd_bit, t]
  unfold step at h
  by_cases g : a % 2 = 1
  · rw [if_pos g, if_pos (e.1 g)] at h
    have := xor_right h
    omega
  · rw [if_neg g, if_neg (fun x => g (e.2 x))] at h
    omega
theorem steps_inj {a b : Nat} (ha : a < 2 ^ 32) (hb : b < 2 ^ 32) : ∀ k, steps k a = steps k b → a = b
  | 0, h => h
  | k + 1, h => steps_inj ha hb k (step_inj (steps_lt ha k) (steps_lt hb k) h)
theorem turn_inj_state {a b c : Nat} (ha : a < 2 ^ 32) (hb : b < 2 ^ 32) (hc : c < 256) (h : turn a c = turn b c) : a = b :=
  xor_right (steps_inj (Nat.xor_lt_two_pow ha (by omega)) (Nat.xor_lt_two_pow hb (by omega)) 8 h)
theorem turn_inj_byte {a c d : Nat} (ha : a < 2 ^ 32) (hc : c < 256) (hd : d < 256) (h : turn a c = turn a d) : c = d :=
  xor_left (steps_inj (Nat.xor_lt_two_pow ha (by omega)) (Nat.xor_lt_two_pow ha (by omega)) 8 h)
theorem turns_inj {l : List Nat} (hl : ∀ c ∈ l, c < 256) : ∀ {a b : Nat}, a < 2 ^ 32 → b < 2 ^ 32 → turns a l = turns b l → a = b := by
  induction l with
  | nil => intro a b _ _ h; exact h
  | cons c l ih =>
    intro a b ha hb h
    have hc := hl c (List.mem_cons_self ..)
    exact turn_inj_state ha hb hc (ih (fun x hx => hl x (List.mem_cons_of_mem _ hx)) (turn_lt ha hc) (turn_lt hb hc) h)
/-- One byte is another one: so is the sum. -/
theorem adds_other (l r : List Nat) (c d : Nat) (hl : ∀ x ∈ l, x < 256) (hr : ∀ x ∈ r, x < 256) (hc : c < 256) (hd : d < 256) (h : c ≠ d) :
    adds 0 (l ++ c :: r) ≠ adds 0 (l ++ d :: r) := by
  have hn := turns_lt hl (n := 4294967295 - 0) (by omega)
  have b1 := turns_lt hr (turn_lt hn hc)
  have b2 := turns_lt hr (turn_lt hn hd)
  unfold adds
  rw [turns_append, turns_append, turns_cons, turns_cons]
  intro e
  have e' : turns (turn (turns (4294967295 - 0) l) c) r = turns (turn (turns (4294967295 - 0) l) d) r := by omega
  exact h (turn_inj_byte hn hc hd (turns_inj hr (turn_lt hn hc) (turn_lt hn hd) e'))

/-! ### each bit the other one -/
def inv (n : Nat) : Nat := 4294967295 - n
theorem xor_all (n : Nat) (h : n < 4294967296) : 4294967295 ^^^ n = inv n := by
  apply Nat.eq_of_testBit_eq
  intro j
  unfold inv
  rw [Nat.testBit_xor]
  by_cases hj : j < 32
  · rw [not_bit n h j hj]
    have : (4294967295 : Nat).testBit j = true := by
      have := not_bit 0 (by decide) j hj
      simpa using this
    rw [this]; simp
  · have z : ∀ x : Nat, x < 4294967296 → x.testBit j = false := fun x hx => Nat.testBit_lt_two_pow (Nat.lt_of_lt_of_le hx (by
      have := Nat.pow_le_pow_right (n := 2) (by decide) (show 32 ≤ j by omega)
      simpa using this))
    rw [z _ (by decide), z n h, z (4294967295 - n) (by omega)]; rfl
theorem inv_lt (n : Nat) : inv n < 4294967296 := by unfold inv; omega
theorem adds_inv (s : Nat) (l : List Nat) : adds s l = inv (turns (inv s) l) := by unfold adds inv; exact Eq.refl _
end Go.Proofs.Ytigebiknlodghaa.crc
