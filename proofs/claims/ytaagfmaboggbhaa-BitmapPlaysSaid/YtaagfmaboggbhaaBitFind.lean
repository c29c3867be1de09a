/-
  The first of so many bits that are not set, side by side, in plain Lean.
-/
import Derived.Test.YtaagfmaboggbhaaBitSet
namespace Go.Proofs.Ytaagfmaboggbhaa.bit
set_option linter.unusedVariables false

/-- So many bits from a place on are not set. -/
def Clr (f : Nat → Bool) (s many : Nat) : Prop := ∀ j, s ≤ j → j < s + many → f j = false
/-- What a search tells. -/
def IsFree (f : Nat → Bool) (n lo many : Nat) : Option Nat → Prop
  | some i => lo ≤ i ∧ i + many ≤ n ∧ Clr f i many ∧ ∀ s, lo ≤ s → s < i → ¬ Clr f s many
  | none => ∀ s, lo ≤ s → s + many ≤ n → ¬ Clr f s many
theorem IsFree.uniq {f : Nat → Bool} {n lo many : Nat} {r r' : Option Nat} (h : IsFree f n lo many r) (h' : IsFree f n lo many r') : r = r' := by
  cases r with
  | none =>
    cases r' with
    | none => rfl
    | some i => exact absurd h'.2.2.1 (h i h'.1 h'.2.1)
  | some i =>
    cases r' with
    | none => exact absurd h.2.2.1 (h' i h.1 h.2.1)
    | some j =>
      congr 1
      rcases Nat.lt_trichotomy i j with e | e | e
      · exact absurd h.2.2.1 (h'.2.2.2 i h.1 e)
      · exact e
      · exact absurd h'.2.2.1 (h.2.2.2 j h'.1 e)
theorem IsFree.congr {f g : Nat → Bool} {n lo many : Nat} {r : Option Nat} (h : IsFree f n lo many r) (he : ∀ i, i < n → f i = g i) : IsFree g n lo many r := by
  have hc : ∀ s, s + many ≤ n → (Clr f s many ↔ Clr g s many) := fun s hs => ⟨fun h j h1 h2 => by rw [← he j (by omega)]; exact h j h1 h2, fun h j h1 h2 => by rw [he j (by omega)]; exact h j h1 h2⟩
  cases r with
  | none => exact fun s h1 h2 hcl => h s h1 h2 ((hc s h2).2 hcl)
  | some i => exact ⟨h.1, h.2.1, (hc i h.2.1).1 h.2.2.1, fun s h1 h2 hcl => h.2.2.2 s h1 h2 ((hc s (by have := h.2.1; omega)).2 hcl)⟩
theorem clr_one {f : Nat → Bool} {s : Nat} : Clr f s 1 ↔ f s = false := ⟨fun h => h s (Nat.le_refl _) (by omega), fun h j h1 h2 => by rw [show j = s by omega]; exact h⟩
/-- What is told, as values. -/
def encF : Option Nat → Go.Value
  | some i => .tuple #[.int .i64 (i : Int), .bool true]
  | none => .tuple #[.int .i64 0, .bool false]

/-! ### Run's count -/
/-- Behind i bits: long of them, the last ones, are not set; nothing was found. -/
structure RunI (f : Nat → Bool) (many i long : Nat) : Prop where
  le : long ≤ i
  clr : Clr f (i - long) long
  bound : long < i → f (i - long - 1) = true
  none_ : ∀ s, s + many ≤ i → ¬ Clr f s many
theorem RunI.start (f : Nat → Bool) {many : Nat} (h : 0 < many) : RunI f many 0 0 := ⟨Nat.le_refl _, fun j h1 h2 => by omega, fun h => absurd h (Nat.lt_irrefl 0), fun s hs => by omega⟩
theorem RunI.taken {f : Nat → Bool} {many i long : Nat} (h : RunI f many i long) (hm : 0 < many) (hb : f i = true) : RunI f many (i + 1) 0 := by
  refine ⟨Nat.zero_le _, fun j h1 h2 => by omega, fun _ => by simpa using hb, fun s hs hc => ?_⟩
  by_cases e : s + many ≤ i
  · exact h.none_ s e hc
  · have := hc i (by omega) (by omega)
    rw [hb] at this; cases this
theorem RunI.more {f : Nat → Bool} {many i long : Nat} (h : RunI f many i long) (hb : f i = false) (hl : long + 1 < many) : RunI f many (i + 1) (long + 1) := by
  have hle := h.le
  refine ⟨by omega, fun j h1 h2 => ?_, fun h2 => ?_, fun s hs hc => ?_⟩
  · by_cases e : j = i
    · subst e; exact hb
    · exact h.clr j (by omega) (by omega)
  · rw [show i + 1 - (long + 1) - 1 = i - long - 1 by omega]; exact h.bound (by omega)
  · by_cases e : s + many ≤ i
    · exact h.none_ s e hc
    · have h3 := h.bound (by omega)
      rw [hc (i - long - 1) (by omega) (by omega)] at h3
      cases h3
theorem RunI.found {f : Nat → Bool} {many i long n : Nat} (h : RunI f many i long) (hb : f i = false) (hl : long + 1 = many) (hn : i < n) : IsFree f n 0 many (some (i + 1 - many)) := by
  have hle := h.le
  refine ⟨Nat.zero_le _, by omega, fun j h1 h2 => ?_, fun s _ hs hc => h.none_ s (by omega) hc⟩
  by_cases e : j = i
  · subst e; exact hb
  · exact h.clr j (by omega) (by omega)
theorem RunI.over {f : Nat → Bool} {many n long : Nat} (h : RunI f many n long) : IsFree f n 0 many none := fun s _ hs => h.none_ s hs
theorem RunI.lt {f : Nat → Bool} {many i long : Nat} (h : RunI f many i long) (hm : 0 < many) : long < many := by
  rcases Nat.lt_or_ge long many with h1 | h1
  · exact h1
  · exfalso
    refine h.none_ (i - long) (by have := h.le; omega) (fun j h2 h3 => h.clr j h2 (by omega))
end Go.Proofs.Ytaagfmaboggbhaa.bit
