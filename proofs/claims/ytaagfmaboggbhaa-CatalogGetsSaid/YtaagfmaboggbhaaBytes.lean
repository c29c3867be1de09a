/-
  Bytes at this translation: bytes.Equal; an argument of type []byte.
-/
import Derived.Test.YtaagfmaboggbhaaRows
import Derived.Test.YtaagfmaboggbhaaMem
import Derived.ProofKit
import Derived.OpenShut
import Derived.WalkSpells
namespace Go.Proofs.Ytaagfmaboggbhaa
open Go.ChangeShapes Go.WideShapes Go.ChangeAt Go.RowKit
set_option linter.unusedVariables false

theorem elemB : Elem Try.prog 22 5 (.int .u8 0) 1 := Elem.of Try.underlying22 (by kernel_rfl) rfl

theorem str_beq {l m : List Nat} (hl : IsB l) (hm : IsB m) : ((str l).toList == (str m).toList) = decide (l = m) := by
  by_cases h : l = m
  · subst h; simp
  · rw [decide_eq_false h, beq_eq_false_iff_ne]
    exact fun e => h (str_inj hl hm e)

/-- bytes.Equal. -/
theorem equal_any {B B' n m : Nat} {A A' : Option Addr} (c c' : Nat) {l k : List Nat} {w : World} (h : Seg w B A n (bts l)) (h' : Seg w B' A' m (bts k)) (hl : IsB l) (hk : IsB k) :
    Calls Try.prog 15 #[.slice A n c, .slice A' m c'] w fun e w' => e = .returned (.bool (decide (l = k))) ∧ w = w' := by
  have e1 := run_string (P := Try.prog) w h c 22 5 9 Try.underlying22 Try.underlying5 Try.underlying9
  have e2 := run_string (P := Try.prog) w h' c' 22 5 9 Try.underlying22 Try.underlying5 Try.underlying9
  have e3 := str_beq hl hk
  have H3 := Lib.hid e3
  clear e3 h h'
  go_enter Try.func15, Try.ntmps15
  go_wp2
  go_ret
  exact ⟨by rw [← H3.out]; rfl, rfl⟩

set_option maxRecDepth 100000 in
/-- An argument of type []byte. -/
theorem open_bytes {H : Type} {enc : TypeId × Value → H} {W : World} {base b0 : Nat} {spare : Nat → Bool} {held : Bool} {v : Value} {d : DataW H} {p : List MemPlace}
    (h : DataW.Trod enc Try.prog W base spare held 22 v d p) (k : Value.okWide Try.prog W .any b0 22 v) :
    ∃ A n c l, v = .slice A n c ∧ n ≤ c ∧ c ≤ maxLen ∧ IsB l ∧ Seg W W.heap.size A n (bts l) := by
  obtain ⟨A, n, c, zs, rfl, h1, h2, h3, h4⟩ := open_seg Try.underlying22 Try.underlying5 (by kernel_rfl) h k
  obtain ⟨l, hl, e⟩ := bytes_of_ints zs h3
  exact ⟨A, n, c, l, rfl, h1, h2, hl, e ▸ h4⟩
end Go.Proofs.Ytaagfmaboggbhaa
