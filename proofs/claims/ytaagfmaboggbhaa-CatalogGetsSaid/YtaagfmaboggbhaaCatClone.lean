/-
  bytes.Clone of a slice that is not nil.
-/
import Derived.Test.YtaagfmaboggbhaaCatLive
import Derived.WalkSpells
namespace Go.Proofs.Ytaagfmaboggbhaa.cat
open Go.RowKit
set_option linter.unusedVariables false
set_option maxHeartbeats 1600000 in
theorem clone_any {w : World} {b off n c : Nat} {l : List Nat} (h : Seg w w.heap.size (some ⟨b, off, none⟩) n (bts l)) (hn : n ≤ 1000000) :
    Calls Try.prog 45 #[.slice (some ⟨b, off, none⟩) n c] w (NewTo w l) := by
  have hl : l.length = n := by rw [← bts_len]; exact h.1
  have HS := Lib.hid h
  have HL := Lib.hid hl
  clear h hl
  have he := Lib.run_eql_slice_nil (P := Try.prog) w 22 5 (some ⟨b, off, none⟩) n c 0 0 Try.underlying22
  go_enter Try.func45, Try.ntmps45
  go_wp2_with ((at_builtin; refine wpList_app _ rfl (.tmp 5) (.tmp 6) elemB rfl w.heap.size rfl (Own.lit w #[] 5 (Nat.le_refl _) (Nat.zero_le _)) w.heap.size rfl (HS.out.alloc (Nat.le_refl _) _) (bts_one _) (by unfold maxLen; simp; omega) (by simp; omega) (by simp) ?_; intro A1 c1 w1 hown hg hat; simp only [Nat.zero_add, List.nil_append] at hown; have HO := Lib.hid hown; have HB := Lib.hid (below_app ((Below.refl w.heap.size w).alloc (Nat.le_refl _) (Obj.cells #[] 5)) (Nat.le_refl _) (by simp) (Own.lit w #[] 5 (Nat.le_refl _) (Nat.zero_le _)) hg); clear hown hg hat))
  go_ret
  exact ⟨A1, n, c1, HL.out.symm, by simp, HO.out, HB.out⟩
end Go.Proofs.Ytaagfmaboggbhaa.cat
