/-
  The walks of catalog.size, catalog.time and of the lists of numbers.
-/
import Derived.Test.YtaagfmaboggbhaaCatParse
namespace Go.Proofs.Ytaagfmaboggbhaa.cat
open Go.RowKit
set_option linter.unusedVariables false
open fix (rdVal rdRest rdBad rdRest_len Rd u8_any u16_any u64_any isbad_any)

theorem rd_set {w : World} {T : TypeId} {g B : Nat} {l : List Nat} {bad : Bool} (h : Rd w T g B l bad) {p : Addr} (hp : g < p.block) (u : Value) : Rd (w.setCell p u) T g B l bad := by
  obtain ⟨A, c, h1, h2, h3, h4, h5, h6⟩ := h
  exact ⟨A, c, h1.far (by omega) u, h2.setCell (by omega) u, h3, h4, h5, h6⟩
theorem grown_set {w w' : World} {g : Nat} (h : w.grownBy w' (some g)) {p : Addr} (hp : w.heap.size ≤ p.block) (u : Value) : w.grownBy (w'.setCell p u) (some g) :=
  ⟨h.os, h.tape, h.output, by rw [size_setCell]; exact h.size, fun i hi hne => (Below.heap_setCell w' p u i (by omega)).trans (h.block i hi hne)⟩
theorem grown_al {w w' : World} {g : Nat} {o : Obj} (hg : g < w.heap.size) (h : (w.alloc o).grownBy w' (some g)) : w.grownBy w' (some g) :=
  ⟨h.os, h.tape, h.output, Nat.le_trans (by simp) h.size, fun i hi hne => (h.block i (Nat.lt_of_lt_of_le hi (by simp)) hne).trans (Below.heap_alloc w o i hi)⟩
theorem rd_alloc {w : World} {T : TypeId} {g B : Nat} {l : List Nat} {bad : Bool} (h : Rd w T g B l bad) (o : Obj) : Rd (w.alloc o) T g B l bad := h.below ((Below.refl _ _).alloc (Nat.le_refl _) o)
/-- A reader read on, and nothing else that was there has changed. -/
def RdTo (w : World) (g B : Nat) (s : St) (w' : World) : Prop := Rd w' 130 g B s.1 s.2 ∧ w.grownBy w' (some g)
theorem u64_at {w : World} {g B : Nat} {s : St} (h : Rd w 130 g B s.1 s.2) (hl : s.1.length ≤ 1000000) :
    Calls Try.prog 68 #[.pointer (some ⟨g, 0, none⟩)] w fun e w' => e = .returned (.int .u64 ((p64 s).1 : Nat)) ∧ RdTo w g B (pn 8 s) w' := (u64_any h hl).mono fun _ _ ⟨h1, h2, h3⟩ => ⟨h1, h2, h3⟩
theorem u16_at {w : World} {g B : Nat} {s : St} (h : Rd w 130 g B s.1 s.2) (hl : s.1.length ≤ 1000000) :
    Calls Try.prog 67 #[.pointer (some ⟨g, 0, none⟩)] w fun e w' => e = .returned (.int .i64 (p16 s).1) ∧ RdTo w g B (pn 2 s) w' := (u16_any h hl).mono fun _ _ ⟨h1, h2, h3⟩ => ⟨h1, h2, h3⟩
theorem u8_at {w : World} {g B : Nat} {s : St} (h : Rd w 130 g B s.1 s.2) (hl : s.1.length ≤ 1000000) :
    Calls Try.prog 92 #[.pointer (some ⟨g, 0, none⟩)] w fun e w' => e = .returned (.int .i64 (rdVal 1 s.1 : Nat)) ∧ RdTo w g B (pn 1 s) w' := (u8_any h hl).mono fun _ _ ⟨h1, h2, h3⟩ => ⟨h1, h2, h3⟩

set_option maxHeartbeats 1600000 in
theorem size_any {w : World} {g B : Nat} {s : St} (h : Rd w 130 g B s.1 s.2) (hl : s.1.length ≤ 1000000) :
    Calls Try.prog 94 #[.pointer (some ⟨g, 0, none⟩)] w fun e w' => e = .returned (.agg #[.int .u64 ((psize s).1.1 : Nat), .int .u64 ((psize s).1.2 : Nat)]) ∧ RdTo w g B (psize s).2 w' := by
  have hlt := h.lt
  have h8 := pn_shr 8 s
  have HV := Lib.hid (rd1_lt (pn 8 s) (fun c hc => h.isB c (by unfold pn rdRest at hc; simp only at hc; split at hc; exact List.mem_of_mem_drop hc; cases hc)))
  have HR0 := Lib.hid (rd_alloc h (.cells #[.int .u64 0, .int .u64 0] 100))
  have HB0 := Lib.hid (Box.new w #[.int .u64 0, .int .u64 0] 100)
  have HP := Lib.hid (show psize s = (((p64 s).1, rdVal 1 (pn 8 s).1), pn 1 (pn 8 s)) from rfl)
  rw [HP.out]
  clear h
  go_enter Try.func94, Try.ntmps94
  go_wp2_with fail
  refine (u64_at HR0.out hl).mono ?_
  rintro e w1 ⟨rfl, hr1⟩
  have HR1 := Lib.hid hr1
  have HB1 := Lib.hid (HB0.out.grown hr1.2 (by intro e; injection e with e; omega))
  clear hr1
  go_wp2_with fail
  refine (u8_at HR1.out.1 (by omega)).mono ?_
  rintro e w2 ⟨rfl, hr2⟩
  have HR2 := Lib.hid hr2
  have HB2 := Lib.hid (HB1.out.grown hr2.2 (by intro e; injection e with e; omega))
  clear hr2
  have hy := HV.out
  have c0 := (HB2.out.cell 0).trans rfl
  have c1 := (HB2.out.cell 1).trans rfl
  have f0 := HB2.out.frozen 0
  have f1 := HB2.out.frozen 1
  have hz := HB2.out.lt
  have HE := Lib.hid (show RdTo w g B (pn 1 (pn 8 s)) ((w2.setCell ⟨w.heap.size, 0, none⟩ (.int .u64 ((p64 s).1 : Int))).setCell ⟨w.heap.size, 1, none⟩ (.int .u64 (rdVal 1 (pn 8 s).1 : Int))) from
    ⟨rd_set (rd_set HR2.out.1 hlt _) hlt _, grown_set (grown_set (grown_two (grown_al hlt HR1.out.2) HR2.out.2) (Nat.le_refl _) _) (Nat.le_refl _) _⟩)
  go_wp2_with fail
  refine bodyPost_ret (v := .agg #[.int .u64 ((p64 s).1 : Int), .int .u64 (rdVal 1 (pn 8 s).1 : Int)]) (by simp [results, Try.results94, go_sem, c0, c1]) rfl ⟨rfl, ?_⟩
  exact HE.out
end Go.Proofs.Ytaagfmaboggbhaa.cat
