/-
  Bytes read as a catalog, in plain Lean; rows of the call's own that hold a catalog's parts.
-/
import Derived.Test.YtaagfmaboggbhaaCatSame
import Derived.Test.YtaagfmaboggbhaaCatNum
import Derived.Test.YtaagfmaboggbhaaRow
namespace Go.Proofs.Ytaagfmaboggbhaa.cat
open Go.RowKit
set_option linter.unusedVariables false
open fix (rdVal rdRest rdBad rdRest_len)

/-- Bytes that are left; was something not there? -/
abbrev St := List Nat × Bool
def pn (k : Nat) (s : St) : St := (rdRest k s.1, s.2 || rdBad k s.1)
def p16 (s : St) : Int × St := (((rdVal 2 s.1 : Nat) : Int), pn 2 s)
def p64 (s : St) : Nat × St := (rdVal 8 s.1, pn 8 s)
/-- So many things, as long as nothing was lacking. -/
def plp {α : Type} (one : St → α × St) : Nat → St → List α × St
  | 0, s => ([], s)
  | n + 1, s => if s.2 then ([], s) else ((one s).1 :: (plp one n (one s).2).1, (plp one n (one s).2).2)
def pl {α : Type} (one : St → α × St) (s : St) : List α × St := plp one (rdVal 1 s.1) (pn 1 s)
def psize (s : St) : (Nat × Nat) × St := ((rdVal 8 s.1, rdVal 1 (pn 8 s).1), pn 1 (pn 8 s))
def ptime (s : St) : (Nat × Nat) × St := ((rdVal 8 s.1, rdVal 8 (pn 8 s).1), pn 8 (pn 8 s))
def pvol (s : St) : (Int × Nat × List (Nat × Nat)) × St := ((((rdVal 2 s.1 : Nat) : Int), rdVal 8 (pn 2 s).1, (pl psize (pn 8 (pn 2 s))).1), (pl psize (pn 8 (pn 2 s))).2)
def pgrp (s : St) : (Int × List Int) × St := ((((rdVal 2 s.1 : Nat) : Int), (pl p16 (pn 2 s)).1), (pl p16 (pn 2 s)).2)
def pbk (s : St) : (Int × Nat × List Int) × St := ((((rdVal 2 s.1 : Nat) : Int), rdVal 8 (pn 2 s).1, (pl p16 (pn 8 (pn 2 s))).1), (pl p16 (pn 8 (pn 2 s))).2)
/-- Nothing grows. -/
def Shr {α : Type} (one : St → α × St) : Prop := ∀ s, (one s).2.1.length ≤ s.1.length
theorem pn_shr (k : Nat) (s : St) : (pn k s).1.length ≤ s.1.length := rdRest_len _ _
theorem plp_shr {α : Type} {one : St → α × St} (h : Shr one) (n : Nat) (s : St) : (plp one n s).2.1.length ≤ s.1.length := by
  induction n generalizing s with
  | zero => exact Nat.le_refl _
  | succ n ih =>
    unfold plp
    split
    · exact Nat.le_refl _
    · exact Nat.le_trans (ih _) (h s)
theorem pl_shr {α : Type} {one : St → α × St} (h : Shr one) : Shr (pl one) := fun s => Nat.le_trans (plp_shr h _ _) (pn_shr 1 s)
theorem p16_shr : Shr p16 := fun s => pn_shr 2 s
theorem p64_shr : Shr p64 := fun s => pn_shr 8 s
theorem psize_shr : Shr psize := fun s => Nat.le_trans (pn_shr 1 _) (pn_shr 8 s)
theorem ptime_shr : Shr ptime := fun s => Nat.le_trans (pn_shr 8 _) (pn_shr 8 s)
theorem pvol_shr : Shr pvol := fun s => Nat.le_trans (pl_shr psize_shr _) (Nat.le_trans (pn_shr 8 _) (pn_shr 2 s))
theorem pgrp_shr : Shr pgrp := fun s => Nat.le_trans (pl_shr p16_shr _) (pn_shr 2 s)
theorem pbk_shr : Shr pbk := fun s => Nat.le_trans (pl_shr p16_shr _) (Nat.le_trans (pn_shr 8 _) (pn_shr 2 s))
theorem plp_more {α : Type} {one : St → α × St} {n : Nat} {s : St} (h : s.2 = false) : plp one (n + 1) s = ((one s).1 :: (plp one n (one s).2).1, (plp one n (one s).2).2) := by
  show (if s.2 then _ else _) = _
  rw [h]; rfl
theorem plp_bad {α : Type} {one : St → α × St} {n : Nat} {s : St} (h : s.2 = true) : plp one n s = ([], s) := by
  cases n with
  | zero => rfl
  | succ n =>
    show (if s.2 then _ else _) = _
    rw [h]; rfl
theorem plp_len {α : Type} {one : St → α × St} (n : Nat) (s : St) : (plp one n s).1.length ≤ n := by
  induction n generalizing s with
  | zero => exact Nat.le_refl _
  | succ n ih =>
    unfold plp
    split
    · simp
    · simp only [List.length_cons]
      have := ih (one s).2
      omega
theorem rd1_lt (s : St) (h : IsB s.1) : rdVal 1 s.1 ≤ 255 := by
  have := fix.rdVal_lt 1 s.1 h
  simp only [Nat.reduceMul, Nat.reducePow] at this
  omega

/-! ### rows of the call's own -/
theorem OwnR.lessR {w : World} {B base n c s : Nat} {e : TypeId} {A : Option Addr} {xs : List Value} (h : OwnR w B e s A n c xs) (hb : base ≤ B) : OwnR w base e s A n c xs := by
  rcases h with ⟨h1, h2⟩
  refine ⟨h1, ?_⟩
  rcases h2 with h2 | ⟨g, cap, cur, h3, h4, h5⟩
  · exact .inl h2
  · exact .inr ⟨g, cap, cur, h3, Nat.le_trans hb h4, h5⟩
theorem ne_far {w : World} {base n c s g : Nat} {e : TypeId} {A : Option Addr} {xs : List Value} (h : OwnR w base e s A n c xs) (hg : g < base) : blk A = none ∨ blk A ≠ some g := by
  rcases hA : blk A with _ | k
  · exact .inl rfl
  · exact .inr (by intro e; injection e with e; have := (h.lt k hA).1; omega)
theorem ne_farO {w : World} {base n c g : Nat} {e : TypeId} {A : Option Addr} {xs : List Value} (h : Own w base e A n c xs) (hg : g < base) : blk A = none ∨ blk A ≠ some g := by
  rcases hA : blk A with _ | k
  · exact .inl rfl
  · exact .inr (by intro e; injection e with e; have := (h.lt k hA).1; omega)
/-- Rows of other element types are other blocks. -/
theorem ne_type {w : World} {base base' n c s n' c' s' : Nat} {e e' : TypeId} {A A' : Option Addr} {xs xs' : List Value} (h : w.ownsRow base e s (.slice A n c) n xs) (h' : w.ownsRow base' e' s' (.slice A' n' c') n' xs') (hne : e ≠ e') : blk A' = none ∨ blk A' ≠ blk A := by
  rcases h'.2 with ⟨hv', _⟩ | ⟨g', cap', cur', hv', _, hh', _⟩
  · injection hv' with hv'; subst hv'; exact .inl rfl
  · injection hv' with hv'; subst hv'
    rcases h.2 with ⟨hv, _⟩ | ⟨g, cap, cur, hv, _, hh, _⟩
    · injection hv with hv; subst hv; exact .inr (fun e => by cases e)
    · injection hv with hv; subst hv
      refine .inr (fun e => ?_)
      have hgg : g' = g := by simpa [blk] using e
      subst hgg
      rw [hh] at hh'
      injection hh' with hh'
      injection hh' with _ ht
      exact hne ht
/-- A reader's memory, behind an append onto a row of the call's own. -/
theorem rd_app {w w' : World} {T : TypeId} {g B : Nat} {l : List Nat} {bad : Bool} {row : Option Nat} (h : fix.Rd w T g B l bad) (hg : w.grownBy w' row) (hne : ∀ k, row = some k → g < k) : fix.Rd w' T g B l bad := by
  have hlt := h.lt
  obtain ⟨A, c, h1, h2, h3, h4, h5, h6⟩ := h
  refine ⟨A, c, h1.grown hg (by intro e; have := hne g e.symm; omega), ?_, h3, h4, h5, h6⟩
  exact h2.keep fun p hp => World.cell?_of_block (hg.block p.block (by omega) (fun e => by have := hne _ e.symm; omega))
/-- Only the reader has changed, of what was there. -/
theorem grown_app {w wr w' : World} {g : Nat} {row : Option Nat} (h : w.grownBy wr (some g)) (hg : wr.grownBy w' row) (hne : ∀ k, row = some k → w.heap.size ≤ k) : w.grownBy w' (some g) :=
  ⟨hg.os.trans h.os, hg.tape.trans h.tape, hg.output.trans h.output, Nat.le_trans h.size hg.size, fun i hi hi2 => (hg.block i (Nat.lt_of_lt_of_le hi h.size) (fun e => by have := hne i e.symm; omega)).trans (h.block i hi hi2)⟩
theorem grown_two {w wr w' : World} {g : Nat} (h : w.grownBy wr (some g)) (hg : wr.grownBy w' (some g)) : w.grownBy w' (some g) :=
  ⟨hg.os.trans h.os, hg.tape.trans h.tape, hg.output.trans h.output, Nat.le_trans h.size hg.size, fun i hi hi2 => (hg.block i (Nat.lt_of_lt_of_le hi h.size) hi2).trans (h.block i hi hi2)⟩
theorem grown_one (w : World) (o : Obj) (row : Option Nat) : w.grownBy (w.alloc o) row := ⟨rfl, rfl, rfl, by simp, fun i hi _ => Below.heap_alloc w o i hi⟩

def mkCells (M : List (Nat × Nat)) : List Value := M.flatMap fun m => [.int .u64 (m.1 : Int), .int .u64 (m.2 : Int)]
def volCells (L : List Vol) : List Value := L.flatMap fun z => [.int .i64 z.id, .int .u64 (z.born : Int), .slice z.A z.n z.c]
def grpCells (L : List Grp) : List Value := L.flatMap fun z => [.int .i64 z.id, .slice z.A z.n z.c]
def bkCells (L : List Bk) : List Value := L.flatMap fun z => [.int .i64 z.id, .int .u64 (z.seq : Int), .slice z.A z.n z.c]
theorem mk_snoc (M : List (Nat × Nat)) (m : Nat × Nat) : mkCells (M ++ [m]) = mkCells M ++ [.int .u64 (m.1 : Int), .int .u64 (m.2 : Int)] := by simp [mkCells]
theorem vol_snoc (M : List Vol) (z : Vol) : volCells (M ++ [z]) = volCells M ++ [.int .i64 z.id, .int .u64 (z.born : Int), .slice z.A z.n z.c] := by simp [volCells]
theorem grp_snoc (M : List Grp) (z : Grp) : grpCells (M ++ [z]) = grpCells M ++ [.int .i64 z.id, .slice z.A z.n z.c] := by simp [grpCells]
theorem bk_snoc (M : List Bk) (z : Bk) : bkCells (M ++ [z]) = bkCells M ++ [.int .i64 z.id, .int .u64 (z.seq : Int), .slice z.A z.n z.c] := by simp [bkCells]

/-- Rows of structs whose slices are rows of their own. -/
structure VolOwn (w : World) (base : Nat) (A : Option Addr) (n c : Nat) (L : List Vol) : Prop where
  row : OwnR w base 92 3 A n c (volCells L)
  ins : ∀ z ∈ L, OwnR w base 100 2 z.A z.n z.c (mkCells z.l)
structure GrpOwn (w : World) (base : Nat) (A : Option Addr) (n c : Nat) (L : List Grp) : Prop where
  row : OwnR w base 94 2 A n c (grpCells L)
  ins : ∀ z ∈ L, Own w base 3 z.A z.n z.c (nums z.l)
structure BkOwn (w : World) (base : Nat) (A : Option Addr) (n c : Nat) (L : List Bk) : Prop where
  row : OwnR w base 96 3 A n c (bkCells L)
  ins : ∀ z ∈ L, Own w base 3 z.A z.n z.c (nums z.l)
section
variable {w w' : World} {base g n c n' c' : Nat} {A A' : Option Addr}
theorem VolOwn.nil (w : World) (base : Nat) : VolOwn w base none 0 0 [] := ⟨OwnR.nil _ _ _ _, fun _ h => by cases h⟩
theorem GrpOwn.nil (w : World) (base : Nat) : GrpOwn w base none 0 0 [] := ⟨OwnR.nil _ _ _ _, fun _ h => by cases h⟩
theorem BkOwn.nil (w : World) (base : Nat) : BkOwn w base none 0 0 [] := ⟨OwnR.nil _ _ _ _, fun _ h => by cases h⟩
theorem VolOwn.kept {L : List Vol} (h : VolOwn w base A n c L) (hg : w.grownBy w' (some g)) (hlt : g < base) : VolOwn w' base A n c L := ⟨h.row.kept hg (ne_far h.row hlt), fun z hz => (h.ins z hz).kept hg (ne_far (h.ins z hz) hlt)⟩
theorem GrpOwn.kept {L : List Grp} (h : GrpOwn w base A n c L) (hg : w.grownBy w' (some g)) (hlt : g < base) : GrpOwn w' base A n c L := ⟨h.row.kept hg (ne_far h.row hlt), fun z hz => (h.ins z hz).kept hg (ne_farO (h.ins z hz) hlt)⟩
theorem BkOwn.kept {L : List Bk} (h : BkOwn w base A n c L) (hg : w.grownBy w' (some g)) (hlt : g < base) : BkOwn w' base A n c L := ⟨h.row.kept hg (ne_far h.row hlt), fun z hz => (h.ins z hz).kept hg (ne_farO (h.ins z hz) hlt)⟩
theorem VolOwn.alloc {L : List Vol} (h : VolOwn w base A n c L) (o : Obj) : VolOwn (w.alloc o) base A n c L := ⟨h.row.alloc o, fun z hz => (h.ins z hz).alloc o⟩
theorem GrpOwn.alloc {L : List Grp} (h : GrpOwn w base A n c L) (o : Obj) : GrpOwn (w.alloc o) base A n c L := ⟨h.row.alloc o, fun z hz => (h.ins z hz).alloc o⟩
theorem BkOwn.alloc {L : List Bk} (h : BkOwn w base A n c L) (o : Obj) : BkOwn (w.alloc o) base A n c L := ⟨h.row.alloc o, fun z hz => (h.ins z hz).alloc o⟩
theorem VolOwn.push {L : List Vol} {z : Vol} (h : VolOwn w base A n c L) (hz : OwnR w base 100 2 z.A z.n z.c (mkCells z.l)) (hg : w.grownBy w' (blk A)) (ho : OwnR w' base 92 3 A' n' c' (volCells L ++ [.int .i64 z.id, .int .u64 (z.born : Int), .slice z.A z.n z.c])) : VolOwn w' base A' n' c' (L ++ [z]) :=
  ⟨by rw [vol_snoc]; exact ho, fun y hy => by
    rcases List.mem_append.1 hy with hy | hy
    · exact (h.ins y hy).kept hg (ne_type h.row (h.ins y hy) (by decide))
    · obtain rfl : y = z := by simpa using hy
      exact hz.kept hg (ne_type h.row hz (by decide))⟩
theorem GrpOwn.push {L : List Grp} {z : Grp} (h : GrpOwn w base A n c L) (hz : Own w base 3 z.A z.n z.c (nums z.l)) (hg : w.grownBy w' (blk A)) (ho : OwnR w' base 94 2 A' n' c' (grpCells L ++ [.int .i64 z.id, .slice z.A z.n z.c])) : GrpOwn w' base A' n' c' (L ++ [z]) :=
  ⟨by rw [grp_snoc]; exact ho, fun y hy => by
    rcases List.mem_append.1 hy with hy | hy
    · exact (h.ins y hy).kept hg (ne_type h.row (h.ins y hy) (by decide))
    · obtain rfl : y = z := by simpa using hy
      exact hz.kept hg (ne_type h.row hz (by decide))⟩
theorem BkOwn.push {L : List Bk} {z : Bk} (h : BkOwn w base A n c L) (hz : Own w base 3 z.A z.n z.c (nums z.l)) (hg : w.grownBy w' (blk A)) (ho : OwnR w' base 96 3 A' n' c' (bkCells L ++ [.int .i64 z.id, .int .u64 (z.seq : Int), .slice z.A z.n z.c])) : BkOwn w' base A' n' c' (L ++ [z]) :=
  ⟨by rw [bk_snoc]; exact ho, fun y hy => by
    rcases List.mem_append.1 hy with hy | hy
    · exact (h.ins y hy).kept hg (ne_type h.row (h.ins y hy) (by decide))
    · obtain rfl : y = z := by simpa using hy
      exact hz.kept hg (ne_type h.row hz (by decide))⟩
end
theorem elemMk : ElemR Try.prog 66 100 (.agg #[.int .u64 0, .int .u64 0]) 2 16 := ElemR.of Try.underlying66 (by kernel_rfl) rfl (by decide)
theorem elemVol : ElemR Try.prog 62 92 (.agg #[.int .i64 0, .int .u64 0, .slice none 0 0]) 3 40 := ElemR.of Try.underlying62 (by kernel_rfl) rfl (by decide)
theorem elemGrp : ElemR Try.prog 63 94 (.agg #[.int .i64 0, .slice none 0 0]) 2 32 := ElemR.of Try.underlying63 (by kernel_rfl) rfl (by decide)
theorem elemBk : ElemR Try.prog 64 96 (.agg #[.int .i64 0, .int .u64 0, .slice none 0 0]) 3 40 := ElemR.of Try.underlying64 (by kernel_rfl) rfl (by decide)
theorem elemU : Elem Try.prog 65 47 (.int .u64 0) 8 := Elem.of Try.underlying65 (by kernel_rfl) rfl
end Go.Proofs.Ytaagfmaboggbhaa.cat
