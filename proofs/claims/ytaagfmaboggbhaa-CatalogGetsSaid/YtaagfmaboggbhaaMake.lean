/-
  make of a slice of one-cell elements, over any program.
-/
import Derived.Test.YtaagfmaboggbhaaMem
import Derived.Laws.MakeOwn
namespace Go.Proofs.Ytaagfmaboggbhaa
open Go.RowKit
set_option linter.unusedVariables false

/-- So many zero cells. -/
def made (z : Value) (n : Nat) : Array Value := madeCells #[z] n
theorem made_size (z : Value) (n : Nat) : (made z n).size = n := size_madeCells _ _
theorem made_list (z : Value) (n : Nat) : (made z n).toList = List.replicate n z := toList_madeCells_one z n
theorem made_bytes (n : Nat) : (made (.int .u8 0) n).toList = bts (List.replicate n 0) := by rw [made_list]; simp [bts]
theorem run_mk {P : Program} {t e : TypeId} {z : Value} {bytes : Nat} (S : Elem P t e z bytes) (hz : z.cells = #[z]) (m : Nat) (hb : bytes * m ≤ 281474976710656) (h63 : m ≤ 9223372036854775807) (W : World) :
    (Instr.makeSlice t (.int .i64 (m : Int)) (.int .i64 (m : Int))).run P W = .ok (.slice (some ⟨W.heap.size, 0, none⟩) m m) (W.alloc (.cells (made z m) e)) := by
  obtain ⟨i, hi, hz0, hs, hby⟩ := S.hi
  have hb' : (i.bytes : Int) * (m : Int) ≤ 281474976710656 := by
    have h : ((i.bytes * m : Nat) : Int) ≤ 281474976710656 := by rw [hby]; omega
    rwa [Int.natCast_mul] at h
  have hr := run_make (P := P) W t e i z S.ht hi hz0 .i64 .i64 m m (by omega) (Int.le_refl _) hb' (by omega)
  simp only [Int.toNat_natCast, hs, Nat.mul_one, hz] at hr
  exact hr
theorem Own.made (w : World) (z : Value) (m : Nat) (e : TypeId) {base : Nat} (hb : base ≤ w.heap.size) (hm : m ≤ maxLen) : Own (w.alloc (.cells (made z m) e)) base e (some ⟨w.heap.size, 0, none⟩) m m (List.replicate m z) := by
  have := Own.lit w (Go.Proofs.Ytaagfmaboggbhaa.made z m) e hb (by rw [made_size]; exact hm)
  rw [made_size, made_list] at this
  exact this
theorem Seg.made (w : World) (z : Value) (m : Nat) (e : TypeId) : Seg (w.alloc (.cells (made z m) e)) (w.heap.size + 1) (some ⟨w.heap.size, 0, none⟩) m (List.replicate m z) := by
  have := Seg.block (w := w.alloc (.cells (Go.Proofs.Ytaagfmaboggbhaa.made z m) e)) (B := w.heap.size + 1) (heap_alloc_new w _) (by omega)
  rw [made_size, made_list] at this
  exact this
theorem bts_rep (n : Nat) : bts (List.replicate n 0) = List.replicate n (.int .u8 0) := by simp [bts]
theorem IsB.rep (n : Nat) : IsB (List.replicate n 0) := fun c hc => by rw [List.eq_of_mem_replicate hc]; omega
/-- One callee more, which makes memory of its own. -/
theorem nextB {B : Nat} {a b c : World} (h : Below B a b) (hB : B ≤ a.heap.size) (k : Below b.heap.size b c) : Below B a c := h.trans (k.mono (Nat.le_trans hB h.size))
theorem ofDrew {B : Nat} {a c : World} (k : Below B a.drew c) : Below B a c := ⟨k.os, k.tape, k.output, k.size, k.block⟩
theorem ofDrewN {B n : Nat} {a c : World} (k : Below B (a.drewN n) c) : Below B a c := ⟨k.os, k.tape, k.output, k.size, k.block⟩
theorem Own.max {w : World} {base n c : Nat} {e : TypeId} {A : Option Addr} {xs : List Value} (h : Own w base e A n c xs) : c ≤ maxLen := by
  rcases h.2 with ⟨h, _⟩ | ⟨g, cap, cur, h, _, _, _, hc, _⟩
  · injection h with _ h1 h2; omega
  · injection h with _ _ h2; omega
theorem size_setCell (w : World) (p : Addr) (u : Value) : (w.setCell p u).heap.size = w.heap.size := by simp [World.setCell]
theorem Pieces.drew {w : World} {B n : Nat} {A : Option Addr} {L : List Piece} (h : Pieces w B A n L) : Pieces w.drew B A n L := ⟨h.1.drew, fun x hx => ⟨(h.2 x hx).1.drew, (h.2 x hx).2⟩⟩
/-- An append inside a region that draws its order. -/
theorem step_app {P : Program} (w : World) {ops : Array Oper} {o : Oper} {a : Act} {K : Act → World → Prop} {Q : Exit → Act → World → Prop} {E : Prop} (hgd : o.guard = none) (s x : Operand) {t e : TypeId} {z : Value} {bytes : Nat} (S : Elem P t e z bytes)
    (ho : o.op = .call { callee := .builtin .append, args := #[s, x], argTypes := #[t, t] }) (base : Nat) {A : Option Addr} {n c : Nat} {xs : List Value} (hs : a.eval s = .slice A n c) (hown : Own w base e A n c xs)
    (B : Nat) {A2 : Option Addr} {m c2 : Nat} {news : List Value} (hx : a.eval x = .slice A2 m c2) (hr : Seg w B A2 m news) (h1 : ∀ u ∈ news, u.oneCell' = true)
    (h63 : n + m ≤ maxLen) (hbytes : (n + m) * bytes ≤ 140737488355328) (hbase : base ≤ w.heap.size)
    (h : ∀ A' c' w', Own w' base e A' (n + m) c' (xs ++ news) → w.grownBy w' (blk A) → (blk A' = blk A ∨ blk A' = some w.heap.size) → K (a.put o.dst (.slice A' (n + m) c')) w') :
    if Region.wanted o (yielded ops a.tmps) = true then Oper.wp P o a w K Q else E := by
  have hw : Region.wanted o (yielded ops a.tmps) = true := by simp [Region.wanted, hgd]
  rw [if_pos hw]
  exact wp_app w s x S ho base hs hown B hx hr h1 h63 hbytes hbase h
/-- The length of a slice value: for a loop's measure. -/
def sliceLen : Value → Nat | .slice _ k _ => k | _ => 0
theorem sliceLen_mk (A : Option Addr) (n c : Nat) : sliceLen (.slice A n c) = n := rfl
/-- 's[k:]' of a slice that lies at an address. -/
theorem Seg.cutAt {w : World} {B b off n : Nat} {xs : List Value} (h : Seg w B (some ⟨b, off, none⟩) n xs) {k : Nat} (hk : k ≤ n) : Seg w B (some ⟨b, off + k, none⟩) (n - k) (xs.drop k) := by
  refine ⟨by rw [List.length_drop, h.1], fun hn => ?_⟩
  obtain ⟨b', off', he, hb, hc⟩ := h.2 (by omega)
  injection he with he
  injection he with h1 h2
  subst h1 h2
  exact ⟨b, off + k, rfl, hb, fun j u hu => by rw [Nat.add_assoc]; exact hc _ u (by rw [← hu, List.getElem?_drop])⟩
theorem Seg.over {w : World} {B n : Nat} {A : Option Addr} {xs : List Value} (h : Seg w B A n xs) : Seg w B A 0 (xs.drop n) := by
  rw [List.drop_of_length_le (by rw [h.1]; exact Nat.le_refl _)]; exact Seg.empty A
theorem Own.drew {w : World} {base n c : Nat} {e : TypeId} {A : Option Addr} {xs : List Value} (h : Own w base e A n c xs) : Own w.drew base e A n c xs := h
end Go.Proofs.Ytaagfmaboggbhaa
