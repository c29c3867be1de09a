/-
  Words for memory, over any program: a slice value whose cells are a known list (nil among them), a row that the call itself owns, append onto it, bytes as natural numbers, string(b) of bytes.
-/
import Derived.WalkKit
import Derived.Deep.AppendLies
import Derived.Maps.AppendAt
import Derived.Deep.Draws
import Derived.Lib.Hide
import Derived.ProofKit
namespace Go.Proofs.Ytaagfmaboggbhaa
open Go.RowKit
set_option linter.unusedVariables false

theorem i64_bd {n : Int} (h : (Lit.int .i64 n).wf = true) : -9223372036854775808 ≤ n ∧ n ≤ 9223372036854775807 := by
  simp [Lit.wf, IntKind.min, IntKind.max, IntKind.signed, IntKind.bits] at h; omega
theorem u64_bd {n : Int} (h : (Lit.int .u64 n).wf = true) : 0 ≤ n ∧ n ≤ 18446744073709551615 := by
  simp [Lit.wf, IntKind.min, IntKind.max, IntKind.signed, IntKind.bits] at h; omega
theorem u32_bd {n : Int} (h : (Lit.int .u32 n).wf = true) : 0 ≤ n ∧ n ≤ 4294967295 := by
  simp [Lit.wf, IntKind.min, IntKind.max, IntKind.signed, IntKind.bits] at h; omega
theorem u16_bd {n : Int} (h : (Lit.int .u16 n).wf = true) : 0 ≤ n ∧ n ≤ 65535 := by
  simp [Lit.wf, IntKind.min, IntKind.max, IntKind.signed, IntKind.bits] at h; omega
theorem u8_bd {n : Int} (h : (Lit.int .u8 n).wf = true) : 0 ≤ n ∧ n ≤ 255 := by
  simp [Lit.wf, IntKind.min, IntKind.max, IntKind.signed, IntKind.bits] at h; omega

theorem Bdrew {B : Nat} {a w : World} (h : Below B a w) (n : Nat) : Below B a (w.drewN n) := ⟨h.os, h.tape, h.output, h.size, h.block⟩

/-! ### a slice value and its cells -/
/-- The slice value '.slice A n _' has the one-cell elements xs, in a block below B. -/
def Seg (w : World) (B : Nat) (A : Option Addr) (n : Nat) (xs : List Value) : Prop :=
  xs.length = n ∧ (0 < n → ∃ b off, A = some ⟨b, off, none⟩ ∧ b < B ∧ ∀ j u, xs[j]? = some u → w.cell? ⟨b, off + j, none⟩ = some u)

section
variable {w w' : World} {B B' n : Nat} {A : Option Addr} {xs : List Value}
theorem Seg.len (h : Seg w B A n xs) : xs.length = n := h.1
theorem Seg.empty (A : Option Addr) : Seg w B A 0 [] := ⟨rfl, fun h => absurd h (Nat.lt_irrefl 0)⟩
theorem Seg.at_ (h : Seg w B A n xs) {k : Nat} (hk : k < n) : ∃ b off u, A = some ⟨b, off, none⟩ ∧ b < B ∧ xs[k]? = some u ∧ w.cell? ⟨b, off + k, none⟩ = some u := by
  obtain ⟨b, off, e, hb, hc⟩ := h.2 (by omega)
  have hl : k < xs.length := by have := h.1; omega
  exact ⟨b, off, xs[k], e, hb, List.getElem?_eq_getElem hl, hc k _ (List.getElem?_eq_getElem hl)⟩
theorem Seg.keep (h : Seg w B A n xs) (hk : ∀ p : Addr, p.block < B → w'.cell? p = w.cell? p) : Seg w' B A n xs :=
  ⟨h.1, fun hn => by obtain ⟨b, off, e, hb, hc⟩ := h.2 hn; exact ⟨b, off, e, hb, fun j u hu => (hk _ hb).trans (hc j u hu)⟩⟩
theorem Seg.below (h : Seg w B A n xs) (hb : Below B w w') : Seg w' B A n xs := h.keep fun _ hp => hb.cell hp
theorem Seg.more (h : Seg w B A n xs) (hB : B ≤ B') : Seg w B' A n xs :=
  ⟨h.1, fun hn => by obtain ⟨b, off, e, hb, hc⟩ := h.2 hn; exact ⟨b, off, e, by omega, hc⟩⟩
theorem Seg.drewN (h : Seg w B A n xs) (k : Nat) : Seg (w.drewN k) B A n xs := h
theorem Seg.drew (h : Seg w B A n xs) : Seg w.drew B A n xs := h
theorem Seg.alloc (h : Seg w B A n xs) (hB : B ≤ w.heap.size) (o : Obj) : Seg (w.alloc o) B A n xs := h.below ((Below.refl _ _).alloc hB o)
theorem Seg.setCell (h : Seg w B A n xs) {p : Addr} (hB : B ≤ p.block) (u : Value) : Seg (w.setCell p u) B A n xs := h.below ((Below.refl _ _).setCell hB u)
theorem Seg.prefix_ (h : Seg w B A n xs) {k : Nat} (hk : k ≤ n) : Seg w B A k (xs.take k) := by
  refine ⟨by rw [List.length_take, h.1]; omega, fun hn => ?_⟩
  obtain ⟨b, off, e, hb, hc⟩ := h.2 (by omega)
  refine ⟨b, off, e, hb, fun j u hu => hc j u ?_⟩
  rw [List.getElem?_take] at hu
  split at hu
  · exact hu
  · cases hu
/-- 's[k:]': the model keeps the old address where the capacity is used up. -/
theorem Seg.suffix_ (h : Seg w B A n xs) {k cap : Nat} (hk : k ≤ n) (hc : n ≤ cap) :
    Seg w B (if cap = k then A else A.map (·.add k)) (n - k) (xs.drop k) := by
  refine ⟨by rw [List.length_drop, h.1], fun hn => ?_⟩
  obtain ⟨b, off, rfl, hb, hcell⟩ := h.2 (by omega)
  rw [if_neg (by omega)]
  refine ⟨b, off + k, ?_, hb, fun j u hu => ?_⟩
  · simp only [Option.map_some, Addr.add]
    split <;> simp_all
  · rw [Nat.add_assoc]
    exact hcell _ u (by rw [← hu, List.getElem?_drop])
theorem Seg.one (w : World) (u : Value) (t : TypeId) : Seg (w.alloc (.cells #[u] t)) (w.heap.size + 1) (some ⟨w.heap.size, 0, none⟩) 1 [u] := by
  refine ⟨rfl, fun _ => ⟨_, _, rfl, by omega, fun j v hj => ?_⟩⟩
  have := cell_one_new w u t j v hj
  unfold Addr.add at this
  split at this
  · subst_vars; exact this
  · exact this
/-- A block that is known whole. -/
theorem Seg.block {g : Nat} {cs : Array Value} {t : TypeId} {fr : Nat × Nat} (hh : w.heap[g]? = some (.cells cs t fr)) (hg : g < B) : Seg w B (some ⟨g, 0, none⟩) cs.size cs.toList :=
  ⟨by simp, fun _ => ⟨g, 0, rfl, hg, fun j u hu => by rw [Nat.zero_add, cell_of_row w g j cs t fr hh]; simpa using hu⟩⟩
end

/-! ### a row of the call's own -/
/-- The slice value '.slice A n c' owns the cells xs: nil, or a row from block base on that is not frozen. -/
def Own (w : World) (base : Nat) (e : TypeId) (A : Option Addr) (n c : Nat) (xs : List Value) : Prop := w.ownsRow base e 1 (.slice A n c) n xs
/-- The block of an address. -/
def blk (A : Option Addr) : Option Nat := A.map (·.block)
theorem blk_own (A : Option Addr) (n c : Nat) : (Value.slice A n c).ownBlock = blk A := by cases A <;> rfl

section
variable {w w' : World} {base n c : Nat} {e : TypeId} {A : Option Addr} {xs : List Value}
theorem Own.nil (w : World) (base : Nat) (e : TypeId) : Own w base e none 0 0 [] := World.ownsRow_nil _ _ _ _
theorem Own.lit (w : World) (cs : Array Value) (e : TypeId) (hb : base ≤ w.heap.size) (hm : cs.size ≤ maxLen) : Own (w.alloc (.cells cs e)) base e (some ⟨w.heap.size, 0, none⟩) cs.size cs.size cs.toList :=
  World.ownsRow_lit w cs cs.size hb hm (by omega)
theorem Own.len (h : Own w base e A n c xs) : xs.length = n := by simpa using h.1
theorem Own.cap (h : Own w base e A n c xs) : n ≤ c := by
  rcases h.2 with ⟨h, _⟩ | ⟨g, cap, cur, h, _, _, hc, _⟩
  · injection h with _ h1 h2; omega
  · injection h with _ _ h2; omega
theorem Own.at_ (h : Own w base e A n c xs) (hn : 0 < n) : ∃ g, A = some ⟨g, 0, none⟩ ∧ base ≤ g ∧ g < w.heap.size := by
  obtain ⟨g, cap, hv, hb, hl⟩ := h.form hn
  injection hv with hA
  exact ⟨g, hA, hb, hl⟩
theorem Own.lt (h : Own w base e A n c xs) : ∀ k, blk A = some k → base ≤ k ∧ k < w.heap.size := by
  rw [← blk_own A n c]; exact World.ownsRow.lt h
theorem Own.seg (h : Own w base e A n c xs) : Seg w w.heap.size A n xs := by
  refine ⟨h.len, fun hn => ?_⟩
  obtain ⟨g, rfl, _, hl⟩ := h.at_ hn
  refine ⟨g, 0, rfl, hl, fun j u hu => ?_⟩
  have := World.ownsRow.cells h (g := g) rfl j u hu
  rw [Nat.zero_add]
  unfold Addr.add at this
  split at this
  · subst_vars; exact this
  · simpa using this
theorem Own.kept {row : Option Nat} (h : Own w base e A n c xs) (hg : w.grownBy w' row) (hne : blk A = none ∨ blk A ≠ row) : Own w' base e A n c xs :=
  World.ownsRow.kept h hg (by rw [blk_own]; exact hne)
theorem Own.alloc (h : Own w base e A n c xs) (o : Obj) : Own (w.alloc o) base e A n c xs := World.ownsRow.alloc h o
theorem Own.drewN (h : Own w base e A n c xs) (k : Nat) : Own (w.drewN k) base e A n c xs := h
theorem grown_of_below {a w : World} (h : Below a.heap.size a w) (row : Option Nat) : a.grownBy w row := ⟨h.os, h.tape, h.output, h.size, fun i hi _ => h.block i hi⟩
theorem Own.below (h : Own w base e A n c xs) (hb : Below w.heap.size w w') : Own w' base e A n c xs := by
  rcases hA : blk A with _ | g
  · exact h.kept (grown_of_below hb none) (.inl hA)
  · exact h.kept (grown_of_below hb none) (.inr (by rw [hA]; simp))
theorem Own.setFar (h : Own w base e A n c xs) {p : Addr} (hp : blk A ≠ some p.block) (u : Value) : Own (w.setCell p u) base e A n c xs :=
  h.kept (row := some p.block) ⟨rfl, rfl, rfl, by simp [World.setCell], fun k _ hk => Below.heap_setCell _ _ _ _ (fun e => hk (by rw [e]))⟩ (.inr hp)
/-- A store into the row. -/
theorem Own.store (h : Own w base e A n c xs) {k : Nat} (hk : k < n) (u : Value) : ∃ g, A = some ⟨g, 0, none⟩ ∧ base ≤ g ∧ g < w.heap.size ∧ w.frozen? ⟨g, k, none⟩ = false ∧ w.cell? ⟨g, k, none⟩ = xs[k]? ∧
    Own (w.setCell ⟨g, k, none⟩ u) base e A n c (xs.set k u) := by
  obtain ⟨g, rfl, hb, hl⟩ := h.at_ (by omega)
  exact ⟨g, rfl, hb, hl, World.ownsRow.frozenAt h k, World.ownsRow.cellAt h k (by omega), (World.ownsRow.stored h k u).1⟩
/-- Behind an append: what was below the base is as it was. -/
theorem below_app {a : World} {B : Nat} (hb : Below B a w) (hB : B ≤ base) (hbase : base ≤ w.heap.size) (h : Own w base e A n c xs) (hg : w.grownBy w' (blk A)) : Below B a w' :=
  hb.grown hg (by omega) fun k hk => by have := (h.lt k hk).1; omega
end

/-! ### append -/
/-- A slice type t of one-cell elements e. -/
structure Elem (P : Program) (t e : TypeId) (z : Value) (bytes : Nat) : Prop where
  ht : P.underlying t = some (.slice e)
  hi : ∃ i, P.info? e = some i ∧ i.zero = some z ∧ i.size = 1 ∧ i.bytes = bytes
  hz : z.cells.size = 1
theorem Elem.of {P : Program} {t e : TypeId} {z : Value} {bytes : Nat} (ht : P.underlying t = some (.slice e)) (hi : (P.info? e).map (fun i => (i.zero, i.size, i.bytes)) = some (some z, 1, bytes)) (hz : z.cells.size = 1) : Elem P t e z bytes := by
  obtain ⟨i, h1, h2, h3, h4⟩ := info_parts hi
  exact ⟨ht, ⟨i, h1, h2, h3, h4⟩, hz⟩

section
variable {P : Program} (w : World)
theorem run_app {t e : TypeId} {z : Value} {bytes : Nat} (S : Elem P t e z bytes) (ty base : Nat) {A : Option Addr} {n c : Nat} {xs : List Value} (hown : Own w base e A n c xs)
    {B : Nat} {A2 : Option Addr} {m : Nat} (c2 : Nat) {news : List Value} (hr : Seg w B A2 m news) (h1 : ∀ u ∈ news, u.oneCell' = true)
    (h63 : n + m ≤ maxLen) (hbytes : (n + m) * bytes ≤ 140737488355328) (hbase : base ≤ w.heap.size) :
    ∃ A' c' w', (Builtin.append_ #[t, t] ty #[.slice A n c, .slice A2 m c2]).run P w = .ok (.slice A' (n + m) c') w' ∧ Own w' base e A' (n + m) c' (xs ++ news) ∧ w.grownBy w' (blk A) ∧ (blk A' = blk A ∨ blk A' = some w.heap.size) := by
  obtain ⟨i, hi, hz, hs, hby⟩ := S.hi
  by_cases hm : m = 0
  · subst hm
    obtain rfl : news = [] := List.eq_nil_of_length_eq_zero hr.1
    refine ⟨A, c, w, ?_, by simpa using hown, ⟨rfl, rfl, rfl, Nat.le_refl _, fun _ _ _ => rfl⟩, .inl rfl⟩
    rcases hown.2 with ⟨hv, h0⟩ | ⟨g, cap, cur, hv, _, _, hnc, _⟩
    · injection hv with hv1 hv2 hv3
      subst hv1 hv2 hv3
      cases A2 <;> simp [Builtin.append_, run_underlying S.ht, sizeOf, typeInfo, hi, Builtin.lenOf, Builtin.firstCells, loadCells, loadCellsFrom]
    · injection hv with hv1 hv2 hv3
      subst hv1 hv3
      cases A2 <;> simp [Builtin.append_, run_underlying S.ht, sizeOf, typeInfo, hi, Builtin.lenOf, Builtin.firstCells, hnc, storeCells, loadCells, loadCellsFrom]
  · obtain ⟨b, off, rfl, hb, hc⟩ := hr.2 (by omega)
    have hnews : ∀ j u, news[j]? = some u → w.cell? ((⟨b, off, none⟩ : Addr).add j) = some u := by
      intro j u hu
      have := hc j u hu
      unfold Addr.add
      split
      · subst_vars; simpa using this
      · exact this
    obtain ⟨g, cap, w', hrun, ho, hg, hat, _⟩ := run_append_lies (P := P) w t ty base e i z 1 bytes S.ht hi hz hs hby S.hz (by omega) _ n xs hown ⟨b, off, none⟩ m c2 news (by rw [hr.1]; omega) hnews h1 (by omega) h63 hbytes hbase w.heap.size rfl
    refine ⟨_, _, w', hrun, ho, by rw [← blk_own A n c]; exact hg, ?_⟩
    rw [blk_own] at hat
    rcases hat with h | h
    · exact .inl h.symm
    · exact .inr (by rw [h]; rfl)

theorem wp_app {o : Oper} {a : Act} {K : Act → World → Prop} {Q : Exit → Act → World → Prop} (s x : Operand) {t e : TypeId} {z : Value} {bytes : Nat} (S : Elem P t e z bytes)
    (ho : o.op = .call { callee := .builtin .append, args := #[s, x], argTypes := #[t, t] }) (base : Nat) {A : Option Addr} {n c : Nat} {xs : List Value} (hs : a.eval s = .slice A n c) (hown : Own w base e A n c xs)
    (B : Nat) {A2 : Option Addr} {m c2 : Nat} {news : List Value} (hx : a.eval x = .slice A2 m c2) (hr : Seg w B A2 m news) (h1 : ∀ u ∈ news, u.oneCell' = true)
    (h63 : n + m ≤ maxLen) (hbytes : (n + m) * bytes ≤ 140737488355328) (hbase : base ≤ w.heap.size)
    (h : ∀ A' c' w', Own w' base e A' (n + m) c' (xs ++ news) → w.grownBy w' (blk A) → (blk A' = blk A ∨ blk A' = some w.heap.size) → K (a.put o.dst (.slice A' (n + m) c')) w') : o.wp P a w K Q := by
  obtain ⟨A', c', w', hr, h2, h3, h4⟩ := run_app (P := P) w S o.type base hown c2 hr h1 h63 hbytes hbase
  unfold Oper.wp execOp
  simp only [ho, resolve, invoke, builtin, Sem.run_bind, Sem.run_pure, Result.andThen_ok, List.map_toArray, List.map_cons, List.map_nil, hs, hx, hr]
  exact h A' c' w' h2 h3 h4

theorem wpList_app {ops : Array Oper} {rest : List Oper} {o : Oper} {a : Act} {Q : Exit → Act → World → Prop} (hgd : o.guard = none) (s x : Operand) {t e : TypeId} {z : Value} {bytes : Nat} (S : Elem P t e z bytes)
    (ho : o.op = .call { callee := .builtin .append, args := #[s, x], argTypes := #[t, t] }) (base : Nat) {A : Option Addr} {n c : Nat} {xs : List Value} (hs : a.eval s = .slice A n c) (hown : Own w base e A n c xs)
    (B : Nat) {A2 : Option Addr} {m c2 : Nat} {news : List Value} (hx : a.eval x = .slice A2 m c2) (hr : Seg w B A2 m news) (h1 : ∀ u ∈ news, u.oneCell' = true)
    (h63 : n + m ≤ maxLen) (hbytes : (n + m) * bytes ≤ 140737488355328) (hbase : base ≤ w.heap.size)
    (h : ∀ A' c' w', Own w' base e A' (n + m) c' (xs ++ news) → w.grownBy w' (blk A) → (blk A' = blk A ∨ blk A' = some w.heap.size) → wpList P ops Q rest (a.put o.dst (.slice A' (n + m) c')) w') : wpList P ops Q (o :: rest) a w :=
  wpList_plain hgd fun _ hK => wp_app w s x S ho base hs hown B hx hr h1 h63 hbytes hbase fun A' c' w' h2 h3 h4 => hK _ _ (h A' c' w' h2 h3 h4)
end

/-! ### bytes as natural numbers -/
/-- Bytes as cells. -/
def bts (l : List Nat) : List Value := l.map fun c : Nat => Value.int .u8 (c : Int)
/-- Each is a byte. -/
def IsB (l : List Nat) : Prop := ∀ c ∈ l, c < 256
theorem IsB.at_ {l : List Nat} (h : IsB l) {j : Nat} (hj : j < l.length) : l[j] < 256 := h _ (List.getElem_mem hj)
theorem IsB.app {l m : List Nat} (h : IsB l) (k : IsB m) : IsB (l ++ m) := fun c hc => (List.mem_append.1 hc).elim (h c) (k c)
theorem IsB.take {l : List Nat} (h : IsB l) (k : Nat) : IsB (l.take k) := fun c hc => h c (List.mem_of_mem_take hc)
theorem IsB.drop {l : List Nat} (h : IsB l) (k : Nat) : IsB (l.drop k) := fun c hc => h c (List.mem_of_mem_drop hc)
theorem IsB.nil : IsB [] := fun _ h => by cases h
theorem bts_len (l : List Nat) : (bts l).length = l.length := by simp [bts]
theorem bts_app (l m : List Nat) : bts (l ++ m) = bts l ++ bts m := by simp [bts]
theorem bts_take (l : List Nat) (k : Nat) : bts (l.take k) = (bts l).take k := by simp [bts, List.map_take]
theorem bts_drop (l : List Nat) (k : Nat) : bts (l.drop k) = (bts l).drop k := by simp [bts, List.map_drop]
theorem bts_set (l : List Nat) (k c : Nat) : bts (l.set k c) = (bts l).set k (.int .u8 (c : Int)) := by simp [bts, List.map_set]
theorem bts_one (l : List Nat) : ∀ u ∈ bts l, u.oneCell' = true := by
  intro u hu
  obtain ⟨c, _, rfl⟩ := List.mem_map.1 hu
  rfl
theorem bts_at (l : List Nat) (j : Nat) : (bts l)[j]? = (l[j]?).map fun c : Nat => Value.int .u8 (c : Int) := by simp [bts]
/-- A byte of a slice, at an index. -/
theorem Seg.byte {w : World} {B n : Nat} {A : Option Addr} {l : List Nat} (h : Seg w B A n (bts l)) {k : Nat} (hk : k < n) :
    ∃ b off, ∃ hl : k < l.length, A = some ⟨b, off, none⟩ ∧ b < B ∧ w.cell? ⟨b, off + k, none⟩ = some (.int .u8 ((l[k]'hl : Nat) : Int)) := by
  obtain ⟨b, off, u, e, hb, hx, hc⟩ := h.at_ hk
  have hl : k < l.length := by have := h.1; rw [bts_len] at this; omega
  refine ⟨b, off, hl, e, hb, ?_⟩
  rw [bts_at, List.getElem?_eq_getElem hl] at hx
  simp only [Option.map_some, Option.some.injEq] at hx
  rw [hc, ← hx]

/-- 'string(b)'. -/
def str (l : List Nat) : ByteArray := ⟨(l.map UInt8.ofNat).toArray⟩
theorem str_inj {l m : List Nat} (hl : IsB l) (hm : IsB m) (h : (str l).toList = (str m).toList) : l = m := by
  have e : ∀ k : List Nat, (str k).toList = k.map UInt8.ofNat := fun k => by
    rw [ByteArray.toList_eq]; rfl
  rw [e, e] at h
  have := congrArg (List.map UInt8.toNat) h
  simp only [List.map_map] at this
  have f : ∀ k : List Nat, IsB k → k.map (UInt8.toNat ∘ UInt8.ofNat) = k := fun k hk => by
    conv => rhs; rw [← List.map_id k]
    exact List.map_congr_left fun c hc => by have := hk c hc; simp [Nat.mod_eq_of_lt this]
  rwa [f l hl, f m hm] at this
theorem run_string {P : Program} (w : World) {B n : Nat} {A : Option Addr} {l : List Nat} (h : Seg w B A n (bts l)) (c src e dst : TypeId)
    (hs : P.underlying src = some (.slice e)) (he : P.underlying e = some (.int .u8)) (hd : P.underlying dst = some .string) :
    (convert src dst (.slice A n c)).run P w = .ok (.string (str l)) w := by
  have hlen : l.length = n := by rw [← bts_len]; exact h.1
  by_cases hn : n = 0
  · subst hn
    obtain rfl : l = [] := List.eq_nil_of_length_eq_zero hlen
    rw [run_convert_bytes_string w src dst e _ 0 c hs he hd]
    cases A <;> simp [Conv.bytesToString, loadCells, str] <;> rfl
  · obtain ⟨b, off, rfl, _, hc⟩ := h.2 (by omega)
    have := run_convert_bytes_arg (P := P) w src e hs he b off n c (l.map fun c : Nat => (c : Int)) (by simpa using hlen) (fun i hi => by
      rw [hc i (.int .u8 ((l[i]'(by omega) : Nat) : Int)) (by rw [bts_at, List.getElem?_eq_getElem (by omega)]; rfl)]
      simp [List.getD, List.getElem?_eq_getElem (show i < l.length by omega)]) dst hd
    rw [this]
    simp [strOfNums, str]

section
open Go.ChangeShapes Go.WideShapes Go.ChangeAt
/-- An argument that is a slice of integers: its cells. -/
theorem open_seg {P : Program} {t e : TypeId} {kd : IntKind} (ht : P.underlying t = some (.slice e)) (he : P.underlying e = some (.int kd)) (hC : P.cellsOf e = 1)
    {H : Type} {enc : TypeId × Value → H} {W : World} {base b0 : Nat} {spare : Nat → Bool} {held : Bool} {v : Value} {d : DataW H} {p : List MemPlace}
    (h : DataW.Trod enc P W base spare held t v d p) (k : Value.okWide P W .any b0 t v) :
    ∃ A n c, ∃ zs : List Int, v = .slice A n c ∧ n ≤ c ∧ c ≤ maxLen ∧ (∀ z ∈ zs, (Lit.int kd z).wf = true) ∧ Seg W W.heap.size A n (zs.map (Value.int kd)) := by
  obtain ⟨A, n, c, rfl⟩ := okWide_slice ht k
  obtain ⟨fuel, hf⟩ := h
  rcases open_ints ht he hC hf with ⟨hcs, hx⟩ | ⟨a, n', c', zs, hcs, _, hl, hm, hz, hx, hcell, hwz⟩
  · simp [Value.cells] at hcs
    obtain ⟨rfl, rfl, rfl⟩ := hcs
    exact ⟨_, _, _, [], rfl, Nat.le_refl _, Nat.zero_le _, (fun _ h => by cases h), Seg.empty _⟩
  · simp [Value.cells] at hcs
    obtain ⟨rfl, rfl, rfl⟩ := hcs
    have hzl : n ≤ zs.length := by rw [hz]; split <;> omega
    refine ⟨_, _, _, zs.take n, rfl, hl, hm, fun z hz => hwz z (List.mem_of_mem_take hz), by simp; omega, fun hn => ?_⟩
    have h0 := hcell 0 (by omega)
    have hsp : a.spot = none := by simpa [Addr.add] using World.cell?_spot h0
    have hlt : a.block < W.heap.size := by simpa [Addr.add] using block_lt_of_cell h0
    obtain ⟨b, off, sp⟩ := a
    obtain rfl : sp = none := hsp
    refine ⟨b, off, rfl, hlt, fun j u hu => ?_⟩
    have hj : j < n := by
      rcases Nat.lt_or_ge j n with h | h
      · exact h
      · rw [List.getElem?_eq_none (by simp; omega)] at hu; cases hu
    have hc := hcell j (by omega)
    have e1 : (⟨b, off, none⟩ : Addr).add j = ⟨b, off + j, none⟩ := by unfold Addr.add; split <;> simp_all
    rw [e1] at hc
    rw [hc]
    rw [List.getElem?_map, List.getElem?_take, if_pos hj, List.getElem?_eq_getElem (by omega)] at hu
    simp only [Option.map_some, Option.some.injEq] at hu
    rw [← hu, List.getD_eq_getElem?_getD, List.getElem?_eq_getElem (by omega)]
    rfl
/-- Numbers of a byte's kind, as natural numbers. -/
theorem bytes_of_ints (zs : List Int) (h : ∀ z ∈ zs, (Lit.int .u8 z).wf = true) : ∃ l : List Nat, IsB l ∧ zs.map (Value.int .u8) = bts l := by
  refine ⟨zs.map Int.toNat, fun c hc => ?_, ?_⟩
  · obtain ⟨z, hz, rfl⟩ := List.mem_map.1 hc
    have := u8_bd (h z hz)
    omega
  · unfold bts
    rw [List.map_map]
    refine List.map_congr_left fun z hz => ?_
    have := u8_bd (h z hz)
    simp only [Function.comp_apply]
    rw [Int.toNat_of_nonneg this.1]
end

/-! ### a slice of slices of bytes -/
/-- A slice of bytes as it lies: its address, length, capacity, bytes. -/
structure Piece where
  A : Option Addr
  n : Nat
  c : Nat
  l : List Nat
def Piece.val (x : Piece) : Value := .slice x.A x.n x.c
/-- All bytes of pieces. -/
def flat (L : List Piece) : List Nat := L.flatMap (·.l)
theorem flat_take (L : List Piece) {k : Nat} (hk : k < L.length) : flat (L.take (k + 1)) = flat (L.take k) ++ L[k].l := by
  unfold flat; rw [List.take_succ_eq_append_getElem hk, List.flatMap_append]; simp only [List.flatMap_cons, List.flatMap_nil, List.append_nil]
/-- The slice of slices '.slice A n _' has the pieces L. -/
def Pieces (w : World) (B : Nat) (A : Option Addr) (n : Nat) (L : List Piece) : Prop :=
  Seg w B A n (L.map Piece.val) ∧ ∀ x ∈ L, Seg w B x.A x.n (bts x.l) ∧ IsB x.l ∧ x.n ≤ x.c ∧ x.c ≤ maxLen
section
variable {w w' : World} {B B' n : Nat} {A : Option Addr} {L : List Piece}
theorem Pieces.len (h : Pieces w B A n L) : L.length = n := by simpa using h.1.1
theorem Pieces.below (h : Pieces w B A n L) (hb : Below B w w') : Pieces w' B A n L := ⟨h.1.below hb, fun x hx => ⟨(h.2 x hx).1.below hb, (h.2 x hx).2⟩⟩
theorem Pieces.at_ (h : Pieces w B A n L) {k : Nat} (hk : k < n) : ∃ b off, ∃ hl : k < L.length, A = some ⟨b, off, none⟩ ∧ b < B ∧ w.cell? ⟨b, off + k, none⟩ = some (.slice L[k].A L[k].n L[k].c) ∧ Seg w B L[k].A L[k].n (bts L[k].l) ∧ IsB L[k].l ∧ L[k].n ≤ L[k].c ∧ L[k].c ≤ maxLen := by
  obtain ⟨b, off, u, e, hb, hx, hc⟩ := h.1.at_ hk
  have hl : k < L.length := by have := h.len; omega
  refine ⟨b, off, hl, e, hb, ?_, h.2 _ (List.getElem_mem hl)⟩
  rw [List.getElem?_map, List.getElem?_eq_getElem hl] at hx
  simp only [Option.map_some, Option.some.injEq] at hx
  rw [hc, ← hx]; rfl
theorem Pieces.prefix_ (h : Pieces w B A n L) {k : Nat} (hk : k ≤ n) : Pieces w B A k (L.take k) :=
  ⟨by rw [List.map_take]; exact h.1.prefix_ hk, fun x hx => h.2 x (List.mem_of_mem_take hx)⟩
theorem Pieces.flatB (h : Pieces w B A n L) : IsB (flat L) := fun c hc => by
  obtain ⟨x, hx, hcx⟩ := List.mem_flatMap.1 hc
  exact (h.2 x hx).2.1 c hcx
end

/-! ### a block that is known whole -/
/-- Block g is just the cells cs; none is frozen. -/
def Box (w : World) (g : Nat) (t : TypeId) (cs : Array Value) : Prop := w.heap[g]? = some (.cells cs t (0, 0))
section
variable {w w' : World} {g : Nat} {t : TypeId} {cs : Array Value}
theorem Box.new (w : World) (cs : Array Value) (t : TypeId) : Box (w.alloc (.cells cs t)) w.heap.size t cs := heap_alloc_new w _
theorem Box.lt (h : Box w g t cs) : g < w.heap.size := by
  rcases Nat.lt_or_ge g w.heap.size with hlt | hge
  · exact hlt
  · unfold Box at h; rw [Array.getElem?_eq_none hge] at h; cases h
theorem Box.cell (h : Box w g t cs) (i : Nat) : w.cell? ⟨g, i, none⟩ = cs[i]? := cell_of_row w g i cs t (0, 0) h
theorem Box.frozen (h : Box w g t cs) (i : Nat) : w.frozen? ⟨g, i, none⟩ = false := frozen_of_row w g i cs t h
theorem Box.below {B : Nat} (h : Box w g t cs) (hb : Below B w w') (hg : g < B) : Box w' g t cs := (hb.block g hg).trans h
theorem Box.alloc (h : Box w g t cs) (o : Obj) : Box (w.alloc o) g t cs := (Below.heap_alloc w o g h.lt).trans h
theorem Box.drewN (h : Box w g t cs) (k : Nat) : Box (w.drewN k) g t cs := h
theorem Box.set_ (h : Box w g t cs) (i : Nat) (u : Value) : Box (w.setCell ⟨g, i, none⟩ u) g t (cs.setIfInBounds i u) := heap_setCell_same w g i cs t u h
theorem Box.far (h : Box w g t cs) {p : Addr} (hp : g ≠ p.block) (u : Value) : Box (w.setCell p u) g t cs := (Below.heap_setCell w p u g hp).trans h
theorem Box.grown {row : Option Nat} (h : Box w g t cs) (hb : w.grownBy w' row) (hg : some g ≠ row) : Box w' g t cs := (hb.block g h.lt hg).trans h
/-- A row of another element type is another block. -/
theorem Box.own_ne {base n c : Nat} {e : TypeId} {A : Option Addr} {xs : List Value} (h : Box w g t cs) (ho : Own w base e A n c xs) (hne : e ≠ t) : some g ≠ blk A := by
  intro he
  have hA : (Value.slice A n c).ownBlock = some g := by rw [blk_own]; exact he.symm
  rcases ho.2 with ⟨hv, _⟩ | ⟨g', cap, cur, hv, _, hh, _⟩
  · rw [hv] at hA; cases hA
  · rw [hv] at hA
    have : g' = g := by simpa [Value.ownBlock] using hA
    subst this
    unfold Box at h
    rw [hh] at h
    injection h with h
    injection h with _ ht
    exact hne ht
end

/-- One piece, in a block of its own. -/
theorem Pieces.single {w : World} {B n c : Nat} {A : Option Addr} {l : List Nat} (t : TypeId) (h : Seg w B A n (bts l)) (hl : IsB l) (h1 : n ≤ c) (h2 : c ≤ maxLen) (hB : B ≤ w.heap.size) :
    Pieces (w.alloc (.cells #[.slice A n c] t)) (w.heap.size + 1) (some ⟨w.heap.size, 0, none⟩) 1 [⟨A, n, c, l⟩] :=
  ⟨Seg.one w _ t, fun x hx => by
    obtain rfl : x = ⟨A, n, c, l⟩ := by simpa using hx
    exact ⟨(h.alloc hB _).more (by omega), hl, h1, h2⟩⟩
theorem Pieces.none_ (w : World) (B : Nat) (A : Option Addr) : Pieces w B A 0 [] := ⟨Seg.empty _, fun _ h => by cases h⟩
theorem flat_one (x : Piece) : flat [x] = x.l := by simp [flat]
/-- The bytes of a block that is known whole. -/
theorem Seg.lit {w : World} (l : List Nat) {cs : Array Value} (hcs : cs.toList = bts l) (t : TypeId) : Seg (w.alloc (.cells cs t)) (w.heap.size + 1) (some ⟨w.heap.size, 0, none⟩) cs.size (bts l) := by
  rw [← hcs]
  exact Seg.block (heap_alloc_new w _) (by omega)
end Go.Proofs.Ytaagfmaboggbhaa
