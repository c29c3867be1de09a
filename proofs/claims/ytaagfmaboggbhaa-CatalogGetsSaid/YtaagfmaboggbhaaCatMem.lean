/-
  A catalog in memory: volumes, groups, bookmarks, numbers that are kept, times.
-/
import Derived.Test.YtaagfmaboggbhaaCatMarks
namespace Go.Proofs.Ytaagfmaboggbhaa.cat
open Go.RowKit
set_option linter.unusedVariables false

def I64 (x : Int) : Prop := -9223372036854775808 ≤ x ∧ x ≤ 9223372036854775807
def U64 (x : Nat) : Prop := x < 18446744073709551616
/-- Numbers without a sign, as cells. -/
def us (l : List Nat) : List Value := l.map fun x : Nat => Value.int .u64 (x : Int)
theorem us_len (l : List Nat) : (us l).length = l.length := by simp [us]
theorem Seg.us {w : World} {B n : Nat} {A : Option Addr} {l : List Nat} (h : Seg w B A n (us l)) {k : Nat} (hk : k < n) :
    ∃ b off, ∃ hl : k < l.length, A = some ⟨b, off, none⟩ ∧ b < B ∧ w.cell? ⟨b, off + k, none⟩ = some (.int .u64 (l[k]'hl : Nat)) ∧ (0 < k → w.cell? ⟨b, off + (k - 1), none⟩ = some (.int .u64 (l[k - 1]'(by omega) : Nat))) := by
  obtain ⟨b, off, e, hb, hc⟩ := h.2 (by omega)
  have hl : k < l.length := by have := h.1; rw [us_len] at this; omega
  refine ⟨b, off, hl, e, hb, hc k _ ?_, fun h0 => hc (k - 1) _ ?_⟩
  · rw [cat.us, List.getElem?_map, List.getElem?_eq_getElem hl]; rfl
  · rw [cat.us, List.getElem?_map, List.getElem?_eq_getElem (by omega)]; rfl
/-- One as it lies. -/
structure Vol where
  id : Int
  born : Nat
  A : Option Addr
  n : Nat
  c : Nat
  l : List (Nat × Nat)
/-- One that can be read. -/
structure VolOk (w : World) (B : Nat) (z : Vol) : Prop where
  seg : MkSeg w B z.A z.n z.l
  nc : z.n ≤ z.c
  cm : z.c ≤ maxLen
  bid : I64 z.id
  bborn : U64 z.born
theorem VolOk.below {w w' : World} {B : Nat} {z : Vol} (h : VolOk w B z) (hb : Below B w w') : VolOk w' B z := ⟨h.seg.below hb, h.nc, h.cm, h.bid, h.bborn⟩
theorem VolOk.more {w : World} {B B' : Nat} {z : Vol} (h : VolOk w B z) (hb : B ≤ B') : VolOk w B' z := ⟨h.seg.more hb, h.nc, h.cm, h.bid, h.bborn⟩
theorem VolOk.len {w : World} {B : Nat} {z : Vol} (h : VolOk w B z) : z.l.length = z.n := h.seg.len
/-- A slice of them that can be read. -/
structure VolSeg (w : World) (B : Nat) (A : Option Addr) (n : Nat) (L : List Vol) : Prop where
  len : L.length = n
  cells : 0 < n → ∃ b off, A = some ⟨b, off, none⟩ ∧ b < B ∧ ∀ (j : Nat) (h : j < L.length), w.cell? ⟨b, off + j * 3, none⟩ = some (.int .i64 L[j].id) ∧ w.cell? ⟨b, off + j * 3 + 1, none⟩ = some (.int .u64 (L[j].born : Int)) ∧ w.cell? ⟨b, off + j * 3 + 2, none⟩ = some (.slice L[j].A L[j].n L[j].c)
  ok : ∀ z ∈ L, VolOk w B z
section
variable {w w' : World} {B B' n : Nat} {A : Option Addr} {L : List Vol}
theorem VolSeg.below (h : VolSeg w B A n L) (hb : Below B w w') : VolSeg w' B A n L :=
  ⟨h.len, fun hn => by
    obtain ⟨b, off, e, hlt, hc⟩ := h.cells hn
    exact ⟨b, off, e, hlt, fun j hj => ⟨(hb.cell (p := ⟨b, _, none⟩) hlt).trans (hc j hj).1, (hb.cell (p := ⟨b, _, none⟩) hlt).trans (hc j hj).2.1, (hb.cell (p := ⟨b, _, none⟩) hlt).trans (hc j hj).2.2⟩⟩, fun z hz => (h.ok z hz).below hb⟩
theorem VolSeg.more (h : VolSeg w B A n L) (hB : B ≤ B') : VolSeg w B' A n L :=
  ⟨h.len, fun hn => by obtain ⟨b, off, e, hb, hc⟩ := h.cells hn; exact ⟨b, off, e, by omega, hc⟩, fun z hz => (h.ok z hz).more hB⟩
theorem VolSeg.nil (w : World) (B : Nat) (A : Option Addr) : VolSeg w B A 0 [] := ⟨rfl, fun h => absurd h (Nat.lt_irrefl 0), fun _ h => by cases h⟩
theorem VolSeg.at_ (h : VolSeg w B A n L) {k : Nat} (hk : k < n) : ∃ b off, ∃ hl : k < L.length, A = some ⟨b, off, none⟩ ∧ b < B ∧ w.cell? ⟨b, off + k * 3, none⟩ = some (.int .i64 L[k].id) ∧ w.cell? ⟨b, off + k * 3 + 1, none⟩ = some (.int .u64 (L[k].born : Int)) ∧ w.cell? ⟨b, off + k * 3 + 2, none⟩ = some (.slice L[k].A L[k].n L[k].c) ∧ VolOk w B L[k] := by
  obtain ⟨b, off, e, hlt, hc⟩ := h.cells (by omega)
  have hl : k < L.length := by rw [h.len]; exact hk
  exact ⟨b, off, hl, e, hlt, (hc k hl).1, (hc k hl).2.1, (hc k hl).2.2, h.ok _ (List.getElem_mem hl)⟩
end
/-- One as it lies. -/
structure Grp where
  id : Int
  A : Option Addr
  n : Nat
  c : Nat
  l : List Int
/-- One that can be read. -/
structure GrpOk (w : World) (B : Nat) (z : Grp) : Prop where
  seg : Seg w B z.A z.n (nums z.l) ∧ ∀ x ∈ z.l, I64 x
  nc : z.n ≤ z.c
  cm : z.c ≤ maxLen
  bid : I64 z.id
theorem GrpOk.below {w w' : World} {B : Nat} {z : Grp} (h : GrpOk w B z) (hb : Below B w w') : GrpOk w' B z := ⟨⟨h.seg.1.below hb, h.seg.2⟩, h.nc, h.cm, h.bid⟩
theorem GrpOk.more {w : World} {B B' : Nat} {z : Grp} (h : GrpOk w B z) (hb : B ≤ B') : GrpOk w B' z := ⟨⟨h.seg.1.more hb, h.seg.2⟩, h.nc, h.cm, h.bid⟩
theorem GrpOk.len {w : World} {B : Nat} {z : Grp} (h : GrpOk w B z) : z.l.length = z.n := by have := h.seg.1.1; rwa [nums_len] at this
/-- A slice of them that can be read. -/
structure GrpSeg (w : World) (B : Nat) (A : Option Addr) (n : Nat) (L : List Grp) : Prop where
  len : L.length = n
  cells : 0 < n → ∃ b off, A = some ⟨b, off, none⟩ ∧ b < B ∧ ∀ (j : Nat) (h : j < L.length), w.cell? ⟨b, off + j * 2, none⟩ = some (.int .i64 L[j].id) ∧ w.cell? ⟨b, off + j * 2 + 1, none⟩ = some (.slice L[j].A L[j].n L[j].c)
  ok : ∀ z ∈ L, GrpOk w B z
section
variable {w w' : World} {B B' n : Nat} {A : Option Addr} {L : List Grp}
theorem GrpSeg.below (h : GrpSeg w B A n L) (hb : Below B w w') : GrpSeg w' B A n L :=
  ⟨h.len, fun hn => by
    obtain ⟨b, off, e, hlt, hc⟩ := h.cells hn
    exact ⟨b, off, e, hlt, fun j hj => ⟨(hb.cell (p := ⟨b, _, none⟩) hlt).trans (hc j hj).1, (hb.cell (p := ⟨b, _, none⟩) hlt).trans (hc j hj).2⟩⟩, fun z hz => (h.ok z hz).below hb⟩
theorem GrpSeg.more (h : GrpSeg w B A n L) (hB : B ≤ B') : GrpSeg w B' A n L :=
  ⟨h.len, fun hn => by obtain ⟨b, off, e, hb, hc⟩ := h.cells hn; exact ⟨b, off, e, by omega, hc⟩, fun z hz => (h.ok z hz).more hB⟩
theorem GrpSeg.nil (w : World) (B : Nat) (A : Option Addr) : GrpSeg w B A 0 [] := ⟨rfl, fun h => absurd h (Nat.lt_irrefl 0), fun _ h => by cases h⟩
theorem GrpSeg.at_ (h : GrpSeg w B A n L) {k : Nat} (hk : k < n) : ∃ b off, ∃ hl : k < L.length, A = some ⟨b, off, none⟩ ∧ b < B ∧ w.cell? ⟨b, off + k * 2, none⟩ = some (.int .i64 L[k].id) ∧ w.cell? ⟨b, off + k * 2 + 1, none⟩ = some (.slice L[k].A L[k].n L[k].c) ∧ GrpOk w B L[k] := by
  obtain ⟨b, off, e, hlt, hc⟩ := h.cells (by omega)
  have hl : k < L.length := by rw [h.len]; exact hk
  exact ⟨b, off, hl, e, hlt, (hc k hl).1, (hc k hl).2, h.ok _ (List.getElem_mem hl)⟩
end
/-- One as it lies. -/
structure Bk where
  id : Int
  seq : Nat
  A : Option Addr
  n : Nat
  c : Nat
  l : List Int
/-- One that can be read. -/
structure BkOk (w : World) (B : Nat) (z : Bk) : Prop where
  seg : Seg w B z.A z.n (nums z.l) ∧ ∀ x ∈ z.l, I64 x
  nc : z.n ≤ z.c
  cm : z.c ≤ maxLen
  bid : I64 z.id
  bseq : U64 z.seq
theorem BkOk.below {w w' : World} {B : Nat} {z : Bk} (h : BkOk w B z) (hb : Below B w w') : BkOk w' B z := ⟨⟨h.seg.1.below hb, h.seg.2⟩, h.nc, h.cm, h.bid, h.bseq⟩
theorem BkOk.more {w : World} {B B' : Nat} {z : Bk} (h : BkOk w B z) (hb : B ≤ B') : BkOk w B' z := ⟨⟨h.seg.1.more hb, h.seg.2⟩, h.nc, h.cm, h.bid, h.bseq⟩
theorem BkOk.len {w : World} {B : Nat} {z : Bk} (h : BkOk w B z) : z.l.length = z.n := by have := h.seg.1.1; rwa [nums_len] at this
/-- A slice of them that can be read. -/
structure BkSeg (w : World) (B : Nat) (A : Option Addr) (n : Nat) (L : List Bk) : Prop where
  len : L.length = n
  cells : 0 < n → ∃ b off, A = some ⟨b, off, none⟩ ∧ b < B ∧ ∀ (j : Nat) (h : j < L.length), w.cell? ⟨b, off + j * 3, none⟩ = some (.int .i64 L[j].id) ∧ w.cell? ⟨b, off + j * 3 + 1, none⟩ = some (.int .u64 (L[j].seq : Int)) ∧ w.cell? ⟨b, off + j * 3 + 2, none⟩ = some (.slice L[j].A L[j].n L[j].c)
  ok : ∀ z ∈ L, BkOk w B z
section
variable {w w' : World} {B B' n : Nat} {A : Option Addr} {L : List Bk}
theorem BkSeg.below (h : BkSeg w B A n L) (hb : Below B w w') : BkSeg w' B A n L :=
  ⟨h.len, fun hn => by
    obtain ⟨b, off, e, hlt, hc⟩ := h.cells hn
    exact ⟨b, off, e, hlt, fun j hj => ⟨(hb.cell (p := ⟨b, _, none⟩) hlt).trans (hc j hj).1, (hb.cell (p := ⟨b, _, none⟩) hlt).trans (hc j hj).2.1, (hb.cell (p := ⟨b, _, none⟩) hlt).trans (hc j hj).2.2⟩⟩, fun z hz => (h.ok z hz).below hb⟩
theorem BkSeg.more (h : BkSeg w B A n L) (hB : B ≤ B') : BkSeg w B' A n L :=
  ⟨h.len, fun hn => by obtain ⟨b, off, e, hb, hc⟩ := h.cells hn; exact ⟨b, off, e, by omega, hc⟩, fun z hz => (h.ok z hz).more hB⟩
theorem BkSeg.nil (w : World) (B : Nat) (A : Option Addr) : BkSeg w B A 0 [] := ⟨rfl, fun h => absurd h (Nat.lt_irrefl 0), fun _ h => by cases h⟩
theorem BkSeg.at_ (h : BkSeg w B A n L) {k : Nat} (hk : k < n) : ∃ b off, ∃ hl : k < L.length, A = some ⟨b, off, none⟩ ∧ b < B ∧ w.cell? ⟨b, off + k * 3, none⟩ = some (.int .i64 L[k].id) ∧ w.cell? ⟨b, off + k * 3 + 1, none⟩ = some (.int .u64 (L[k].seq : Int)) ∧ w.cell? ⟨b, off + k * 3 + 2, none⟩ = some (.slice L[k].A L[k].n L[k].c) ∧ BkOk w B L[k] := by
  obtain ⟨b, off, e, hlt, hc⟩ := h.cells (by omega)
  have hl : k < L.length := by rw [h.len]; exact hk
  exact ⟨b, off, hl, e, hlt, (hc k hl).1, (hc k hl).2.1, (hc k hl).2.2, h.ok _ (List.getElem_mem hl)⟩
end
/-- A catalog as it lies. -/
structure Cat where
  nv : Int
  ng : Int
  nb : Int
  floor : Nat
  vA : Option Addr
  vn : Nat
  vc : Nat
  v : List Vol
  gA : Option Addr
  gn : Nat
  gc : Nat
  g : List Grp
  bA : Option Addr
  bn : Nat
  bc : Nat
  b : List Bk
  kA : Option Addr
  kn : Nat
  kc : Nat
  k : List Nat
  tA : Option Addr
  tn : Nat
  tc : Nat
  t : List (Nat × Nat)
def Cat.cells (c : Cat) : Array Value := #[.int .i64 c.nv, .int .i64 c.ng, .int .i64 c.nb, .int .u64 (c.floor : Int), .slice c.vA c.vn c.vc, .slice c.gA c.gn c.gc, .slice c.bA c.bn c.bc, .slice c.kA c.kn c.kc, .slice c.tA c.tn c.tc]
def Cat.val (c : Cat) : Value := .agg c.cells
/-- A catalog that can be read. -/
structure CatOk (w : World) (B : Nat) (c : Cat) : Prop where
  nv : I64 c.nv
  ng : I64 c.ng
  nb : I64 c.nb
  floor : U64 c.floor
  v : VolSeg w B c.vA c.vn c.v
  g : GrpSeg w B c.gA c.gn c.g
  b : BkSeg w B c.bA c.bn c.b
  k : Seg w B c.kA c.kn (us c.k)
  ku : ∀ x ∈ c.k, U64 x
  t : MkSeg w B c.tA c.tn c.t
  cv : c.vn ≤ c.vc ∧ c.vc ≤ maxLen
  cg : c.gn ≤ c.gc ∧ c.gc ≤ maxLen
  cb : c.bn ≤ c.bc ∧ c.bc ≤ maxLen
  ck : c.kn ≤ c.kc ∧ c.kc ≤ maxLen
  ct : c.tn ≤ c.tc ∧ c.tc ≤ maxLen
theorem CatOk.below {w w' : World} {B : Nat} {c : Cat} (h : CatOk w B c) (hb : Below B w w') : CatOk w' B c :=
  ⟨h.nv, h.ng, h.nb, h.floor, h.v.below hb, h.g.below hb, h.b.below hb, h.k.below hb, h.ku, h.t.below hb, h.cv, h.cg, h.cb, h.ck, h.ct⟩
theorem CatOk.more {w : World} {B B' : Nat} {c : Cat} (h : CatOk w B c) (hB : B ≤ B') : CatOk w B' c :=
  ⟨h.nv, h.ng, h.nb, h.floor, h.v.more hB, h.g.more hB, h.b.more hB, h.k.more hB, h.ku, h.t.more hB, h.cv, h.cg, h.cb, h.ck, h.ct⟩
/-- No list is longer than so many. -/
def Cat.Short (c : Cat) : Prop := c.vn ≤ 300 ∧ c.gn ≤ 300 ∧ c.bn ≤ 300 ∧ c.kn ≤ 300 ∧ c.tn ≤ 300 ∧ (∀ z ∈ c.v, z.n ≤ 300) ∧ (∀ z ∈ c.g, z.n ≤ 300) ∧ ∀ z ∈ c.b, z.n ≤ 300
/-- May volumes be? -/
def VolsOk (c : Cat) : Prop := (∀ z ∈ c.v, SizesOk z.l) ∧ Rise (c.v.map Vol.id) c.nv ∧ c.v.length ≤ 8
def MemOk (l : List Int) : Prop := 1 ≤ l.length ∧ l.length ≤ 8 ∧ Rise l 65535
def MarksOk (c : Cat) : Prop := (∀ z ∈ c.g, MemOk z.l) ∧ (∀ z ∈ c.b, MemOk z.l) ∧ Rise (c.g.map Grp.id) c.ng ∧ Rise (c.b.map Bk.id) c.nb ∧ c.g.length ≤ 4 ∧ c.b.length ≤ 8
def KeptOk (l : List Nat) : Prop := (∀ k, ∀ h : k < l.length, 0 < k → l[k - 1] < l[k]) ∧ l.length ≤ 32
/-- May a catalog be? -/
def RightC (c : Cat) : Prop := (0 ≤ c.nv ∧ c.nv ≤ 65535) ∧ (0 ≤ c.ng ∧ c.ng ≤ 65535) ∧ (0 ≤ c.nb ∧ c.nb ≤ 65535) ∧ KeptOk c.k ∧ VolsOk c ∧ MarksOk c ∧ TimesOk c.t
end Go.Proofs.Ytaagfmaboggbhaa.cat
