/-
  Edits in memory; the walks of delta.Size and of the law's same.
-/
import Derived.Test.YtaagfmaboggbhaaDeltaPlain
import Derived.Test.YtaagfmaboggbhaaMake
import Derived.Test.YtaagfmaboggbhaaBytes
import Derived.Deep.QuietTactic
import Derived.BigQuiet
import Derived.WalkLawsBesides
import Derived.Outline
namespace Go.Proofs.Ytaagfmaboggbhaa.delta
open Go.RowKit
set_option linter.unusedVariables false

/-- An edit as it lies. -/
structure Ed where
  pos : Int
  x : Piece
def Ed.e (z : Ed) : E := (z.pos, z.x.l)
def es (L : List Ed) : List E := L.map Ed.e
def edCells (L : List Ed) : List Value := L.flatMap fun z => [.int .i64 z.pos, z.x.val]
theorem edCells_len (L : List Ed) : (edCells L).length = L.length * 2 := by
  induction L with
  | nil => rfl
  | cons z L ih => rw [edCells, List.flatMap_cons, List.length_append, ← edCells, ih]; simp; omega
theorem edCells_app (L M : List Ed) : edCells (L ++ M) = edCells L ++ edCells M := by simp [edCells]
theorem edCells_at (L : List Ed) (j : Nat) (h : j < L.length) : (edCells L)[j * 2]? = some (.int .i64 L[j].pos) ∧ (edCells L)[j * 2 + 1]? = some L[j].x.val := by
  induction L generalizing j with
  | nil => exact absurd h (Nat.not_lt_zero _)
  | cons z L ih =>
    have e : edCells (z :: L) = .int .i64 z.pos :: z.x.val :: edCells L := rfl
    rw [e]
    cases j with
    | zero => exact ⟨rfl, rfl⟩
    | succ j =>
      have := ih j (by simpa using h)
      rw [show (j + 1) * 2 = j * 2 + 1 + 1 by omega]
      exact this
/-- A piece that can be read. -/
structure PcOk (w : World) (B : Nat) (x : Piece) : Prop where
  seg : Seg w B x.A x.n (bts x.l)
  isB : IsB x.l
  nc : x.n ≤ x.c
  cm : x.c ≤ maxLen
theorem PcOk.len {w : World} {B : Nat} {x : Piece} (h : PcOk w B x) : x.l.length = x.n := by rw [← bts_len]; exact h.seg.1
theorem PcOk.below {w w' : World} {B : Nat} {x : Piece} (h : PcOk w B x) (hb : Below B w w') : PcOk w' B x := ⟨h.seg.below hb, h.isB, h.nc, h.cm⟩
theorem PcOk.more {w : World} {B B' : Nat} {x : Piece} (h : PcOk w B x) (hb : B ≤ B') : PcOk w B' x := ⟨h.seg.more hb, h.isB, h.nc, h.cm⟩
/-- A slice of edits that can be read. -/
structure EdSeg (w : World) (B : Nat) (A : Option Addr) (n : Nat) (L : List Ed) : Prop where
  len : L.length = n
  cells : 0 < n → ∃ b off, A = some ⟨b, off, none⟩ ∧ b < B ∧ ∀ (j : Nat) (h : j < L.length), w.cell? ⟨b, off + j * 2, none⟩ = some (.int .i64 L[j].pos) ∧ w.cell? ⟨b, off + j * 2 + 1, none⟩ = some (.slice L[j].x.A L[j].x.n L[j].x.c)
  pcs : ∀ z ∈ L, PcOk w B z.x
section
variable {w w' : World} {B B' n : Nat} {A : Option Addr} {L : List Ed}
theorem EdSeg.below (h : EdSeg w B A n L) (hb : Below B w w') : EdSeg w' B A n L :=
  ⟨h.len, fun hn => by
    obtain ⟨b, off, e, hlt, hc⟩ := h.cells hn
    exact ⟨b, off, e, hlt, fun j hj => ⟨(hb.cell (p := ⟨b, _, none⟩) hlt).trans (hc j hj).1, (hb.cell (p := ⟨b, _, none⟩) hlt).trans (hc j hj).2⟩⟩, fun z hz => (h.pcs z hz).below hb⟩
theorem EdSeg.at_ (h : EdSeg w B A n L) {k : Nat} (hk : k < n) : ∃ b off, ∃ hl : k < L.length, A = some ⟨b, off, none⟩ ∧ b < B ∧ w.cell? ⟨b, off + k * 2, none⟩ = some (.int .i64 L[k].pos) ∧ w.cell? ⟨b, off + k * 2 + 1, none⟩ = some (.slice L[k].x.A L[k].x.n L[k].x.c) ∧ PcOk w B L[k].x := by
  obtain ⟨b, off, e, hlt, hc⟩ := h.cells (by omega)
  have hl : k < L.length := by rw [h.len]; exact hk
  exact ⟨b, off, hl, e, hlt, (hc k hl).1, (hc k hl).2, h.pcs _ (List.getElem_mem hl)⟩
theorem EdSeg.nil (w : World) (B : Nat) (A : Option Addr) : EdSeg w B A 0 [] := ⟨rfl, fun h => absurd h (Nat.lt_irrefl 0), fun _ h => by cases h⟩
end
theorem es_take_succ (L : List Ed) {k : Nat} (h : k < L.length) : es (L.take (k + 1)) = es (L.take k) ++ [L[k].e] := by
  unfold es; rw [List.take_succ_eq_append_getElem h, List.map_append]; rfl

set_option maxHeartbeats 800000 in
/-- delta.Size. -/
theorem size_any {w : World} {A : Option Addr} {n c : Nat} {L : List Ed} (h : EdSeg w w.heap.size A n L) (hn : n ≤ 100000) (hs : ∀ z ∈ L, z.x.n ≤ 100000) :
    Calls Try.prog 23 #[.slice A n c] w fun e w' => e = .returned (.int .i64 (size (es L) : Nat)) ∧ Below w.heap.size w w' := by
  have HS := Lib.hid h
  have HZ := Lib.hid hs
  have hl := h.len
  have HL := Lib.hid hl
  clear h hs hl
  go_enter Try.func23, Try.ntmps23
  go_wp2_with fail
  go_loopw [3, 8] (fun v i wr => ∃ k : Nat, k ≤ n ∧ i = .int .i64 (k : Int) ∧ v = .int .i64 ((size (es (L.take k)) : Nat) : Int) ∧ size (es (L.take k)) ≤ k * 100000 ∧ Below w.heap.size w wr) (fun _ i _ => n - (intOf i).toNat)
  case atStart => exact ⟨0, by omega, rfl, rfl, by simp [size, es], Below.refl _ _⟩
  case round =>
    obtain ⟨k, hk, rfl, rfl, hsz, hb⟩ := hrel
    have HB := Lib.hid hb
    clear hb
    by_cases hlt : k < n
    · obtain ⟨b, off, hkl, rfl, hbb, c0, c1, hp⟩ := (HS.out.below HB.out).at_ hlt
      have hst : size (es (L.take (k + 1))) = size (es (L.take k)) + L[k].x.n := by rw [es_take_succ L hkl, size_snoc]; exact congrArg _ hp.len
      have hzz := HZ.out _ (List.getElem_mem hkl)
      have HST := Lib.hid hst
      clear hp hst
      generalize size (es (L.take k)) = s at *
      generalize L[k] = z at *
      go_wp2_with fail
      go_roundw
      case rel => exact ⟨k + 1, by omega, by go_num, by rw [HST.out]; go_num, by rw [HST.out]; omega, HB.out.alloc HB.out.size _⟩
      case measure => simp [intOf]; omega
    · obtain rfl : k = n := by omega
      have e1 : L.take k = L := List.take_of_length_le (by rw [HL.out]; omega)
      have E1 := Lib.hid e1
      clear e1
      go_wp2_with fail
      go_ret
      exact ⟨by rw [← E1.out]; simp only [E1.out]; rfl, HB.out⟩

set_option maxRecDepth 100000 in
set_option maxHeartbeats 1600000 in
/-- The law's same, of edits that are the same. -/
theorem same_true {w : World} {A A2 : Option Addr} {n c c2 : Nat} {L M : List Ed} (h : EdSeg w w.heap.size A n L) (h2 : EdSeg w w.heap.size A2 n M) (he : es L = es M) (hn : n ≤ 100000) :
    Calls Try.prog 21 #[.slice A n c, .slice A2 n c2] w fun e w' => e = .returned (.bool true) ∧ Below w.heap.size w w' := by
  have HS := Lib.hid h
  have HM := Lib.hid h2
  have HE := Lib.hid he
  clear h h2 he
  go_enter Try.func21, Try.ntmps21
  go_wp2_with fail
  go_loopw [5] (fun i wr => ∃ k : Nat, k ≤ n ∧ i = .int .i64 (k : Int) ∧ Below w.heap.size w wr) (fun i _ => n - (intOf i).toNat)
  case atStart => exact ⟨0, by omega, rfl, Below.refl _ _⟩
  case round =>
    obtain ⟨k, hk, rfl, hb⟩ := hrel
    have HB := Lib.hid hb
    clear hb
    by_cases hlt : k < n
    · obtain ⟨b, off, hkl, rfl, hbb, c0, c1, hp⟩ := (HS.out.below HB.out).at_ hlt
      obtain ⟨b', off', hkl', rfl, hbb', c0', c1', hp'⟩ := (HM.out.below HB.out).at_ hlt
      have hkk : L[k].e = M[k].e := by
        have h1 := congrArg (fun l => l[k]?) HE.out
        simp only [es, List.getElem?_map, List.getElem?_eq_getElem hkl, List.getElem?_eq_getElem hkl', Option.map_some, Option.some.injEq] at h1
        exact h1
      have hpos : L[k].pos = M[k].pos := congrArg Prod.fst hkk
      have hdat : L[k].x.l = M[k].x.l := congrArg Prod.snd hkk
      rw [hpos] at c0
      have HQ := Lib.hid (fun W (hW : Below w.heap.size wr W) => equal_any L[k].x.c M[k].x.c (hp.below hW).seg (by have := (hp'.below hW).seg; rw [← hdat] at this; exact this) hp.isB hp.isB)
      clear hkk hpos hdat hp hp'
      generalize M[k].pos = q at *
      generalize L[k].x = x at *
      generalize M[k].x = y at *
      have b0 : (0 : Int) ≤ (k : Int) := by omega
      have b1 : (k : Int) < (n : Int) := by omega
      have b2 : ((k : Int)).toNat = k := by omega
      have hqq : (q == q) = true := by simp
      have hqn : (q != q) = false := by simp
      go_wp2_with fail
      go_quiet ((go_at_call 15; exact Calls.quiet_of_same ((HQ.out _ (Bdrew (Below.refl _ _) _)).mono (fun e w' h => ⟨h.1, h.2.symm⟩))))
      go_wp2_with fail
      go_roundw
      case rel => exact ⟨k + 1, by omega, by go_num, Bdrew HB.out _⟩
      case measure => simp [intOf]; omega
    · go_wp2_with fail
      go_ret
      exact ⟨rfl, HB.out⟩
end Go.Proofs.Ytaagfmaboggbhaa.delta
