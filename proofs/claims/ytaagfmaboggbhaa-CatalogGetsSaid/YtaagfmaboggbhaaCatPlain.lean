/-
  The bytes of a catalog, in plain Lean.
-/
import Derived.Test.YtaagfmaboggbhaaCatRight
import Derived.Test.YtaagfmaboggbhaaCatFix
namespace Go.Proofs.Ytaagfmaboggbhaa.cat
open Go.RowKit
set_option linter.unusedVariables false
open fix (leB leB_len leB_isB leB_snoc)

/-- A count, and things. -/
def cntB {α : Type} (f : α → List Nat) (L : List α) : List Nat := leB L.length 1 ++ L.flatMap f
def n16 (x : Int) : List Nat := leB x.toNat 2
def n64 (x : Nat) : List Nat := leB x 8
def sizeB (m : Nat × Nat) : List Nat := leB m.1 8 ++ leB m.2 1
def timeB (m : Nat × Nat) : List Nat := leB m.1 8 ++ leB m.2 8
def volB (z : Vol) : List Nat := leB z.id.toNat 2 ++ leB z.born 8 ++ cntB sizeB z.l
def grpB (z : Grp) : List Nat := leB z.id.toNat 2 ++ cntB n16 z.l
def bkB (z : Bk) : List Nat := leB z.id.toNat 2 ++ leB z.seq 8 ++ cntB n16 z.l
def headB (c : Cat) : List Nat := n16 c.nv ++ n16 c.ng ++ n16 c.nb ++ leB c.floor 8
def putC (c : Cat) : List Nat := headB c ++ cntB volB c.v ++ cntB grpB c.g ++ cntB bkB c.b ++ cntB n64 c.k ++ cntB timeB c.t

theorem flat_snoc {α : Type} (f : α → List Nat) (L : List α) {k : Nat} (h : k < L.length) : (L.take (k + 1)).flatMap f = (L.take k).flatMap f ++ f L[k] := by
  rw [List.take_succ_eq_append_getElem h, List.flatMap_append]; simp
theorem flat_isB {α : Type} {f : α → List Nat} (h : ∀ x, IsB (f x)) (L : List α) : IsB (L.flatMap f) := fun c hc => by
  obtain ⟨x, _, hx⟩ := List.mem_flatMap.1 hc
  exact h x c hx
theorem cnt_isB {α : Type} {f : α → List Nat} (h : ∀ x, IsB (f x)) (L : List α) : IsB (cntB f L) := (leB_isB _ _).app (flat_isB h L)
theorem vol_isB (z : Vol) : IsB (volB z) := ((leB_isB _ _).app (leB_isB _ _)).app (cnt_isB (fun _ => (leB_isB _ _).app (leB_isB _ _)) _)
theorem grp_isB (z : Grp) : IsB (grpB z) := (leB_isB _ _).app (cnt_isB (fun _ => leB_isB _ _) _)
theorem bk_isB (z : Bk) : IsB (bkB z) := ((leB_isB _ _).app (leB_isB _ _)).app (cnt_isB (fun _ => leB_isB _ _) _)
theorem head_isB (c : Cat) : IsB (headB c) := (((leB_isB _ _).app (leB_isB _ _)).app (leB_isB _ _)).app (leB_isB _ _)
theorem putC_isB (c : Cat) : IsB (putC c) :=
  (((((head_isB c).app (cnt_isB vol_isB _)).app (cnt_isB grp_isB _)).app (cnt_isB bk_isB _)).app (cnt_isB (fun _ => leB_isB _ _) _)).app (cnt_isB (fun _ => (leB_isB _ _).app (leB_isB _ _)) _)
theorem flat_len {α : Type} {f : α → List Nat} (L : List α) (d : Nat) (h : ∀ x ∈ L, (f x).length ≤ d) : (L.flatMap f).length ≤ L.length * d := by
  induction L with
  | nil => simp
  | cons a L ih =>
    rw [List.flatMap_cons, List.length_append, List.length_cons, Nat.succ_mul]
    have h1 := h a (by simp)
    have h2 := ih (fun x hx => h x (by simp [hx]))
    omega
theorem cnt_len {α : Type} {f : α → List Nat} (L : List α) (d m : Nat) (h : ∀ x ∈ L, (f x).length ≤ d) (hm : L.length ≤ m) : (cntB f L).length ≤ 1 + m * d := by
  have h1 := flat_len L d h
  have h2 := Nat.mul_le_mul_right d hm
  unfold cntB
  rw [List.length_append, leB_len]
  omega
/-- A right catalog's lists are short. -/
theorem right_short {c : Cat} (h : RightC c) : c.v.length ≤ 8 ∧ c.g.length ≤ 4 ∧ c.b.length ≤ 8 ∧ c.k.length ≤ 32 ∧ c.t.length ≤ 64 ∧ (∀ z ∈ c.v, z.l.length ≤ 16) ∧ (∀ z ∈ c.g, z.l.length ≤ 8) ∧ ∀ z ∈ c.b, z.l.length ≤ 8 :=
  ⟨h.2.2.2.2.1.2.2, h.2.2.2.2.2.1.2.2.2.2.1, h.2.2.2.2.2.1.2.2.2.2.2, h.2.2.2.1.2, h.2.2.2.2.2.2.2, fun z hz => (h.2.2.2.2.1.1 z hz).2.2, fun z hz => (h.2.2.2.2.2.1.1 z hz).2.1, fun z hz => (h.2.2.2.2.2.1.2.1 z hz).2.1⟩
theorem putC_len {c : Cat} (h : RightC c) : (putC c).length ≤ 5000 := by
  obtain ⟨h1, h2, h3, h4, h5, h6, h7, h8⟩ := right_short h
  have a1 := cnt_len (f := volB) c.v 160 8 (fun z hz => by
    have := cnt_len (f := sizeB) z.l 9 16 (fun m _ => by simp [sizeB, leB_len]) (h6 z hz)
    simp only [volB, List.length_append, leB_len]; omega) h1
  have a2 := cnt_len (f := grpB) c.g 30 4 (fun z hz => by
    have := cnt_len (f := n16) z.l 2 8 (fun m _ => by simp [n16, leB_len]) (h7 z hz)
    simp only [grpB, List.length_append, leB_len]; omega) h2
  have a3 := cnt_len (f := bkB) c.b 30 8 (fun z hz => by
    have := cnt_len (f := n16) z.l 2 8 (fun m _ => by simp [n16, leB_len]) (h8 z hz)
    simp only [bkB, List.length_append, leB_len]; omega) h3
  have a4 := cnt_len (f := n64) c.k 8 32 (fun m _ => by simp [n64, leB_len]) h4
  have a5 := cnt_len (f := timeB) c.t 16 64 (fun m _ => by simp [timeB, leB_len]) h5
  simp only [putC, headB, n16, List.length_append, leB_len]
  omega

/-- What lies behind a beginning. -/
theorem rise_bd {l : List Int} {most : Int} (h : Rise l most) (hm : most ≤ 65535) : ∀ x ∈ l, 0 ≤ x ∧ x ≤ 65535 := fun x hx => by
  obtain ⟨k, hk, rfl⟩ := List.mem_iff_getElem.1 hx
  have := h k hk
  omega
end Go.Proofs.Ytaagfmaboggbhaa.cat
