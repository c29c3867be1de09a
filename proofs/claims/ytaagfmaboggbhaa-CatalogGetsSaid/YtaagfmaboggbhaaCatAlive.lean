/-
  The walks of catalog.Size and of the law's alive.
-/
import Derived.Test.YtaagfmaboggbhaaCatGet
import Derived.Test.YtaagfmaboggbhaaCatPut
import Derived.Test.YtaagfmaboggbhaaCatLaw
namespace Go.Proofs.Ytaagfmaboggbhaa.cat
open Go.RowKit
set_option linter.unusedVariables false
open fix (endC leB leB_len)

/-- May a catalog be, as plain data? -/
def RightP (p : PC) : Prop := (0 ≤ p.nv ∧ p.nv ≤ 65535) ∧ (0 ≤ p.ng ∧ p.ng ≤ 65535) ∧ (0 ≤ p.nb ∧ p.nb ≤ 65535) ∧ KeptOk p.k ∧ ((∀ q ∈ p.v, SizesOk q.2.2) ∧ Rise (p.v.map (·.1)) p.nv ∧ p.v.length ≤ 8) ∧
  ((∀ q ∈ p.g, MemOk q.2) ∧ (∀ q ∈ p.b, MemOk q.2.2) ∧ Rise (p.g.map (·.1)) p.ng ∧ Rise (p.b.map (·.1)) p.nb ∧ p.g.length ≤ 4 ∧ p.b.length ≤ 8) ∧ TimesOk p.t
theorem all_iff {α β : Type} {f : α → β} {L : List α} {P : β → Prop} : (∀ z ∈ L, P (f z)) ↔ ∀ q ∈ L.map f, P q := by simp
theorem right_p (c : Cat) : RightC c ↔ RightP c.plain := by
  have e1 : (∀ z ∈ c.v, SizesOk z.l) ↔ ∀ q ∈ c.v.map Vol.p, SizesOk q.2.2 := all_iff (f := Vol.p) (P := fun q => SizesOk q.2.2)
  have e2 : (∀ z ∈ c.g, MemOk z.l) ↔ ∀ q ∈ c.g.map Grp.p, MemOk q.2 := all_iff (f := Grp.p) (P := fun q => MemOk q.2)
  have e3 : (∀ z ∈ c.b, MemOk z.l) ↔ ∀ q ∈ c.b.map Bk.p, MemOk q.2.2 := all_iff (f := Bk.p) (P := fun q => MemOk q.2.2)
  have m1 : (c.v.map Vol.p).map (·.1) = c.v.map Vol.id := by rw [List.map_map]; rfl
  have m2 : (c.g.map Grp.p).map (·.1) = c.g.map Grp.id := by rw [List.map_map]; rfl
  have m3 : (c.b.map Bk.p).map (·.1) = c.b.map Bk.id := by rw [List.map_map]; rfl
  unfold RightC RightP VolsOk MarksOk Cat.plain
  simp only [m1, m2, m3, List.length_map]
  rw [e1, e2, e3]
theorem right_same {a b : Cat} (h : a.plain = b.plain) : RightC a ↔ RightC b := by rw [right_p, right_p, h]
theorem same_plain {a b : Cat} (h : a.plain = b.plain) : SameC a b := by
  unfold Cat.plain at h
  injection h with h1 h2 h3 h4 h5 h6 h7 h8 h9
  exact ⟨h1, h2, h3, h4, h5, h6, h7, h8, h9⟩
theorem zero_right : RightC zeroCat :=
  ⟨⟨by decide, by decide⟩, ⟨by decide, by decide⟩, ⟨by decide, by decide⟩, ⟨(fun k h => absurd h (Nat.not_lt_zero _)), by decide⟩, ⟨(fun z hz => by cases hz), (fun k h => absurd h (Nat.not_lt_zero _)), by decide⟩,
    ⟨(fun z hz => by cases hz), (fun z hz => by cases hz), (fun k h => absurd h (Nat.not_lt_zero _)), (fun k h => absurd h (Nat.not_lt_zero _)), by decide, by decide⟩, ⟨(fun k h => absurd h (Nat.not_lt_zero _)), by decide⟩⟩
theorem zero_ok (w : World) (B : Nat) : CatOk w B zeroCat :=
  ⟨by unfold I64 zeroCat; decide, by unfold I64 zeroCat; decide, by unfold I64 zeroCat; decide, by unfold U64 zeroCat; decide, VolSeg.nil _ _ _, GrpSeg.nil _ _ _, BkSeg.nil _ _ _, Seg.empty _, (fun x hx => by cases hx), MkSeg.nil _ _ _, ⟨Nat.le_refl _, Nat.zero_le _⟩, ⟨Nat.le_refl _, Nat.zero_le _⟩, ⟨Nat.le_refl _, Nat.zero_le _⟩, ⟨Nat.le_refl _, Nat.zero_le _⟩, ⟨Nat.le_refl _, Nat.zero_le _⟩⟩
theorem zero_short : zeroCat.Short := ⟨Nat.zero_le _, Nat.zero_le _, Nat.zero_le _, Nat.zero_le _, Nat.zero_le _, (fun z hz => by cases hz), (fun z hz => by cases hz), (fun z hz => by cases hz)⟩
theorem zero_put : putC zeroCat = List.replicate 19 0 := by decide
/-- A right catalog is read as it was. -/
theorem back {w : World} {B : Nat} {c : Cat} (hc : CatOk w B c) (hr : RightC c) : pcat (putC c, false) = (c.plain, ([], false)) := by
  have h1 := right_short hr
  have h2 := putOk hr
  rw [putC_p]
  refine put_get c.plain h2.nv h2.ng h2.nb hc.floor ⟨?_, ?_⟩ ⟨?_, ?_⟩ ⟨?_, ?_⟩ ⟨?_, hc.ku⟩ ⟨?_, hc.t.bd⟩
  · show (c.v.map Vol.p).length ≤ 255
    rw [List.length_map]; omega
  · show ∀ q ∈ c.v.map Vol.p, _
    refine all_iff.1 fun z hz => ⟨h2.vid z hz, (hc.v.ok z hz).bborn, ?_, fun m hm => ⟨((hc.v.ok z hz).seg.bd m hm).1, ?_⟩⟩
    · have := h1.2.2.2.2.2.1 z hz
      show z.l.length ≤ 255
      omega
    · have := size_bd hr z hz m hm
      omega
  · show (c.g.map Grp.p).length ≤ 255
    rw [List.length_map]; omega
  · show ∀ q ∈ c.g.map Grp.p, _
    refine all_iff.1 fun z hz => ⟨h2.gid z hz, ?_, h2.gm z hz⟩
    have := h1.2.2.2.2.2.2.1 z hz
    show z.l.length ≤ 255
    omega
  · show (c.b.map Bk.p).length ≤ 255
    rw [List.length_map]; omega
  · show ∀ q ∈ c.b.map Bk.p, _
    refine all_iff.1 fun z hz => ⟨h2.bid z hz, (hc.b.ok z hz).bseq, ?_, h2.bm z hz⟩
    have := h1.2.2.2.2.2.2.2 z hz
    show z.l.length ≤ 255
    omega
  · show c.k.length ≤ 255
    omega
  · show c.t.length ≤ 255
    omega

set_option maxHeartbeats 1600000 in
theorem size_yes {w : World} {c : Cat} (h : CatOk w w.heap.size c) (hr : RightC c) :
    Calls Try.prog 40 #[c.val] w fun e w' => e = .returned (.int .i64 ((putC c).length : Nat)) ∧ Below w.heap.size w w' := by
  have HB := Lib.hid ((Below.refl w.heap.size w).alloc (Nat.le_refl _) (.cells c.cells 68))
  have HP := Lib.hid (put_yes ((h.below HB.out).more HB.out.size) hr)
  clear h hr
  unfold Cat.val at *
  generalize putC c = l at *
  obtain ⟨nv, ng, nb, fl, vA, vn, vc, v, gA, gn, gc, g, bA, bn, bc, b, kA, kn, kc, kl, tA, tn, tc, t⟩ := c
  unfold Cat.cells at *
  go_enter Try.func40, Try.ntmps40
  go_wp2_with fail
  refine (HP.out).mono ?_
  rintro e w1 ⟨A, n, c', rfl, rfl, hown, hb⟩
  have HB1 := Lib.hid (nextB HB.out (Nat.le_refl _) hb)
  clear hown hb
  go_wp2_with fail
  go_ret
  exact ⟨rfl, HB1.out⟩
set_option maxHeartbeats 1600000 in
theorem size_no {w : World} {c : Cat} (h : CatOk w w.heap.size c) (hs : c.Short) (hr : ¬ RightC c) :
    Calls Try.prog 40 #[c.val] w fun e w' => e = .returned (.int .i64 0) ∧ Below w.heap.size w w' := by
  have HB := Lib.hid ((Below.refl w.heap.size w).alloc (Nat.le_refl _) (.cells c.cells 68))
  have HP := Lib.hid (put_no ((h.below HB.out).more HB.out.size) hs hr)
  clear h hs hr
  unfold Cat.val at *
  obtain ⟨nv, ng, nb, fl, vA, vn, vc, v, gA, gn, gc, g, bA, bn, bc, b, kA, kn, kc, kl, tA, tn, tc, t⟩ := c
  unfold Cat.cells at *
  go_enter Try.func40, Try.ntmps40
  go_wp2_with fail
  refine (HP.out).mono ?_
  rintro e w1 ⟨rfl, hb⟩
  have HB1 := Lib.hid (nextB HB.out (Nat.le_refl _) hb)
  clear hb
  go_wp2_with fail
  go_ret
  exact ⟨rfl, HB1.out⟩
/-- Get of a right catalog's bytes. -/
theorem get_back {w : World} {B : Nat} {c0 : Cat} {e : Ending} {w' : World} (hc : CatOk w B c0) (hr : RightC c0) {w1 : World} (h : GetTo w1 (putC c0) e w') :
    ∃ c : Cat, e = .returned (.tuple #[c.val, .int .i64 0]) ∧ CatOk w' w'.heap.size c ∧ c.plain = c0.plain ∧ c.Short ∧ Below w1.heap.size w1 w' := by
  have hp := back hc hr
  obtain ⟨hb, h⟩ := h
  rw [hp] at h
  simp only [List.length_nil] at h
  rcases h with ⟨h0, _⟩ | ⟨_, c, h1, h2, h3, h4⟩
  · exact absurd rfl h0
  · rcases h4 with ⟨_, h5⟩ | ⟨h5, _⟩
    · exact ⟨c, h5, h2, h1, h3, hb⟩
    · exact absurd ((right_same h1).2 hr) h5
end Go.Proofs.Ytaagfmaboggbhaa.cat
