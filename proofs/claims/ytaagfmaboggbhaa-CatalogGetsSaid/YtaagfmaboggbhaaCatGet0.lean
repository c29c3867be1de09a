/-
  Bytes read as a catalog, in plain Lean; words for the walk of catalog.Get.
-/
import Derived.Test.YtaagfmaboggbhaaCatL2
namespace Go.Proofs.Ytaagfmaboggbhaa.cat
open Go.RowKit
set_option linter.unusedVariables false
open fix (rdVal rdRest rdBad rdRest_len Rd u8_any u16_any u64_any isbad_any endC rend_any rd_new)

/-- A catalog as plain data. -/
structure PC where
  nv : Int
  ng : Int
  nb : Int
  floor : Nat
  v : List (Int × Nat × List (Nat × Nat))
  g : List (Int × List Int)
  b : List (Int × Nat × List Int)
  k : List Nat
  t : List (Nat × Nat)
def Cat.plain (c : Cat) : PC := ⟨c.nv, c.ng, c.nb, c.floor, c.v.map Vol.p, c.g.map Grp.p, c.b.map Bk.p, c.k, c.t⟩
def sv (s : St) : St := pn 8 (pn 2 (pn 2 (pn 2 s)))
def sg (s : St) : St := (pl pvol (sv s)).2
def sb (s : St) : St := (pl pgrp (sg s)).2
def sk (s : St) : St := (pl pbk (sb s)).2
def st (s : St) : St := (pl p64 (sk s)).2
/-- Bytes read as a catalog; what is left. -/
def pcat (s : St) : PC × St :=
  (⟨(p16 s).1, (p16 (pn 2 s)).1, (p16 (pn 2 (pn 2 s))).1, (p64 (pn 2 (pn 2 (pn 2 s)))).1, (pl pvol (sv s)).1, (pl pgrp (sg s)).1, (pl pbk (sb s)).1, (pl p64 (sk s)).1, (pl ptime (st s)).1⟩, (pl ptime (st s)).2)
/-- Something holds of each that is read. -/
def All {α : Type} (one : St → α × St) (P : α → Prop) : Prop := ∀ s, IsB s.1 → P (one s).1 ∧ IsB (one s).2.1
theorem pn_isB (k : Nat) {s : St} (h : IsB s.1) : IsB (pn k s).1 := by
  unfold pn rdRest
  simp only
  split
  · exact h.drop _
  · exact IsB.nil
theorem plp_all {α : Type} {one : St → α × St} {P : α → Prop} (h : All one P) (n : Nat) {s : St} (hs : IsB s.1) : (∀ x ∈ (plp one n s).1, P x) ∧ IsB (plp one n s).2.1 := by
  induction n generalizing s with
  | zero => exact ⟨fun _ hx => (by cases hx), hs⟩
  | succ n ih =>
    unfold plp
    split
    · exact ⟨fun _ hx => (by cases hx), hs⟩
    · have h1 := h s hs
      have h2 := ih h1.2
      refine ⟨fun x hx => ?_, h2.2⟩
      rcases List.mem_cons.1 hx with hx | hx
      · subst hx; exact h1.1
      · exact h2.1 x hx
theorem pl_all {α : Type} {one : St → α × St} {P : α → Prop} (h : All one P) : All (pl one) (fun L => ∀ x ∈ L, P x) := fun s hs => plp_all h _ (pn_isB 1 hs)
theorem rd64 {s : St} (h : IsB s.1) : rdVal 8 s.1 < 18446744073709551616 := by
  have := fix.rdVal_lt 8 s.1 h
  simpa using this
theorem rd16 {s : St} (h : IsB s.1) : rdVal 2 s.1 ≤ 65535 := by
  have := fix.rdVal_lt 2 s.1 h
  simp only [Nat.reduceMul, Nat.reducePow] at this
  omega
theorem sm16 {s : St} (h : IsB s.1) : Sm (p16 s).1 := ⟨by show (0 : Int) ≤ ((rdVal 2 s.1 : Nat) : Int); omega, by have := rd16 h; show ((rdVal 2 s.1 : Nat) : Int) ≤ 65535; omega⟩
def MkBd (m : Nat × Nat) : Prop := m.1 < 18446744073709551616 ∧ m.2 < 18446744073709551616
theorem all16 : All p16 Sm := fun s hs => ⟨sm16 hs, pn_isB 2 hs⟩
theorem all64 : All p64 U64 := fun s hs => ⟨rd64 hs, pn_isB 8 hs⟩
theorem allsize : All psize MkBd := fun s hs => ⟨⟨rd64 hs, by have := rd1_lt _ (pn_isB 8 hs); show rdVal 1 (pn 8 s).1 < _; omega⟩, pn_isB 1 (pn_isB 8 hs)⟩
theorem alltime : All ptime MkBd := fun s hs => ⟨⟨rd64 hs, rd64 (pn_isB 8 hs)⟩, pn_isB 8 (pn_isB 8 hs)⟩
theorem allvol : All pvol (fun q => Sm q.1 ∧ U64 q.2.1 ∧ ∀ m ∈ q.2.2, MkBd m) := fun s hs => by
  have h := pl_all allsize _ (pn_isB 8 (pn_isB 2 hs))
  exact ⟨⟨sm16 hs, rd64 (pn_isB 2 hs), h.1⟩, h.2⟩
theorem allgrp : All pgrp (fun q => Sm q.1 ∧ ∀ x ∈ q.2, Sm x) := fun s hs => by
  have h := pl_all all16 _ (pn_isB 2 hs)
  exact ⟨⟨sm16 hs, h.1⟩, h.2⟩
theorem allbk : All pbk (fun q => Sm q.1 ∧ U64 q.2.1 ∧ ∀ x ∈ q.2.2, Sm x) := fun s hs => by
  have h := pl_all all16 _ (pn_isB 8 (pn_isB 2 hs))
  exact ⟨⟨sm16 hs, rd64 (pn_isB 2 hs), h.1⟩, h.2⟩
theorem VolOwn.below {w w' : World} {base n c : Nat} {A : Option Addr} {L : List Vol} (h : VolOwn w base A n c L) (hb : Below w.heap.size w w') : VolOwn w' base A n c L := ⟨h.row.below hb, fun z hz => (h.ins z hz).below hb⟩
theorem GrpOwn.below {w w' : World} {base n c : Nat} {A : Option Addr} {L : List Grp} (h : GrpOwn w base A n c L) (hb : Below w.heap.size w w') : GrpOwn w' base A n c L := ⟨h.row.below hb, fun z hz => Own.below (h.ins z hz) hb⟩
theorem BkOwn.below {w w' : World} {base n c : Nat} {A : Option Addr} {L : List Bk} (h : BkOwn w base A n c L) (hb : Below w.heap.size w w') : BkOwn w' base A n c L := ⟨h.row.below hb, fun z hz => Own.below (h.ins z hz) hb⟩
theorem sm_i64 {x : Int} (h : Sm x) : I64 x := by unfold Sm at h; unfold I64; omega

theorem sv_len (s : St) : (sv s).1.length ≤ s.1.length := by
  have h := Nat.le_trans (pn_shr 8 (pn 2 (pn 2 (pn 2 s)))) (Nat.le_trans (pn_shr 2 (pn 2 (pn 2 s))) (Nat.le_trans (pn_shr 2 (pn 2 s)) (pn_shr 2 s)))
  unfold sv
  exact h
theorem sg_len (s : St) : (sg s).1.length ≤ (sv s).1.length := by
  have h := pl_shr pvol_shr (sv s)
  unfold sg
  exact h
theorem sb_len (s : St) : (sb s).1.length ≤ (sg s).1.length := by
  have h := pl_shr pgrp_shr (sg s)
  unfold sb
  exact h
theorem sk_len (s : St) : (sk s).1.length ≤ (sb s).1.length := by
  have h := pl_shr pbk_shr (sb s)
  unfold sk
  exact h
theorem st_len (s : St) : (st s).1.length ≤ (sk s).1.length := by
  have h := pl_shr p64_shr (sk s)
  unfold st
  exact h
theorem sv_isB {s : St} (h : IsB s.1) : IsB (sv s).1 := by
  have h2 := pn_isB 8 (pn_isB 2 (pn_isB 2 (pn_isB 2 h)))
  unfold sv
  exact h2
theorem sg_all {s : St} (h : IsB s.1) : (∀ q ∈ (pl pvol (sv s)).1, Sm q.1 ∧ U64 q.2.1 ∧ ∀ m ∈ q.2.2, MkBd m) ∧ IsB (sg s).1 := by
  have h2 := pl_all allvol (sv s) (sv_isB h)
  unfold sg
  exact h2
theorem sb_all {s : St} (h : IsB s.1) : (∀ q ∈ (pl pgrp (sg s)).1, Sm q.1 ∧ ∀ x ∈ q.2, Sm x) ∧ IsB (sb s).1 := by
  have h2 := pl_all allgrp (sg s) (sg_all h).2
  unfold sb
  exact h2
theorem sk_all {s : St} (h : IsB s.1) : (∀ q ∈ (pl pbk (sb s)).1, Sm q.1 ∧ U64 q.2.1 ∧ ∀ x ∈ q.2.2, Sm x) ∧ IsB (sk s).1 := by
  have h2 := pl_all allbk (sb s) (sb_all h).2
  unfold sk
  exact h2
theorem st_all {s : St} (h : IsB s.1) : (∀ x ∈ (pl p64 (sk s)).1, U64 x) ∧ IsB (st s).1 := by
  have h2 := pl_all all64 (sk s) (sk_all h).2
  unfold st
  exact h2
theorem se_all {s : St} (h : IsB s.1) : (∀ m ∈ (pl ptime (st s)).1, MkBd m) ∧ IsB (pl ptime (st s)).2.1 := pl_all alltime (st s) (st_all h).2
theorem pl_len {α : Type} {one : St → α × St} {s : St} (h : IsB s.1) : (pl one s).1.length ≤ 255 := Nat.le_trans (plp_len _ _) (rd1_lt s h)
theorem volL {s : St} (h : IsB s.1) : ∀ q ∈ (pl pvol (sv s)).1, q.2.2.length ≤ 255 := (pl_all (P := fun q : Int × Nat × List (Nat × Nat) => q.2.2.length ≤ 255) (one := pvol) (fun s hs => ⟨pl_len (pn_isB 8 (pn_isB 2 hs)), (allvol s hs).2⟩) (sv s) (sv_isB h)).1
theorem grpL {s : St} (h : IsB s.1) : ∀ q ∈ (pl pgrp (sg s)).1, q.2.length ≤ 255 := (pl_all (P := fun q : Int × List Int => q.2.length ≤ 255) (one := pgrp) (fun s hs => ⟨pl_len (pn_isB 2 hs), (allgrp s hs).2⟩) (sg s) (sg_all h).2).1
theorem bkL {s : St} (h : IsB s.1) : ∀ q ∈ (pl pbk (sb s)).1, q.2.2.length ≤ 255 := (pl_all (P := fun q : Int × Nat × List Int => q.2.2.length ≤ 255) (one := pbk) (fun s hs => ⟨pl_len (pn_isB 8 (pn_isB 2 hs)), (allbk s hs).2⟩) (sb s) (sb_all h).2).1
/-! ### rows as what can be read -/
theorem flat_get {α : Type} (f : α → List Value) (s : Nat) (L : List α) (hf : ∀ x, (f x).length = s) {j i : Nat} (hj : j < L.length) (hi : i < s) : (L.flatMap f)[j * s + i]? = (f L[j])[i]? := by
  induction L generalizing j with
  | nil => exact absurd hj (Nat.not_lt_zero _)
  | cons a L ih =>
    rw [List.flatMap_cons]
    cases j with
    | zero => rw [List.getElem?_append_left (by rw [hf]; omega)]; simp
    | succ j =>
      have e : (j + 1) * s + i = (f a).length + (j * s + i) := by rw [hf, Nat.succ_mul]; omega
      rw [e, List.getElem?_append_right (by omega), Nat.add_sub_cancel_left, ih (by simpa using hj)]
      rfl
theorem ownR_at {α : Type} {w : World} {base n c s : Nat} {e : TypeId} {A : Option Addr} {f : α → List Value} {L : List α} (h : OwnR w base e s A n c (L.flatMap f)) (hf : ∀ x, (f x).length = s) (hn : 0 < n) :
    ∃ b, A = some ⟨b, 0, none⟩ ∧ b < w.heap.size ∧ ∀ (j i : Nat) (u : Value) (hj : j < L.length), i < s → (f L[j])[i]? = some u → w.cell? ⟨b, 0 + j * s + i, none⟩ = some u := by
  obtain ⟨g, hA, _, hg⟩ := h.at_ hn
  refine ⟨g, hA, hg, fun j i u hj hi hu => ?_⟩
  have := h.cells hA (j * s + i) u (by rw [flat_get f s L hf hj hi]; exact hu)
  rw [show 0 + j * s + i = j * s + i by omega]
  exact this
theorem mk_seg {w : World} {base n c : Nat} {A : Option Addr} {M : List (Nat × Nat)} (h : OwnR w base 100 2 A n c (mkCells M)) (hn : M.length = n) (hb : ∀ m ∈ M, MkBd m) : MkSeg w w.heap.size A n M :=
  ⟨hn, fun h0 => by
    obtain ⟨b, hA, hlt, hc⟩ := ownR_at h (fun _ => rfl) h0
    exact ⟨b, 0, hA, hlt, fun j hj => ⟨hc j 0 _ hj (by omega) rfl, hc j 1 _ hj (by omega) rfl⟩⟩, hb⟩
theorem row_len {w : World} {base n c s : Nat} {e : TypeId} {A : Option Addr} {α : Type} {f : α → List Value} {L : List α} (h : OwnR w base e s A n c (L.flatMap f)) (hf : ∀ x, (f x).length = s) (hs : 0 < s) : L.length = n := by
  have h1 := h.len
  have h2 : (L.flatMap f).length = L.length * s := by
    clear h h1
    induction L with
    | nil => simp
    | cons a L ih => rw [List.flatMap_cons, List.length_append, hf, ih, List.length_cons, Nat.succ_mul]; omega
  rw [h2] at h1
  exact Nat.eq_of_mul_eq_mul_right hs h1
theorem mk_len {w : World} {base n c : Nat} {A : Option Addr} {M : List (Nat × Nat)} (h : OwnR w base 100 2 A n c (mkCells M)) : M.length = n := row_len h (fun _ => rfl) (by omega)
theorem vol_seg {w : World} {base n c : Nat} {A : Option Addr} {L : List Vol} (h : VolOwn w base A n c L) (hb : ∀ z ∈ L, Sm z.id ∧ U64 z.born ∧ ∀ m ∈ z.l, MkBd m) : VolSeg w w.heap.size A n L :=
  ⟨row_len h.row (fun _ => rfl) (by omega), fun h0 => by
    obtain ⟨b, hA, hlt, hc⟩ := ownR_at h.row (fun _ => rfl) h0
    exact ⟨b, 0, hA, hlt, fun j hj => ⟨hc j 0 _ hj (by omega) rfl, hc j 1 _ hj (by omega) rfl, hc j 2 _ hj (by omega) rfl⟩⟩,
    fun z hz => ⟨mk_seg (h.ins z hz) (mk_len (h.ins z hz)) (hb z hz).2.2, (h.ins z hz).cap, (h.ins z hz).max, sm_i64 (hb z hz).1, (hb z hz).2.1⟩⟩
theorem grp_seg {w : World} {base n c : Nat} {A : Option Addr} {L : List Grp} (h : GrpOwn w base A n c L) (hb : ∀ z ∈ L, Sm z.id ∧ ∀ x ∈ z.l, Sm x) : GrpSeg w w.heap.size A n L :=
  ⟨row_len h.row (fun _ => rfl) (by omega), fun h0 => by
    obtain ⟨b, hA, hlt, hc⟩ := ownR_at h.row (fun _ => rfl) h0
    exact ⟨b, 0, hA, hlt, fun j hj => ⟨hc j 0 _ hj (by omega) rfl, hc j 1 _ hj (by omega) rfl⟩⟩,
    fun z hz => ⟨⟨(h.ins z hz).seg, fun x hx => sm_i64 ((hb z hz).2 x hx)⟩, (h.ins z hz).cap, Own.max (h.ins z hz), sm_i64 (hb z hz).1⟩⟩
theorem bk_seg {w : World} {base n c : Nat} {A : Option Addr} {L : List Bk} (h : BkOwn w base A n c L) (hb : ∀ z ∈ L, Sm z.id ∧ U64 z.seq ∧ ∀ x ∈ z.l, Sm x) : BkSeg w w.heap.size A n L :=
  ⟨row_len h.row (fun _ => rfl) (by omega), fun h0 => by
    obtain ⟨b, hA, hlt, hc⟩ := ownR_at h.row (fun _ => rfl) h0
    exact ⟨b, 0, hA, hlt, fun j hj => ⟨hc j 0 _ hj (by omega) rfl, hc j 1 _ hj (by omega) rfl, hc j 2 _ hj (by omega) rfl⟩⟩,
    fun z hz => ⟨⟨(h.ins z hz).seg, fun x hx => sm_i64 ((hb z hz).2.2 x hx)⟩, (h.ins z hz).cap, Own.max (h.ins z hz), sm_i64 (hb z hz).1, (hb z hz).2.1⟩⟩
theorem all_map {α β : Type} {f : α → β} {L : List α} {M : List β} {P : β → Prop} (h : L.map f = M) (hp : ∀ x ∈ M, P x) : ∀ z ∈ L, P (f z) := fun z hz => hp _ (by rw [← h]; exact List.mem_map_of_mem hz)

/-! ### the walk's state -/
/-- The reader at g; the catalog that is made, at gc; the result's place, at w's end; below it nothing has changed. -/
structure GS (w W : World) (g gc : Nat) (cs : Array Value) (s : St) : Prop where
  rd : Rd W 130 g w.heap.size s.1 s.2
  box : Box W gc 68 cs
  box0 : Box W w.heap.size 68 #[.int .i64 0, .int .i64 0, .int .i64 0, .int .u64 0, .slice none 0 0, .slice none 0 0, .slice none 0 0, .slice none 0 0, .slice none 0 0]
  below : Below w.heap.size w W
  h0 : w.heap.size < g
  hg : g < gc
theorem GS.read {w W W' : World} {g gc : Nat} {cs : Array Value} {s s' : St} (h : GS w W g gc cs s) (hr : RdTo W g w.heap.size s' W') : GS w W' g gc cs s' :=
  ⟨hr.1, h.box.grown hr.2 (by intro e; injection e with e; have := h.hg; omega), h.box0.grown hr.2 (by intro e; injection e with e; have := h.h0; omega), h.below.grown hr.2 h.below.size (fun k hk => by injection hk with hk; have := h.h0; omega), h.h0, h.hg⟩
theorem GS.set_ {w W : World} {g gc : Nat} {cs : Array Value} {s : St} (h : GS w W g gc cs s) (i : Nat) (u : Value) : GS w (W.setCell ⟨gc, i, none⟩ u) g gc (cs.setIfInBounds i u) s :=
  ⟨rd_set h.rd (by have := h.hg; exact this) u, h.box.set_ i u, h.box0.far (by have h1 := h.h0; have h2 := h.hg; show w.heap.size ≠ gc; omega) u, h.below.setCell (by have h1 := h.h0; have h2 := h.hg; show w.heap.size ≤ gc; omega) u, h.h0, h.hg⟩
theorem VolOwn.set_ {w : World} {base n c : Nat} {A : Option Addr} {L : List Vol} (h : VolOwn w base A n c L) {p : Addr} (hp : p.block < base) (u : Value) : VolOwn (w.setCell p u) base A n c L := ⟨OwnR.setFarR h.row hp u, fun z hz => OwnR.setFarR (h.ins z hz) hp u⟩
theorem GrpOwn.set_ {w : World} {base n c : Nat} {A : Option Addr} {L : List Grp} (h : GrpOwn w base A n c L) {p : Addr} (hp : p.block < base) (u : Value) : GrpOwn (w.setCell p u) base A n c L := ⟨OwnR.setFarR h.row hp u, fun z hz => Own.setFarB (h.ins z hz) hp u⟩
theorem BkOwn.set_ {w : World} {base n c : Nat} {A : Option Addr} {L : List Bk} (h : BkOwn w base A n c L) {p : Addr} (hp : p.block < base) (u : Value) : BkOwn (w.setCell p u) base A n c L := ⟨OwnR.setFarR h.row hp u, fun z hz => Own.setFarB (h.ins z hz) hp u⟩
def zeroCat : Cat := ⟨0, 0, 0, 0, none, 0, 0, [], none, 0, 0, [], none, 0, 0, [], none, 0, 0, [], none, 0, 0, []⟩
/-- What Get tells of bytes. -/
def GetTo (w : World) (l : List Nat) (e : Ending) (w' : World) : Prop :=
  Below w.heap.size w w' ∧ ((endC (pcat (l, false)).2.2 (pcat (l, false)).2.1.length ≠ 0 ∧ e = .returned (.tuple #[zeroCat.val, .int .i64 (endC (pcat (l, false)).2.2 (pcat (l, false)).2.1.length)])) ∨
    (endC (pcat (l, false)).2.2 (pcat (l, false)).2.1.length = 0 ∧ ∃ c : Cat, c.plain = (pcat (l, false)).1 ∧ CatOk w' w'.heap.size c ∧ c.Short ∧ ((RightC c ∧ e = .returned (.tuple #[c.val, .int .i64 0])) ∨ (¬ RightC c ∧ e = .returned (.tuple #[zeroCat.val, .int .i64 21])))))

end Go.Proofs.Ytaagfmaboggbhaa.cat
