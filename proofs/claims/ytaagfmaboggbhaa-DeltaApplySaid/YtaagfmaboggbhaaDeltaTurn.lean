/-
  The walks of delta.Turn and of the law's alive.
-/
import Derived.Test.YtaagfmaboggbhaaDeltaOfW
import Derived.Test.YtaagfmaboggbhaaDeltaApply0
namespace Go.Proofs.Ytaagfmaboggbhaa.delta
open Go.RowKit
set_option linter.unusedVariables false

theorem of_size {w : World} {A A2 : Option Addr} {n m c c2 : Nat} (h : n ≠ m) :
    Calls Try.prog 17 #[.slice A n c, .slice A2 m c2] w fun e w' => e = .returned (.tuple #[.slice none 0 0, .int .i64 12]) ∧ w = w' := by
  have t1 : ((n : Int) != (m : Int)) = true := by rw [bne_iff_ne]; omega
  have t2 : ((n : Int) == (m : Int)) = false := by rw [beq_eq_false_iff_ne]; omega
  clear h
  go_enter Try.func17, Try.ntmps17
  go_wp2_with fail
  go_ret2
  exact ⟨rfl, rfl⟩

theorem base_mono {w : World} {base base' s n c : Nat} {e : TypeId} {A : Option Addr} {xs : List Value} (h : OwnR w base' e s A n c xs) (hb : base ≤ base') : OwnR w base e s A n c xs := by
  refine ⟨h.1, ?_⟩
  rcases h.2 with h0 | ⟨g, cap, cur, hv, hg, h1⟩
  · exact .inl h0
  · exact .inr ⟨g, cap, cur, hv, by omega, h1⟩
theorem base_mono1 {w : World} {base base' n c : Nat} {e : TypeId} {A : Option Addr} {xs : List Value} (h : Own w base' e A n c xs) (hb : base ≤ base') : Own w base e A n c xs := base_mono (s := 1) h hb
theorem lay_isB {o d : List Nat} (s : Nat) (ho : IsB o) (hd : IsB d) : IsB (lay o s d) := ((ho.take s).app hd).app (ho.drop _)
theorem appd_isB {o : List Nat} {L : List Ed} (ho : IsB o) (hL : ∀ z ∈ L, IsB z.x.l) : IsB (appd o L) := by
  unfold appd doAll
  induction L generalizing o with
  | nil => exact ho
  | cons z L ih => exact ih (lay_isB z.pos.toNat ho (hL z (by simp))) (fun y hy => hL y (by simp [hy]))

set_option maxHeartbeats 800000 in
theorem turn_ok {w : World} {A A2 : Option Addr} {n c m c2 : Nat} {a : List Nat} {L : List Ed} (h : Seg w w.heap.size A n (bts a)) (ha : IsB a) (hE : EdSeg w w.heap.size A2 m L) (hf : ∀ z ∈ L, fits n z.e = true) (hn : n ≤ 100000) (hm : m ≤ 100000) :
    Calls Try.prog 20 #[.slice A n c, .slice A2 m c2] w fun e w' => ∃ A' k c' M, e = .returned (.tuple #[.slice A' k c', .int .i64 0]) ∧ EdOwn w' w.heap.size A' k c' M ∧ es M = ofS (appd a L) a n ∧ k ≤ n ∧ Below w.heap.size w w' := by
  have HP := Lib.hid (apply_ok (c := c) (c2 := c2) h ha hE hf hn hm)
  have HS := Lib.hid h
  have HI := Lib.hid ha
  clear h ha hE hf
  go_enter Try.func20, Try.ntmps20
  go_wp2_with fail
  refine (HP.out).mono ?_
  rintro e w1 ⟨A1, c1, rfl, hown, hb⟩
  have HO := Lib.hid hown
  have HB := Lib.hid hb
  clear hown hb
  go_wp2_with fail
  refine (of_any (c := c1) (c2 := c) HO.out.seg ((HS.out.below HB.out).more HB.out.size) HI.out hn).mono ?_
  rintro e w2 ⟨A3, k, c3, M, rfl, hed, hes, hk, hb2⟩
  have HE := Lib.hid hed
  have HM := Lib.hid hes
  have HB2 := Lib.hid (nextB HB.out (Nat.le_refl _) hb2)
  have HSZ := Lib.hid HB.out.size
  clear hed hes hb2
  go_wp2_with fail
  go_ret2
  refine ⟨A3, k, c3, M, rfl, ⟨base_mono HE.out.row HSZ.out, fun z hz => ⟨base_mono1 (HE.out.pcs z hz).1 HSZ.out, (HE.out.pcs z hz).2⟩⟩, HM.out, hk, HB2.out⟩

theorem turn_bad {w : World} {A A2 : Option Addr} {n c m c2 : Nat} {a : List Nat} {L : List Ed} (h : Seg w w.heap.size A n (bts a)) (ha : IsB a) (hE : EdSeg w w.heap.size A2 m L) (K : Nat) (hK : K < m) (hf : ∀ (j : Nat) (hj : j < L.length), j < K → fits n L[j].e = true) (hbd : ∀ hj : K < L.length, fits n L[K].e = false) (hn : n ≤ 100000) (hm : m ≤ 100000) :
    Calls Try.prog 20 #[.slice A n c, .slice A2 m c2] w fun e w' => e = .returned (.tuple #[.slice none 0 0, .int .i64 11]) ∧ Below w.heap.size w w' := by
  have HP := Lib.hid (apply_bad (c := c) (c2 := c2) h ha hE K hK hf hbd hn hm)
  clear h ha hE hf hbd hK
  go_enter Try.func20, Try.ntmps20
  go_wp2_with fail
  refine (HP.out).mono ?_
  rintro e w1 ⟨rfl, hb⟩
  have HB := Lib.hid hb
  clear hb
  go_wp2_with fail
  go_ret2
  exact ⟨rfl, HB.out⟩

theorem es_one {L : List Ed} {s : Int} {d : List Nat} (h : es L = [(s, d)]) : ∃ x, L = [⟨s, x⟩] ∧ x.l = d := by
  match L, h with
  | [⟨p, x⟩], h =>
    simp only [es, List.map_cons, List.map_nil, Ed.e, List.cons.injEq, Prod.mk.injEq, and_true] at h
    exact ⟨x, by rw [h.1], h.2⟩
  | _ :: _ :: _, h => simp [es] at h

set_option maxHeartbeats 1600000 in
/-- The chapter's example. -/
theorem alive_true (w : World) : Calls Try.prog 18 #[] w fun e w' => e = .returned (.bool true) ∧ Below w.heap.size w w' := by
  have s1 := Seg.lit (w := w) [1, 2, 3] (cs := #[.int .u8 1, .int .u8 2, .int .u8 3]) rfl 5
  have s2 := Seg.lit (w := w.alloc (.cells #[.int .u8 1, .int .u8 2, .int .u8 3] 5)) [1, 5, 6] (cs := #[.int .u8 1, .int .u8 5, .int .u8 6]) rfl 5
  rw [show (w.alloc (.cells #[.int .u8 1, .int .u8 2, .int .u8 3] 5)).heap.size = w.heap.size + 1 by simp] at s2
  have h0 : ((w.alloc (.cells #[.int .u8 1, .int .u8 2, .int .u8 3] 5)).alloc (.cells #[.int .u8 1, .int .u8 5, .int .u8 6] 5)).heap.size = w.heap.size + 1 + 1 := by simp
  have s1' := (s1.alloc (by simp) (.cells #[.int .u8 1, .int .u8 5, .int .u8 6] 5)).more (B' := w.heap.size + 1 + 1) (by omega)
  rw [← h0] at s1' s2
  have HO := Lib.hid (of_any (c := 3) (c2 := 3) s1' s2 (by unfold IsB; decide) (by decide))
  have HE := Lib.hid (show ofS [1, 2, 3] [1, 5, 6] 3 = [(1, [5, 6])] by decide)
  clear s1 s2 s1' h0
  go_enter Try.func18, Try.ntmps18
  go_wp2_with fail
  refine (HO.out).mono ?_
  rintro e w1 ⟨A, m, c, L, rfl, hed, hes, hm, hb⟩
  have HB := Lib.hid (nextB (((Below.refl w.heap.size w).alloc (Nat.le_refl _) _).alloc (by simp) _) (Nat.le_refl _) hb)
  obtain ⟨x, hL, hx⟩ := es_one (hes.trans HE.out)
  subst hL
  obtain rfl : m = 1 := by have := hed.len; simpa using this.symm
  obtain ⟨g, hA, _, _⟩ := hed.row.at_ (by decide)
  subst hA
  have k0 : w1.cell? ⟨g, 0, none⟩ = some (.int .i64 1) := hed.row.cells rfl 0 _ rfl
  have k1 : w1.cell? ⟨g, 1, none⟩ = some (.slice x.A x.n x.c) := hed.row.cells rfl 1 _ rfl
  have HP := Lib.hid (own_pc hed (z := ⟨1, x⟩) (by simp))
  have HX := Lib.hid hx
  clear hed hes hm hb hx HO
  go_wp2_with fail
  have hp := HP.out.seg.alloc (Nat.le_refl _) (.cells #[.int .u8 5, .int .u8 6] 5)
  rw [HX.out] at hp
  refine (equal_any x.c 2 hp (Seg.lit [5, 6] rfl 5) (by unfold IsB; decide) (by unfold IsB; decide)).mono ?_
  rintro e w2 ⟨rfl, rfl⟩
  rw [decide_eq_true rfl]
  clear hp
  go_wp2_with fail
  go_ret
  exact ⟨rfl, HB.out.alloc HB.out.size _⟩
end Go.Proofs.Ytaagfmaboggbhaa.delta
