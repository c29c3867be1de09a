/-
  The walk of the law CrcOne.
-/
import Derived.Test.YtigebiknlodghaaCrc
import Derived.Test.YtigebiknlodghaaMake
import Derived.WalkLawsBesides
namespace Go.Proofs.Ytigebiknlodghaa.crc
open Go.RowKit Go.ChangeShapes Go.WideShapes
set_option linter.unusedVariables false

set_option maxHeartbeats 1600000 in
theorem one_walk (A : Option Addr) (n c : Nat) (l : List Nat) (at_ : Int) (d : Nat) (w : World) (h : Seg w w.heap.size A n (bts l)) (hl : IsB l) (hnc : n ≤ c) (hc : c ≤ maxLen)
    (a0 : -9223372036854775808 ≤ at_) (a1 : at_ ≤ 9223372036854775807) (hd : d < 256) :
    Calls Try.prog 7 #[.slice A n c, .int .i64 at_, .int .u8 (d : Int)] w fun e w' => e = .returned (.bool true) ∧ Below w.heap.size w w' := by
  have hc' := hc
  unfold maxLen at hc'
  by_cases c1 : 200 < n
  · go_enter Try.func7, Try.ntmps7
    go_wp2
    go_ret
    exact ⟨rfl, Below.refl _ _⟩
  by_cases c2 : at_ < 0
  · go_enter Try.func7, Try.ntmps7
    go_wp2
    go_ret
    exact ⟨rfl, Below.refl _ _⟩
  obtain ⟨k, rfl⟩ := Int.eq_ofNat_of_zero_le (by omega : 0 ≤ at_)
  by_cases c3 : n ≤ k
  · go_enter Try.func7, Try.ntmps7
    go_wp2
    go_ret
    exact ⟨rfl, Below.refl _ _⟩
  have hkn : k < n := by omega
  have h0 := h
  obtain ⟨b, off, hlk, rfl, hbB, hcell⟩ := h.byte hkn
  have hck := hl.at_ hlk
  obtain ⟨x, hx⟩ : ∃ x, x = l[k] := ⟨_, rfl⟩
  rw [← hx] at hcell hck
  have HX := Lib.hid hx
  clear hx
  by_cases c4 : x = d
  · subst c4
    go_enter Try.func7, Try.ntmps7
    go_wp2
    go_ret
    exact ⟨rfl, Below.refl _ _⟩
  · have t1 : ((x : Int) == (d : Int)) = false := by rw [beq_eq_false_iff_ne]; omega
    have t2 : decide (200 < (n : Int)) = false := by simp; omega
    have t3 : decide ((n : Int) ≤ (k : Int)) = false := by simp; omega
    have H := Lib.hid h
    have H0 := Lib.hid h0
    clear h h0
    go_enter Try.func7, Try.ntmps7
    go_wp2_with (at_builtin; refine wpList_app _ rfl (.tmp 29) (.tmp 30) elemB rfl w.heap.size rfl (Own.lit w #[] 5 (Nat.le_refl _) (by simp)) w.heap.size rfl (H0.out.alloc (Nat.le_refl _) _) (bts_one _) (by unfold maxLen; simp; omega) (by simp; omega) (by simp) ?_; intro A1 n1 w1 hown1 hg1 hat1; obtain ⟨g, rfl, hgb, hgl, hfr, hce, hst⟩ := Own.store (show Own w1 w.heap.size 5 A1 n n1 (bts l) by simpa using hown1) hkn (.int .u8 (d : Int)); have hmax := Own.max hown1; have hcap := Own.cap hown1; have hce' : w1.cell? ⟨g, k, none⟩ = some (.int .u8 ((x : Nat) : Int)) := (by rw [hce, bts_at, List.getElem?_eq_getElem hlk, ← HX.out]; rfl); clear hce)
    have hb1 : Below w.heap.size w w1 := ((Below.refl _ _).alloc (Nat.le_refl _) _).grown hg1 (by simp) (fun k hk => by simp [blk] at hk; omega)
    have hb2 : Below w.heap.size w (w1.setCell ⟨g, k, none⟩ (.int .u8 (d : Int))) := hb1.setCell (p := ⟨g, k, none⟩) hgb _
    have hs2 : Own (w1.setCell ⟨g, k, none⟩ (.int .u8 (d : Int))) w.heap.size 5 (some ⟨g, 0, none⟩) n n1 (bts (l.set k d)) := by rw [bts_set]; exact hst
    clear hst hcap hg1 hat1 hown1
    have hseg1 := H0.out.below hb2
    have sz1 := hb1.size
    have sz2 : (w1.setCell ⟨g, k, none⟩ (.int .u8 (d : Int))).heap.size = w1.heap.size := size_setCell _ _ _
    have SZ := Lib.hid sz2
    clear sz2
    obtain ⟨s1, hs1⟩ : ∃ s : Int, ((adds 0 l : Nat) : Int) = s := ⟨_, rfl⟩
    obtain ⟨s2, hs2'⟩ : ∃ s : Int, ((adds 0 (l.set k d) : Nat) : Int) = s := ⟨_, rfl⟩
    have e1 : l = l.take k ++ x :: l.drop (k + 1) := by rw [HX.out]; simp
    have e2 : l.set k d = l.take k ++ d :: l.drop (k + 1) := by rw [List.set_eq_take_append_cons_drop, if_pos hlk]
    have hne : (s1 == s2) = false := by
      rw [beq_eq_false_iff_ne]
      intro e
      have := adds_other (l.take k) (l.drop (k + 1)) x d (hl.take k) (hl.drop (k + 1)) hck hd c4
      rw [← e1, ← e2] at this
      omega
    have hne2 : (s1 != s2) = true := by rw [bne, hne]; rfl
    have hset : IsB (l.set k d) := fun c hc => by
      rcases List.mem_or_eq_of_mem_set hc with h | h
      · exact hl c h
      · omega
    have HS1 := Lib.hid hs1
    have HS2 := Lib.hid hs2'
    clear hs1 hs2' e1 e2
    generalize w1.setCell ⟨g, k, none⟩ (.int .u8 (d : Int)) = w2 at *
    have hp1 := Pieces.single 37 hseg1 hl hnc hc hb2.size
    rw [SZ.out] at hp1
    refine (of_eq 1 hp1 (by simp [SZ.out]) (by omega) s1 (by rw [flat_one]; exact HS1.out)).mono ?_
    rintro e w3 ⟨rfl, rfl⟩
    clear hp1 hseg1
    have hs4 := (hs2.seg.alloc (Nat.le_refl _) (.cells #[.slice (some ⟨b, off, none⟩) n c] 37)).alloc (by simp) (.cells #[.int .u32 s1] 40)
    have hb4 : Below w.heap.size w ((w2.alloc (.cells #[.slice (some ⟨b, off, none⟩) n c] 37)).alloc (.cells #[.int .u32 s1] 40)) := (hb2.alloc hb2.size _).alloc (by have := hb2.size; simp; omega) _
    have sz4 : w2.heap.size ≤ ((w2.alloc (.cells #[.slice (some ⟨b, off, none⟩) n c] 37)).alloc (.cells #[.int .u32 s1] 40)).heap.size := by simp; omega
    generalize (w2.alloc (.cells #[.slice (some ⟨b, off, none⟩) n c] 37)).alloc (.cells #[.int .u32 s1] 40) = w4 at *
    go_wp2_with fail
    have hp1 := Pieces.single 37 hs4 hset (hs2.cap) hmax sz4
    refine (of_eq 1 hp1 (by simp) (by omega) s2 (by rw [flat_one]; exact HS2.out)).mono ?_
    rintro e w5 ⟨rfl, rfl⟩
    clear hp1
    go_wp2_with fail
    refine (alive_true _).mono ?_
    rintro e w6 ⟨rfl, hb6⟩
    go_wp2_with fail
    go_ret
    exact ⟨rfl, nextB ((hb4.alloc hb4.size _).alloc (by have := hb4.size; simp; omega) _) (Nat.le_refl _) hb6⟩

theorem one_main {H : Type} {enc : TypeId × Value → H} {base : Nat} (W : World) {v0 v1 v2 : Value} {d0 d1 d2 : DataW H} {p0 p1 p2 : List MemPlace}
    (h0 : DataW.Trod enc Try.prog W 0 (fun _ => true) true 37 v0 d0 p0) (k0 : Value.okWide Try.prog W .any base 37 v0)
    (h1 : DataW.Trod enc Try.prog W 0 (fun _ => true) true 3 v1 d1 p1) (k1 : Value.okWide Try.prog W .any base 3 v1)
    (h2 : DataW.Trod enc Try.prog W 0 (fun _ => true) true 5 v2 d2 p2) (k2 : Value.okWide Try.prog W .any base 5 v2) :
    Calls Try.prog 7 #[v0, v1, v2] W fun e W' => e = .returned (.bool true) ∧ Below W.heap.size W W' := by
  obtain ⟨A, n, c, l, rfl, hnc, hc, hl, hs⟩ := open_bytes h0 k0
  obtain ⟨a1, rfl, rfl, rfl, w1⟩ := open_int Try.underlying3 k1 h1
  obtain ⟨a2, rfl, rfl, rfl, w2⟩ := open_int Try.underlying5 k2 h2
  obtain ⟨d, rfl⟩ := Int.eq_ofNat_of_zero_le (u8_bd w2).1
  exact one_walk A n c l a1 d W hs hl hnc hc (i64_bd w1).1 (i64_bd w1).2 (by have := (u8_bd w2).2; omega)
end Go.Proofs.Ytigebiknlodghaa.crc
