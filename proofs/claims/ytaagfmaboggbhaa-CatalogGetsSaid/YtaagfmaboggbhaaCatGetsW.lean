/-
  The walk of the law CatalogGets.
-/
import Derived.Test.YtaagfmaboggbhaaCatOpen
import Derived.Deep.DeepCutAuto
namespace Go.Proofs.Ytaagfmaboggbhaa.cat
open Go.RowKit Go.ChangeShapes Go.WideShapes Go.ChangeAt Go.Deep
set_option linter.unusedVariables false
open fix (endC leB leB_len bts_snoc one_u8)

theorem endC_cases (b : Bool) (n : Nat) : (endC b n = 0 ∧ b = false ∧ n = 0) ∨ endC b n = 20 ∨ endC b n = 21 := by
  unfold endC
  cases b with
  | true => exact .inr (.inl rfl)
  | false =>
    by_cases h : 0 < n
    · exact .inr (.inr (by simp [h]))
    · exact .inl ⟨by simp [h], rfl, by omega⟩
theorem isB_zero : IsB [0] := fun x hx => by
  have h9 : x = 0 := by simpa using hx
  omega
def ZV : Value := .agg #[.int .i64 0, .int .i64 0, .int .i64 0, .int .u64 0, .slice none 0 0, .slice none 0 0, .slice none 0 0, .slice none 0 0, .slice none 0 0]
theorem zero_val : zeroCat.val = ZV := rfl
/-- What Get tells of bytes, in short. -/
theorem get_key {w w' : World} {l : List Nat} {e : Ending} (hl : IsB l) (h : GetTo w l e w') : Below w.heap.size w w' ∧ ((∃ ec : Int, (ec = 20 ∨ ec = 21) ∧ e = .returned (.tuple #[ZV, .int .i64 ec])) ∨
    ∃ c : Cat, e = .returned (.tuple #[c.val, .int .i64 0]) ∧ CatOk w' w'.heap.size c ∧ c.Short ∧ RightC c ∧ putC c = l ∧ (pcat (l, false)).2.2 = false ∧ (pcat (l, false)).2.1 = []) := by
  obtain ⟨hb, h⟩ := h
  refine ⟨hb, ?_⟩
  rcases h with ⟨h0, h⟩ | ⟨h0, c, h1, h2, h3, h4⟩
  · rcases endC_cases (pcat (l, false)).2.2 (pcat (l, false)).2.1.length with h5 | h5
    · exact absurd h5.1 h0
    · exact .inl ⟨_, h5, h⟩
  · rcases h4 with ⟨h5, h6⟩ | ⟨h5, h6⟩
    · right
      rcases endC_cases (pcat (l, false)).2.2 (pcat (l, false)).2.1.length with h7 | h7
      · have h8 := List.eq_nil_of_length_eq_zero h7.2.2
        exact ⟨c, h6, h2, h3, h5, by rw [putC_p, h1]; exact get_put hl h7.2.1 h8, h7.2.1, h8⟩
      · rw [h0] at h7
        rcases h7 with h7 | h7 <;> cases h7
    · exact .inl ⟨21, .inr rfl, h6⟩
theorem get_short {w w' : World} {l : List Nat} {e : Ending} {k : Nat} (hk : k < l.length) (hb : (pcat (l, false)).2.2 = false) (h0 : (pcat (l, false)).2.1 = []) (h : GetTo w (l.take k) e w') : e = .returned (.tuple #[ZV, .int .i64 20]) ∧ Below w.heap.size w w' := by
  have hs := get_less hk hb h0
  obtain ⟨hbl, h⟩ := h
  have e1 : endC (pcat (l.take k, false)).2.2 (pcat (l.take k, false)).2.1.length = 20 := by rw [hs]; rfl
  rw [e1] at h
  rcases h with ⟨_, h⟩ | ⟨h, _⟩
  · exact ⟨h, hbl⟩
  · cases h
theorem get_form {w w' : World} {l : List Nat} {e : Ending} (hb : (pcat (l, false)).2.2 = false) (h0 : (pcat (l, false)).2.1 = []) (h : GetTo w (l ++ [0]) e w') : e = .returned (.tuple #[ZV, .int .i64 21]) ∧ Below w.heap.size w w' := by
  have hs := get_more [0] hb h0
  obtain ⟨hbl, h⟩ := h
  have e1 : endC (pcat (l ++ [0], false)).2.2 (pcat (l ++ [0], false)).2.1.length = 21 := by rw [hs]; rfl
  rw [e1] at h
  rcases h with ⟨_, h⟩ | ⟨h, _⟩
  · exact ⟨h, hbl⟩
  · cases h

set_option maxRecDepth 100000 in
set_option maxHeartbeats 12800000 in
theorem gets_walk {w : World} {A : Option Addr} {n c : Nat} {l : List Nat} (cut : Int) (h : Seg w w.heap.size A n (bts l)) (hl : IsB l) (hnc : n ≤ c) (hc : c ≤ maxLen) :
    Calls Try.prog 10 #[.slice A n c, .int .i64 cut] w fun e w' => e = .returned (.bool true) ∧ Below w.heap.size w w' := by
  have hlen : l.length = n := by rw [← bts_len]; exact h.1
  have HLEN := Lib.hid hlen
  have HS := Lib.hid h
  have HL := Lib.hid hl
  have HZZ := Lib.hid (fun W : World => same_true (zero_ok W W.heap.size) (zero_ok W W.heap.size) (SameC.refl _) zero_short)
  clear hlen h hl
  by_cases hn : n ≤ 2000
  · have d0 : decide ((2000 : Int) < (n : Int)) = false := decide_eq_false (by omega)
    go_enter Try.func10, Try.ntmps10
    go_wp2_with fail
    refine (get_any HS.out HL.out hnc hc (by rw [HLEN.out]; omega)).mono ?_
    rintro e w1 hg
    have hk := get_key HL.out hg
    clear hg
    obtain ⟨hb, hg⟩ := hk
    have HB1 := Lib.hid hb
    have HS1 := Lib.hid (HS.out.below hb)
    clear hb
    rcases hg with ⟨ec, hec, rfl⟩ | ⟨d, rfl, hd, hsh, hr, hput, hbad, hleft⟩
    · have HB2 := Lib.hid (HB1.out.alloc HB1.out.size (.cells #[.int .i64 0, .int .i64 0, .int .i64 0, .int .u64 0, .slice none 0 0, .slice none 0 0, .slice none 0 0, .slice none 0 0, .slice none 0 0] 68))
      unfold ZV
      rcases hec with rfl | rfl
      all_goals
        go_wp2_with fail
        refine (HZZ.out _).mono ?_
        rintro e w3 ⟨rfl, hb⟩
        have HB3 := Lib.hid (nextB HB2.out (Nat.le_refl _) hb)
        clear hb
        go_wp2_with fail
        refine (alive_true _).mono ?_
        rintro e wz ⟨rfl, hb⟩
        have HBz := Lib.hid (nextB HB3.out (Nat.le_refl _) hb)
        clear hb
        go_wp2_with fail
        go_ret
        exact ⟨rfl, HBz.out⟩
    · have HD1 := Lib.hid hd
      have HSH := Lib.hid hsh
      have HR := Lib.hid hr
      have HPUT := Lib.hid hput
      have HBAD := Lib.hid hbad
      have HLEFT := Lib.hid hleft
      clear hd hsh hr hput hbad hleft
      have HREF := Lib.hid (fun (W : World) (hW : CatOk W W.heap.size d) => ref_any hW HSH.out)
      have HRP := Lib.hid (fun (W : World) (hW : CatOk W W.heap.size d) => rput_any hW (putOk HR.out))
      rw [HPUT.out] at HRP
      have HRC := Lib.hid (show ∀ b : Bool, (b = true ↔ RightC d) → b = true from fun b hb => hb.2 HR.out)
      clear HPUT HR HSH
      have HX2 := Lib.hid (Box.new w1 d.cells 68)
      have HD2 := Lib.hid ((HD1.out.below ((Below.refl _ _).alloc (Nat.le_refl _) (.cells d.cells 68))).more (show w1.heap.size ≤ (w1.alloc (.cells d.cells 68)).heap.size by simp))
      have HB2 := Lib.hid (HB1.out.alloc HB1.out.size (.cells d.cells 68))
      have HS2 := Lib.hid (HS1.out.alloc HB1.out.size (.cells d.cells 68))
      unfold Cat.val at *
      obtain ⟨dnv, dng, dnb, dfl, dvA, dvn, dvc, dv, dgA, dgn, dgc, dg, dbA, dbn, dbc, db, dkA, dkn, dkc, dkl, dtA, dtn, dtc, dt⟩ := d
      unfold Cat.cells at *
      go_wp2_with fail
      generalize hwx : w1.alloc (.cells #[.int .i64 dnv, .int .i64 dng, .int .i64 dnb, .int .u64 (dfl : Int), .slice dvA dvn dvc, .slice dgA dgn dgc, .slice dbA dbn dbc, .slice dkA dkn dkc, .slice dtA dtn dtc] 68) = w2 at *
      generalize hgx : w1.heap.size = gd at *
      clear hwx hgx
      refine (HREF.out _ HD2.out).mono ?_
      rintro e w3 ⟨hsay, hb⟩
      obtain ⟨b1, rfl, hsay⟩ := hsay
      obtain rfl : b1 = true := HRC.out b1 hsay
      have HX3 := Lib.hid (HX2.out.below hb HX2.out.lt)
      have HD3 := Lib.hid ((HD2.out.below hb).more hb.size)
      have HS3 := Lib.hid (HS2.out.below (hb.mono HB2.out.size))
      have HB3 := Lib.hid (nextB HB2.out (Nat.le_refl _) hb)
      clear hb hsay
      have j0 : w3.cell? ⟨gd, 0, none⟩ = some (.int .i64 dnv) := (HX3.out.cell 0).trans rfl
      have j1 : w3.cell? ⟨gd, 1, none⟩ = some (.int .i64 dng) := (HX3.out.cell 1).trans rfl
      have j2 : w3.cell? ⟨gd, 2, none⟩ = some (.int .i64 dnb) := (HX3.out.cell 2).trans rfl
      have j3 : w3.cell? ⟨gd, 3, none⟩ = some (.int .u64 (dfl : Int)) := (HX3.out.cell 3).trans rfl
      have j4 : w3.cell? ⟨gd, 4, none⟩ = some (.slice dvA dvn dvc) := (HX3.out.cell 4).trans rfl
      have j5 : w3.cell? ⟨gd, 5, none⟩ = some (.slice dgA dgn dgc) := (HX3.out.cell 5).trans rfl
      have j6 : w3.cell? ⟨gd, 6, none⟩ = some (.slice dbA dbn dbc) := (HX3.out.cell 6).trans rfl
      have j7 : w3.cell? ⟨gd, 7, none⟩ = some (.slice dkA dkn dkc) := (HX3.out.cell 7).trans rfl
      have j8 : w3.cell? ⟨gd, 8, none⟩ = some (.slice dtA dtn dtc) := (HX3.out.cell 8).trans rfl
      go_wp2_with fail
      refine (HRP.out _ HD3.out).mono ?_
      rintro e w4 ⟨A2, n2, c2, hn2, rfl, hown, hb⟩
      have HP4 := Lib.hid hown
      have HS4 := Lib.hid (HS3.out.below (hb.mono HB3.out.size))
      have HB4 := Lib.hid (nextB HB3.out (Nat.le_refl _) hb)
      clear hown hb hn2 j0 j1 j2 j3 j4 j5 j6 j7 j8
      go_wp2_with fail
      refine (equal_any c2 c HP4.out.seg HS4.out HL.out HL.out).mono ?_
      rintro e w5 ⟨rfl, rfl⟩
      rw [decide_eq_true rfl]
      clear HX2 HX3 HD1 HD2 HD3 HS1 HS2 HS3 HB1 HB2 HB3 HREF HRP HRC HP4
      by_cases h0 : cut < 0
      · go_wp2_with fail
        refine (alive_true _).mono ?_
        rintro e wz ⟨rfl, hb⟩
        have HBz := Lib.hid (nextB HB4.out (Nat.le_refl _) hb)
        clear hb
        go_wp2_with fail
        go_ret
        exact ⟨rfl, HBz.out⟩
      · by_cases h1 : (n : Int) ≤ cut
        · go_wp2_with fail
          refine (alive_true _).mono ?_
          rintro e wz ⟨rfl, hb⟩
          have HBz := Lib.hid (nextB HB4.out (Nat.le_refl _) hb)
          clear hb
          go_wp2_with fail
          go_ret
          exact ⟨rfl, HBz.out⟩
        · have e0 : decide (cut < 0) = false := decide_eq_false h0
          have e1 : decide ((n : Int) ≤ cut) = false := decide_eq_false h1
          have HK := Lib.hid (And.intro h0 h1)
          clear h0 h1
          go_upto_region 10 with fail
          clear e0 e1
          have h0 := HK.out.1
          have h1 := HK.out.2
          clear HK
          obtain ⟨k, rfl⟩ : ∃ k : Nat, cut = (k : Int) := ⟨cut.toNat, (Int.toNat_of_nonneg (by omega)).symm⟩
          have hkn : k < n := by omega
          obtain ⟨bb, off, u, rfl, hbb, _, _⟩ := HS4.out.at_ hkn
          have i0 : (0 : Int) ≤ (k : Int) := by omega
          have i1 : (k : Int) ≤ (c : Int) := by omega
          have i2 : ((k : Int)).toNat = k := by omega
          unfold maxLen at hc
          clear h0 h1
          go_wp2_with fail
          refine (get_any ((HS4.out.prefix_ (k := k) (by omega)).more HB4.out.size |> fun h => (by rw [bts_take]; exact h)) (HL.out.take k) (by omega) (by unfold maxLen; omega) (by rw [List.length_take]; omega)).mono ?_
          rintro e w6 hg
          obtain ⟨rfl, hb⟩ := get_short (by rw [HLEN.out]; exact hkn) HBAD.out HLEFT.out hg
          have HS6 := Lib.hid (HS4.out.below (hb.mono HB4.out.size))
          have HB6 := Lib.hid (nextB HB4.out (Nat.le_refl _) hb)
          have HS7 := Lib.hid (HS6.out.alloc HB6.out.size (.cells #[.int .i64 0, .int .i64 0, .int .i64 0, .int .u64 0, .slice none 0 0, .slice none 0 0, .slice none 0 0, .slice none 0 0, .slice none 0 0] 68))
          have HB7 := Lib.hid (HB6.out.alloc HB6.out.size (.cells #[.int .i64 0, .int .i64 0, .int .i64 0, .int .u64 0, .slice none 0 0, .slice none 0 0, .slice none 0 0, .slice none 0 0, .slice none 0 0] 68))
          clear hb hg
          unfold ZV
          go_wp2_with fail
          generalize hwx : w6.alloc (.cells #[.int .i64 0, .int .i64 0, .int .i64 0, .int .u64 0, .slice none 0 0, .slice none 0 0, .slice none 0 0, .slice none 0 0, .slice none 0 0] 68) = w7 at *
          clear hwx
          refine (clone_any (HS7.out.more HB7.out.size) (by omega)).mono ?_
          rintro e w8 ⟨A8, n8, c8, hn8, rfl, hown, hb⟩
          have HO8 := Lib.hid hown
          have HB8 := Lib.hid (nextB HB7.out (Nat.le_refl _) hb)
          have hn9 : n8 ≤ 2000 := by rw [hn8, HLEN.out]; exact hn
          have hz8 := hb.size
          clear hown hb hn8
          go_wp2_with ((at_builtin; refine wpList_app _ rfl (.tmp 63) (.tmp 64) elemB rfl w7.heap.size rfl (HO8.out.alloc _) _ rfl (Seg.one w8 _ _) (one_u8 _) (by unfold maxLen; omega) (by omega) (by simp; omega) ?_; intro A9 c9 w9 hown1 hg1 hat1; rw [← bts_snoc l 0 (0 : Int) rfl] at hown1; have HO9 := Lib.hid hown1; have HB9 := Lib.hid (below_app (HB8.out.alloc HB8.out.size (Obj.cells #[.int .u8 0] 5)) HB7.out.size (by simp; omega) (HO8.out.alloc (Obj.cells #[.int .u8 0] 5)) hg1); clear hown1 hg1 hat1))
          refine (get_any HO9.out.seg (HL.out.app isB_zero) HO9.out.cap (Own.max HO9.out) (by rw [List.length_append, HLEN.out]; show n + 1 ≤ 1000000; omega)).mono ?_
          rintro e w10 hg
          obtain ⟨rfl, hb⟩ := get_form HBAD.out HLEFT.out hg
          have HB10 := Lib.hid ((nextB HB9.out (Nat.le_refl _) hb).alloc (nextB HB9.out (Nat.le_refl _) hb).size (.cells #[.int .i64 0, .int .i64 0, .int .i64 0, .int .u64 0, .slice none 0 0, .slice none 0 0, .slice none 0 0, .slice none 0 0, .slice none 0 0] 68))
          clear hb hg
          unfold ZV
          go_wp2_with fail
          refine (alive_true _).mono ?_
          rintro e wz ⟨rfl, hb⟩
          have HBz := Lib.hid (nextB HB10.out (Nat.le_refl _) hb)
          clear hb
          go_wp2_with fail
          go_ret
          exact ⟨rfl, HBz.out⟩
  · have d0 : decide ((2000 : Int) < (n : Int)) = true := decide_eq_true (by omega)
    go_enter Try.func10, Try.ntmps10
    go_wp2_with fail
    go_ret
    exact ⟨rfl, Below.refl _ _⟩
section
variable {H : Type} {enc : TypeId × Value → H} {base : Nat} {spare : Nat → Bool} {held : Bool}
set_option maxRecDepth 100000 in
/-- The law CatalogGets, of what comes in. -/
theorem gets_main (W : World) {b0 b1 : Nat} {v v2 : Value} {d d2 : DataW H} {p p2 : List MemPlace} (h : DataW.Trod enc Try.prog W base spare held 22 v d p) (k : Value.okWide Try.prog W .any b0 22 v)
    (h2 : DataW.Trod enc Try.prog W base spare held 3 v2 d2 p2) (k2 : Value.okWide Try.prog W .any b1 3 v2) :
    Calls Try.prog 10 #[v, v2] W fun e w' => e = .returned (.bool true) ∧ Below W.heap.size W w' := by
  obtain ⟨A, n, c, l, rfl, h1, h3, hl, hs⟩ := open_bytes h k
  obtain ⟨z, rfl, _, _, _⟩ := open_int Try.underlying3 k2 h2
  exact gets_walk z hs hl h1 h3
end
end Go.Proofs.Ytaagfmaboggbhaa.cat
