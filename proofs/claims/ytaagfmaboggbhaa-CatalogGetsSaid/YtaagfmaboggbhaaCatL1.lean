/-
  The walks of catalog.time and of the lists of numbers and marks.
-/
import Derived.Test.YtaagfmaboggbhaaCatL0
namespace Go.Proofs.Ytaagfmaboggbhaa.cat
open Go.RowKit
set_option linter.unusedVariables false
open fix (rdVal rdRest rdBad rdRest_len Rd u8_any u16_any u64_any isbad_any)

/-- A list that was read. -/
def LsTo {α β : Type} (own : World → Option Addr → Nat → Nat → List α → Prop) (p : α → β) (w : World) (g B : Nat) (r : List β × St) (e : Ending) (w' : World) : Prop :=
  ∃ A n c L, e = .returned (.slice A n c) ∧ own w' A n c L ∧ L.map p = r.1 ∧ L.length = n ∧ n ≤ 255 ∧ RdTo w g B r.2 w'
theorem plp_step {α β : Type} {one : St → β × St} {p : α → β} {s : St} (h : s.2 = false) {L : List α} {R : List β × St} {j : Nat} {z : α} (hz : p z = (one s).1) (hR : R = (L.map p ++ (plp one (j + 1) s).1, (plp one (j + 1) s).2)) :
    R = ((L ++ [z]).map p ++ (plp one j (one s).2).1, (plp one j (one s).2).2) := by
  rw [hR, plp_more h, List.map_append, List.map_cons, List.map_nil, hz, List.append_assoc]; rfl
theorem plp_done {α β : Type} {one : St → β × St} {p : α → β} {s : St} {L : List α} {R : List β × St} {k : Nat} (h : k = 0 ∨ s.2 = true) (hR : R = (L.map p ++ (plp one k s).1, (plp one k s).2)) : L.map p = R.1 ∧ R.2 = s := by
  have e : plp one k s = ([], s) := by
    rcases h with h | h
    · subst h; rfl
    · exact plp_bad h
  rw [e] at hR
  rw [hR]
  simp
theorem len_snoc {α : Type} {L : List α} {n : Nat} (h : L.length = n) (z : α) : (L ++ [z]).length = n + 1 := by simp [h]
theorem nums_snoc (L : List Int) (x : Int) : nums (L ++ [x]) = nums L ++ [.int .i64 x] := by simp [nums]
theorem us_snoc (L : List Nat) (x : Nat) : us (L ++ [x]) = us L ++ [.int .u64 (x : Int)] := by simp [us]
theorem one_u64 (x : Int) : ∀ u ∈ [Value.int .u64 x], u.oneCell' = true := by
  intro u hu
  obtain rfl : u = .int .u64 x := by simpa using hu
  rfl
theorem OwnR.setFarR {w : World} {base n c s : Nat} {e : TypeId} {A : Option Addr} {xs : List Value} (h : OwnR w base e s A n c xs) {p : Addr} (hp : p.block < base) (u : Value) : OwnR (w.setCell p u) base e s A n c xs :=
  h.kept (row := some p.block) ⟨rfl, rfl, rfl, by simp [World.setCell], fun k _ hk => Below.heap_setCell _ _ _ _ (fun e => hk (by rw [e]))⟩ (ne_far h hp)
theorem Own.setFarB {w : World} {base n c : Nat} {e : TypeId} {A : Option Addr} {xs : List Value} (h : Own w base e A n c xs) {p : Addr} (hp : p.block < base) (u : Value) : Own (w.setCell p u) base e A n c xs :=
  h.kept (row := some p.block) ⟨rfl, rfl, rfl, by simp [World.setCell], fun k _ hk => Below.heap_setCell _ _ _ _ (fun e => hk (by rw [e]))⟩ (ne_farO h hp)
abbrev IntsOwn (base : Nat) (W : World) (A : Option Addr) (n c : Nat) (L : List Int) : Prop := Own W base 3 A n c (nums L)
abbrev UsOwn (base : Nat) (W : World) (A : Option Addr) (n c : Nat) (L : List Nat) : Prop := Own W base 47 A n c (us L)
abbrev MksOwn (base : Nat) (W : World) (A : Option Addr) (n c : Nat) (L : List (Nat × Nat)) : Prop := OwnR W base 100 2 A n c (mkCells L)

set_option maxHeartbeats 1600000 in
theorem time_any {w : World} {g B : Nat} {s : St} (h : Rd w 130 g B s.1 s.2) (hl : s.1.length ≤ 1000000) :
    Calls Try.prog 77 #[.pointer (some ⟨g, 0, none⟩)] w fun e w' => e = .returned (.agg #[.int .u64 ((ptime s).1.1 : Nat), .int .u64 ((ptime s).1.2 : Nat)]) ∧ RdTo w g B (ptime s).2 w' := by
  have hlt := h.lt
  have h8 := pn_shr 8 s
  have HR0 := Lib.hid (rd_alloc h (.cells #[.int .u64 0, .int .u64 0] 100))
  have HB0 := Lib.hid (Box.new w #[.int .u64 0, .int .u64 0] 100)
  have HP := Lib.hid (show ptime s = (((p64 s).1, (p64 (pn 8 s)).1), pn 8 (pn 8 s)) from rfl)
  rw [HP.out]
  clear h
  go_enter Try.func77, Try.ntmps77
  go_wp2_with fail
  refine (u64_at HR0.out hl).mono ?_
  rintro e w1 ⟨rfl, hr1⟩
  have HR1 := Lib.hid hr1
  have HB1 := Lib.hid (HB0.out.grown hr1.2 (by intro e; injection e with e; omega))
  clear hr1
  go_wp2_with fail
  refine (u64_at HR1.out.1 (by omega)).mono ?_
  rintro e w2 ⟨rfl, hr2⟩
  have HR2 := Lib.hid hr2
  have HB2 := Lib.hid (HB1.out.grown hr2.2 (by intro e; injection e with e; omega))
  clear hr2
  have c0 := (HB2.out.cell 0).trans rfl
  have c1 := (HB2.out.cell 1).trans rfl
  have f0 := HB2.out.frozen 0
  have f1 := HB2.out.frozen 1
  have hz := HB2.out.lt
  have HE := Lib.hid (show RdTo w g B (pn 8 (pn 8 s)) ((w2.setCell ⟨w.heap.size, 0, none⟩ (.int .u64 ((p64 s).1 : Int))).setCell ⟨w.heap.size, 1, none⟩ (.int .u64 ((p64 (pn 8 s)).1 : Int))) from
    ⟨rd_set (rd_set HR2.out.1 hlt _) hlt _, grown_set (grown_set (grown_two (grown_al hlt HR1.out.2) HR2.out.2) (Nat.le_refl _) _) (Nat.le_refl _) _⟩)
  go_wp2_with fail
  refine bodyPost_ret (v := .agg #[.int .u64 ((p64 s).1 : Int), .int .u64 ((p64 (pn 8 s)).1 : Int)]) (by simp [results, Try.results77, go_sem, c0, c1]) rfl ⟨rfl, ?_⟩
  exact HE.out

set_option maxRecDepth 100000 in
set_option maxHeartbeats 3200000 in
theorem ints_any {w : World} {g B : Nat} {s0 : St} (h : Rd w 130 g B s0.1 s0.2) (hl : s0.1.length ≤ 1000000) :
    Calls Try.prog 95 #[.pointer (some ⟨g, 0, none⟩), .func (.func 67) #[] #[]] w (LsTo (IntsOwn w.heap.size) (id : Int → Int) w g B (pl p16 s0)) := by
  have hlt := h.lt
  have hn0 := rd1_lt s0 h.isB
  have h1 := pn_shr 1 s0
  have HR := Lib.hid h
  have HPL := Lib.hid (show pl p16 s0 = plp p16 (rdVal 1 s0.1) (pn 1 s0) from rfl)
  rw [HPL.out]
  clear h
  go_enter Try.func95, Try.ntmps95
  go_wp2_with fail
  refine (u8_at HR.out hl).mono ?_
  rintro e w1 ⟨rfl, hr1⟩
  have HR1 := Lib.hid hr1
  clear hr1
  generalize hN0 : rdVal 1 s0.1 = N0 at *
  generalize hS0 : pn 1 s0 = S0 at *
  have HQ := Lib.hid (show plp p16 (rdVal 1 s0.1) (pn 1 s0) = plp p16 N0 S0 by rw [hN0, hS0])
  clear hN0 hS0 HPL
  have HEND := Lib.hid (show ∀ (W : World) (A : Option Addr) (n c : Nat) (L : List _) (k : Nat) (s : St), IntsOwn w.heap.size W A n c L → L.length = n → n ≤ 255 → Rd W 130 g B s.1 s.2 → w.grownBy W (some g) → (k = 0 ∨ s.2 = true) → plp p16 N0 S0 = (L.map (id : Int → Int) ++ (plp p16 k s).1, (plp p16 k s).2) → LsTo (IntsOwn w.heap.size) (id : Int → Int) w g B (plp p16 N0 S0) (.returned (.slice A n c)) W from
    fun W A n c L k s h1 h2 h3 h4 h5 h6 h7 => by
      obtain ⟨e1, e2⟩ := plp_done h6 h7
      exact ⟨A, n, c, L, rfl, h1, e1, h2, h3, by rw [e2]; exact ⟨h4, h5⟩⟩)
  go_wp2_with fail
  go_loopw [5, 6] (fun ov nv wr => ∃ k : Nat, ∃ A1 n1 c1 L, ∃ s : St, nv = .int .i64 (k : Int) ∧ ov = .slice A1 n1 c1 ∧ IntsOwn w.heap.size wr A1 n1 c1 L ∧ L.length = n1 ∧ n1 + k ≤ 255 ∧ Rd wr 130 g B s.1 s.2 ∧ s.1.length ≤ 1000000 ∧ w.grownBy wr (some g) ∧ plp p16 N0 S0 = (L.map (id : Int → Int) ++ (plp p16 k s).1, (plp p16 k s).2)) (fun _ nv _ => (intOf nv).toNat)
  case atStart => exact ⟨N0, none, 0, 0, [], S0, rfl, rfl, Own.nil _ _ _, rfl, by omega, HR1.out.1, by omega, HR1.out.2, rfl⟩
  case round =>
    clear HR1 HR
    obtain ⟨k, A1, n1, c1, L, s, rfl, rfl, hown, hL, hnk, hrd, hsl, hgr, hpl⟩ := hrel
    have HO := Lib.hid hown
    have HL := Lib.hid hL
    have HR := Lib.hid hrd
    have HG := Lib.hid hgr
    have HP := Lib.hid hpl
    have hsz := hgr.size
    clear hown hL hrd hgr hpl
    rcases k with _ | j
    · have HN := Lib.hid (HEND.out wr A1 n1 c1 L 0 s HO.out HL.out (by omega) HR.out HG.out (.inl rfl) HP.out)
      go_wp2_with fail
      go_ret
      first | exact HN.out | (rw [HQ.out]; exact HN.out)
    · have t1 : decide ((0 : Int) < ((j + 1 : Nat) : Int)) = true := decide_eq_true (by omega)
      go_wp2_with fail
      refine (isbad_any HR.out).mono ?_
      rintro e w3 ⟨rfl, rfl⟩
      cases hb : s.2 with
      | true =>
        have HN := Lib.hid (HEND.out wr A1 n1 c1 L (j + 1) s HO.out HL.out (by omega) HR.out HG.out (.inr hb) HP.out)
        clear hb
        go_wp2_with fail
        go_ret
        first | exact HN.out | (rw [HQ.out]; exact HN.out)
      | false =>
        have HBF := Lib.hid hb
        clear hb
        go_wp2_with fail
        refine (u16_at HR.out hsl).mono ?_
        rintro e w3 ⟨rfl, hr3⟩
        have HR3 := Lib.hid hr3
        have HO3 := Lib.hid (Own.kept HO.out hr3.2 (ne_farO HO.out hlt))
        have hz3 := hr3.2.size
        clear hr3
        go_wp2_with ((at_builtin; refine wpList_app _ rfl (.tmp 18) (.tmp 22) elemI rfl w.heap.size rfl (HO3.out.alloc _) _ rfl (Seg.one w3 _ _) (one_int _) (by unfold maxLen; omega) (by omega) (by simp; omega) ?_; intro A4 c4 w4 hown hg hat; have HO4 := Lib.hid hown; have HG4 := Lib.hid hg; clear hown hg hat))
        have HX := Lib.hid (show IntsOwn w.heap.size w4 A4 (n1 + 1) c4 (L ++ [(p16 s).1]) by
          show Own _ _ _ _ _ _ _
          rw [nums_snoc]
          exact HO4.out)
        have LT := Lib.hid (show ∀ i, blk A1 = some i → w.heap.size ≤ i from fun i hi => (HO3.out.lt i hi).1)
        have HRX := Lib.hid (rd_app (rd_alloc HR3.out.1 _) HG4.out (fun i hi => by have := LT.out i hi; omega))
        have HGX := Lib.hid (grown_app (grown_two HG.out HR3.out.2) (grown_unalloc HG4.out) LT.out)
        go_roundw
        case rel => exact ⟨j, A4, n1 + 1, c4, L ++ [(p16 s).1], (p16 s).2, by go_num, rfl, HX.out, len_snoc HL.out _, by omega, HRX.out, Nat.le_trans (p16_shr s) hsl, HGX.out, plp_step HBF.out rfl HP.out⟩
        case measure => simp [intOf]

set_option maxRecDepth 100000 in
set_option maxHeartbeats 3200000 in
theorem us_any {w : World} {g B : Nat} {s0 : St} (h : Rd w 130 g B s0.1 s0.2) (hl : s0.1.length ≤ 1000000) :
    Calls Try.prog 75 #[.pointer (some ⟨g, 0, none⟩), .func (.func 68) #[] #[]] w (LsTo (UsOwn w.heap.size) (id : Nat → Nat) w g B (pl p64 s0)) := by
  have hlt := h.lt
  have hn0 := rd1_lt s0 h.isB
  have h1 := pn_shr 1 s0
  have HR := Lib.hid h
  have HPL := Lib.hid (show pl p64 s0 = plp p64 (rdVal 1 s0.1) (pn 1 s0) from rfl)
  rw [HPL.out]
  clear h
  go_enter Try.func75, Try.ntmps75
  go_wp2_with fail
  refine (u8_at HR.out hl).mono ?_
  rintro e w1 ⟨rfl, hr1⟩
  have HR1 := Lib.hid hr1
  clear hr1
  generalize hN0 : rdVal 1 s0.1 = N0 at *
  generalize hS0 : pn 1 s0 = S0 at *
  have HQ := Lib.hid (show plp p64 (rdVal 1 s0.1) (pn 1 s0) = plp p64 N0 S0 by rw [hN0, hS0])
  clear hN0 hS0 HPL
  have HEND := Lib.hid (show ∀ (W : World) (A : Option Addr) (n c : Nat) (L : List _) (k : Nat) (s : St), UsOwn w.heap.size W A n c L → L.length = n → n ≤ 255 → Rd W 130 g B s.1 s.2 → w.grownBy W (some g) → (k = 0 ∨ s.2 = true) → plp p64 N0 S0 = (L.map (id : Nat → Nat) ++ (plp p64 k s).1, (plp p64 k s).2) → LsTo (UsOwn w.heap.size) (id : Nat → Nat) w g B (plp p64 N0 S0) (.returned (.slice A n c)) W from
    fun W A n c L k s h1 h2 h3 h4 h5 h6 h7 => by
      obtain ⟨e1, e2⟩ := plp_done h6 h7
      exact ⟨A, n, c, L, rfl, h1, e1, h2, h3, by rw [e2]; exact ⟨h4, h5⟩⟩)
  go_wp2_with fail
  go_loopw [5, 6] (fun ov nv wr => ∃ k : Nat, ∃ A1 n1 c1 L, ∃ s : St, nv = .int .i64 (k : Int) ∧ ov = .slice A1 n1 c1 ∧ UsOwn w.heap.size wr A1 n1 c1 L ∧ L.length = n1 ∧ n1 + k ≤ 255 ∧ Rd wr 130 g B s.1 s.2 ∧ s.1.length ≤ 1000000 ∧ w.grownBy wr (some g) ∧ plp p64 N0 S0 = (L.map (id : Nat → Nat) ++ (plp p64 k s).1, (plp p64 k s).2)) (fun _ nv _ => (intOf nv).toNat)
  case atStart => exact ⟨N0, none, 0, 0, [], S0, rfl, rfl, Own.nil _ _ _, rfl, by omega, HR1.out.1, by omega, HR1.out.2, rfl⟩
  case round =>
    clear HR1 HR
    obtain ⟨k, A1, n1, c1, L, s, rfl, rfl, hown, hL, hnk, hrd, hsl, hgr, hpl⟩ := hrel
    have HO := Lib.hid hown
    have HL := Lib.hid hL
    have HR := Lib.hid hrd
    have HG := Lib.hid hgr
    have HP := Lib.hid hpl
    have hsz := hgr.size
    clear hown hL hrd hgr hpl
    rcases k with _ | j
    · have HN := Lib.hid (HEND.out wr A1 n1 c1 L 0 s HO.out HL.out (by omega) HR.out HG.out (.inl rfl) HP.out)
      go_wp2_with fail
      go_ret
      first | exact HN.out | (rw [HQ.out]; exact HN.out)
    · have t1 : decide ((0 : Int) < ((j + 1 : Nat) : Int)) = true := decide_eq_true (by omega)
      go_wp2_with fail
      refine (isbad_any HR.out).mono ?_
      rintro e w3 ⟨rfl, rfl⟩
      cases hb : s.2 with
      | true =>
        have HN := Lib.hid (HEND.out wr A1 n1 c1 L (j + 1) s HO.out HL.out (by omega) HR.out HG.out (.inr hb) HP.out)
        clear hb
        go_wp2_with fail
        go_ret
        first | exact HN.out | (rw [HQ.out]; exact HN.out)
      | false =>
        have HBF := Lib.hid hb
        clear hb
        go_wp2_with fail
        refine (u64_at HR.out hsl).mono ?_
        rintro e w3 ⟨rfl, hr3⟩
        have HR3 := Lib.hid hr3
        have HO3 := Lib.hid (Own.kept HO.out hr3.2 (ne_farO HO.out hlt))
        have hz3 := hr3.2.size
        clear hr3
        go_wp2_with ((at_builtin; refine wpList_app _ rfl (.tmp 18) (.tmp 22) elemU rfl w.heap.size rfl (HO3.out.alloc _) _ rfl (Seg.one w3 _ _) (one_u64 _) (by unfold maxLen; omega) (by omega) (by simp; omega) ?_; intro A4 c4 w4 hown hg hat; have HO4 := Lib.hid hown; have HG4 := Lib.hid hg; clear hown hg hat))
        have HX := Lib.hid (show UsOwn w.heap.size w4 A4 (n1 + 1) c4 (L ++ [(p64 s).1]) by
          show Own _ _ _ _ _ _ _
          rw [us_snoc]
          exact HO4.out)
        have LT := Lib.hid (show ∀ i, blk A1 = some i → w.heap.size ≤ i from fun i hi => (HO3.out.lt i hi).1)
        have HRX := Lib.hid (rd_app (rd_alloc HR3.out.1 _) HG4.out (fun i hi => by have := LT.out i hi; omega))
        have HGX := Lib.hid (grown_app (grown_two HG.out HR3.out.2) (grown_unalloc HG4.out) LT.out)
        go_roundw
        case rel => exact ⟨j, A4, n1 + 1, c4, L ++ [(p64 s).1], (p64 s).2, by go_num, rfl, HX.out, len_snoc HL.out _, by omega, HRX.out, Nat.le_trans (p64_shr s) hsl, HGX.out, plp_step HBF.out rfl HP.out⟩
        case measure => simp [intOf]

set_option maxRecDepth 100000 in
set_option maxHeartbeats 3200000 in
theorem sizes_of {w : World} {g B : Nat} {s0 : St} (h : Rd w 130 g B s0.1 s0.2) (hl : s0.1.length ≤ 1000000) :
    Calls Try.prog 76 #[.pointer (some ⟨g, 0, none⟩), .func (.func 94) #[] #[]] w (LsTo (MksOwn w.heap.size) (id : Nat × Nat → Nat × Nat) w g B (pl psize s0)) := by
  have hlt := h.lt
  have hn0 := rd1_lt s0 h.isB
  have h1 := pn_shr 1 s0
  have HR := Lib.hid h
  have HPL := Lib.hid (show pl psize s0 = plp psize (rdVal 1 s0.1) (pn 1 s0) from rfl)
  rw [HPL.out]
  clear h
  go_enter Try.func76, Try.ntmps76
  go_wp2_with fail
  refine (u8_at HR.out hl).mono ?_
  rintro e w1 ⟨rfl, hr1⟩
  have HR1 := Lib.hid hr1
  clear hr1
  generalize hN0 : rdVal 1 s0.1 = N0 at *
  generalize hS0 : pn 1 s0 = S0 at *
  have HQ := Lib.hid (show plp psize (rdVal 1 s0.1) (pn 1 s0) = plp psize N0 S0 by rw [hN0, hS0])
  clear hN0 hS0 HPL
  have HEND := Lib.hid (show ∀ (W : World) (A : Option Addr) (n c : Nat) (L : List _) (k : Nat) (s : St), MksOwn w.heap.size W A n c L → L.length = n → n ≤ 255 → Rd W 130 g B s.1 s.2 → w.grownBy W (some g) → (k = 0 ∨ s.2 = true) → plp psize N0 S0 = (L.map (id : Nat × Nat → Nat × Nat) ++ (plp psize k s).1, (plp psize k s).2) → LsTo (MksOwn w.heap.size) (id : Nat × Nat → Nat × Nat) w g B (plp psize N0 S0) (.returned (.slice A n c)) W from
    fun W A n c L k s h1 h2 h3 h4 h5 h6 h7 => by
      obtain ⟨e1, e2⟩ := plp_done h6 h7
      exact ⟨A, n, c, L, rfl, h1, e1, h2, h3, by rw [e2]; exact ⟨h4, h5⟩⟩)
  go_wp2_with fail
  go_loopw [5, 6] (fun ov nv wr => ∃ k : Nat, ∃ A1 n1 c1 L, ∃ s : St, nv = .int .i64 (k : Int) ∧ ov = .slice A1 n1 c1 ∧ MksOwn w.heap.size wr A1 n1 c1 L ∧ L.length = n1 ∧ n1 + k ≤ 255 ∧ Rd wr 130 g B s.1 s.2 ∧ s.1.length ≤ 1000000 ∧ w.grownBy wr (some g) ∧ plp psize N0 S0 = (L.map (id : Nat × Nat → Nat × Nat) ++ (plp psize k s).1, (plp psize k s).2)) (fun _ nv _ => (intOf nv).toNat)
  case atStart => exact ⟨N0, none, 0, 0, [], S0, rfl, rfl, OwnR.nil _ _ _ _, rfl, by omega, HR1.out.1, by omega, HR1.out.2, rfl⟩
  case round =>
    clear HR1 HR
    obtain ⟨k, A1, n1, c1, L, s, rfl, rfl, hown, hL, hnk, hrd, hsl, hgr, hpl⟩ := hrel
    have HO := Lib.hid hown
    have HL := Lib.hid hL
    have HR := Lib.hid hrd
    have HG := Lib.hid hgr
    have HP := Lib.hid hpl
    have hsz := hgr.size
    clear hown hL hrd hgr hpl
    rcases k with _ | j
    · have HN := Lib.hid (HEND.out wr A1 n1 c1 L 0 s HO.out HL.out (by omega) HR.out HG.out (.inl rfl) HP.out)
      go_wp2_with fail
      go_ret
      first | exact HN.out | (rw [HQ.out]; exact HN.out)
    · have t1 : decide ((0 : Int) < ((j + 1 : Nat) : Int)) = true := decide_eq_true (by omega)
      go_wp2_with fail
      refine (isbad_any HR.out).mono ?_
      rintro e w3 ⟨rfl, rfl⟩
      cases hb : s.2 with
      | true =>
        have HN := Lib.hid (HEND.out wr A1 n1 c1 L (j + 1) s HO.out HL.out (by omega) HR.out HG.out (.inr hb) HP.out)
        clear hb
        go_wp2_with fail
        go_ret
        first | exact HN.out | (rw [HQ.out]; exact HN.out)
      | false =>
        have HBF := Lib.hid hb
        clear hb
        go_wp2_with fail
        refine (size_any HR.out hsl).mono ?_
        rintro e w3 ⟨rfl, hr3⟩
        have HR3 := Lib.hid hr3
        have HO3 := Lib.hid (OwnR.kept HO.out hr3.2 (ne_far HO.out hlt))
        have hz3 := hr3.2.size
        clear hr3
        go_wp2_with ((at_builtin; refine wpList_appR _ rfl (.tmp 18) (.tmp 22) elemMk rfl w.heap.size rfl (HO3.out.alloc (Obj.cells #[.int .u64 ((psize s).1.1 : Nat), .int .u64 ((psize s).1.2 : Nat)] 100)) rfl (Box.new w3 #[.int .u64 ((psize s).1.1 : Nat), .int .u64 ((psize s).1.2 : Nat)] 100) rfl (by intro u hu; simp at hu; rcases hu with rfl | rfl <;> rfl) (by unfold maxLen; omega) (by omega) (by simp; omega) ?_; intro A4 c4 w4 hown hg hat; have HO4 := Lib.hid hown; have HG4 := Lib.hid hg; clear hown hg hat))
        have HX := Lib.hid (show MksOwn w.heap.size w4 A4 (n1 + 1) c4 (L ++ [(psize s).1]) from (show OwnR _ _ _ _ _ _ _ _ by rw [mk_snoc]; exact HO4.out))
        have LT := Lib.hid (show ∀ i, blk A1 = some i → w.heap.size ≤ i from fun i hi => (HO3.out.lt i hi).1)
        have HRX := Lib.hid (rd_app (rd_alloc HR3.out.1 _) HG4.out (fun i hi => by have := LT.out i hi; omega))
        have HGX := Lib.hid (grown_app (grown_two HG.out HR3.out.2) (grown_unalloc HG4.out) LT.out)
        go_roundw
        case rel => exact ⟨j, A4, n1 + 1, c4, L ++ [(psize s).1], (psize s).2, by go_num, rfl, HX.out, len_snoc HL.out _, by omega, HRX.out, Nat.le_trans (psize_shr s) hsl, HGX.out, plp_step HBF.out rfl HP.out⟩
        case measure => simp [intOf]

set_option maxRecDepth 100000 in
set_option maxHeartbeats 3200000 in
theorem times_of {w : World} {g B : Nat} {s0 : St} (h : Rd w 130 g B s0.1 s0.2) (hl : s0.1.length ≤ 1000000) :
    Calls Try.prog 76 #[.pointer (some ⟨g, 0, none⟩), .func (.func 77) #[] #[]] w (LsTo (MksOwn w.heap.size) (id : Nat × Nat → Nat × Nat) w g B (pl ptime s0)) := by
  have hlt := h.lt
  have hn0 := rd1_lt s0 h.isB
  have h1 := pn_shr 1 s0
  have HR := Lib.hid h
  have HPL := Lib.hid (show pl ptime s0 = plp ptime (rdVal 1 s0.1) (pn 1 s0) from rfl)
  rw [HPL.out]
  clear h
  go_enter Try.func76, Try.ntmps76
  go_wp2_with fail
  refine (u8_at HR.out hl).mono ?_
  rintro e w1 ⟨rfl, hr1⟩
  have HR1 := Lib.hid hr1
  clear hr1
  generalize hN0 : rdVal 1 s0.1 = N0 at *
  generalize hS0 : pn 1 s0 = S0 at *
  have HQ := Lib.hid (show plp ptime (rdVal 1 s0.1) (pn 1 s0) = plp ptime N0 S0 by rw [hN0, hS0])
  clear hN0 hS0 HPL
  have HEND := Lib.hid (show ∀ (W : World) (A : Option Addr) (n c : Nat) (L : List _) (k : Nat) (s : St), MksOwn w.heap.size W A n c L → L.length = n → n ≤ 255 → Rd W 130 g B s.1 s.2 → w.grownBy W (some g) → (k = 0 ∨ s.2 = true) → plp ptime N0 S0 = (L.map (id : Nat × Nat → Nat × Nat) ++ (plp ptime k s).1, (plp ptime k s).2) → LsTo (MksOwn w.heap.size) (id : Nat × Nat → Nat × Nat) w g B (plp ptime N0 S0) (.returned (.slice A n c)) W from
    fun W A n c L k s h1 h2 h3 h4 h5 h6 h7 => by
      obtain ⟨e1, e2⟩ := plp_done h6 h7
      exact ⟨A, n, c, L, rfl, h1, e1, h2, h3, by rw [e2]; exact ⟨h4, h5⟩⟩)
  go_wp2_with fail
  go_loopw [5, 6] (fun ov nv wr => ∃ k : Nat, ∃ A1 n1 c1 L, ∃ s : St, nv = .int .i64 (k : Int) ∧ ov = .slice A1 n1 c1 ∧ MksOwn w.heap.size wr A1 n1 c1 L ∧ L.length = n1 ∧ n1 + k ≤ 255 ∧ Rd wr 130 g B s.1 s.2 ∧ s.1.length ≤ 1000000 ∧ w.grownBy wr (some g) ∧ plp ptime N0 S0 = (L.map (id : Nat × Nat → Nat × Nat) ++ (plp ptime k s).1, (plp ptime k s).2)) (fun _ nv _ => (intOf nv).toNat)
  case atStart => exact ⟨N0, none, 0, 0, [], S0, rfl, rfl, OwnR.nil _ _ _ _, rfl, by omega, HR1.out.1, by omega, HR1.out.2, rfl⟩
  case round =>
    clear HR1 HR
    obtain ⟨k, A1, n1, c1, L, s, rfl, rfl, hown, hL, hnk, hrd, hsl, hgr, hpl⟩ := hrel
    have HO := Lib.hid hown
    have HL := Lib.hid hL
    have HR := Lib.hid hrd
    have HG := Lib.hid hgr
    have HP := Lib.hid hpl
    have hsz := hgr.size
    clear hown hL hrd hgr hpl
    rcases k with _ | j
    · have HN := Lib.hid (HEND.out wr A1 n1 c1 L 0 s HO.out HL.out (by omega) HR.out HG.out (.inl rfl) HP.out)
      go_wp2_with fail
      go_ret
      first | exact HN.out | (rw [HQ.out]; exact HN.out)
    · have t1 : decide ((0 : Int) < ((j + 1 : Nat) : Int)) = true := decide_eq_true (by omega)
      go_wp2_with fail
      refine (isbad_any HR.out).mono ?_
      rintro e w3 ⟨rfl, rfl⟩
      cases hb : s.2 with
      | true =>
        have HN := Lib.hid (HEND.out wr A1 n1 c1 L (j + 1) s HO.out HL.out (by omega) HR.out HG.out (.inr hb) HP.out)
        clear hb
        go_wp2_with fail
        go_ret
        first | exact HN.out | (rw [HQ.out]; exact HN.out)
      | false =>
        have HBF := Lib.hid hb
        clear hb
        go_wp2_with fail
        refine (time_any HR.out hsl).mono ?_
        rintro e w3 ⟨rfl, hr3⟩
        have HR3 := Lib.hid hr3
        have HO3 := Lib.hid (OwnR.kept HO.out hr3.2 (ne_far HO.out hlt))
        have hz3 := hr3.2.size
        clear hr3
        go_wp2_with ((at_builtin; refine wpList_appR _ rfl (.tmp 18) (.tmp 22) elemMk rfl w.heap.size rfl (HO3.out.alloc (Obj.cells #[.int .u64 ((ptime s).1.1 : Nat), .int .u64 ((ptime s).1.2 : Nat)] 100)) rfl (Box.new w3 #[.int .u64 ((ptime s).1.1 : Nat), .int .u64 ((ptime s).1.2 : Nat)] 100) rfl (by intro u hu; simp at hu; rcases hu with rfl | rfl <;> rfl) (by unfold maxLen; omega) (by omega) (by simp; omega) ?_; intro A4 c4 w4 hown hg hat; have HO4 := Lib.hid hown; have HG4 := Lib.hid hg; clear hown hg hat))
        have HX := Lib.hid (show MksOwn w.heap.size w4 A4 (n1 + 1) c4 (L ++ [(ptime s).1]) from (show OwnR _ _ _ _ _ _ _ _ by rw [mk_snoc]; exact HO4.out))
        have LT := Lib.hid (show ∀ i, blk A1 = some i → w.heap.size ≤ i from fun i hi => (HO3.out.lt i hi).1)
        have HRX := Lib.hid (rd_app (rd_alloc HR3.out.1 _) HG4.out (fun i hi => by have := LT.out i hi; omega))
        have HGX := Lib.hid (grown_app (grown_two HG.out HR3.out.2) (grown_unalloc HG4.out) LT.out)
        go_roundw
        case rel => exact ⟨j, A4, n1 + 1, c4, L ++ [(ptime s).1], (ptime s).2, by go_num, rfl, HX.out, len_snoc HL.out _, by omega, HRX.out, Nat.le_trans (ptime_shr s) hsl, HGX.out, plp_step HBF.out rfl HP.out⟩
        case measure => simp [intOf]
end Go.Proofs.Ytaagfmaboggbhaa.cat
