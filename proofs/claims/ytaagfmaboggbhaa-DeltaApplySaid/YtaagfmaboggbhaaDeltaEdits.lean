/-
  The walk of the law's edits.
-/
import Derived.Test.YtaagfmaboggbhaaDeltaRow
namespace Go.Proofs.Ytaagfmaboggbhaa.delta
open Go.RowKit
set_option linter.unusedVariables false

theorem byteAt {w : World} {B b off n k : Nat} {l : List Nat} (h : Seg w B (some ⟨b, off, none⟩) n (bts l)) (hk : k < n) : ∃ hl : k < l.length, w.cell? ⟨b, off + k, none⟩ = some (.int .u8 ((l[k]'hl : Nat) : Int)) := by
  obtain ⟨b', off', hl, he, _, hc⟩ := h.byte hk
  injection he with he
  injection he with h1 h2
  subst h1 h2
  exact ⟨hl, hc⟩
theorem edS_yes {a b : List Nat} {n i : Nat} (h : begins a b i = true) : edS a b n (i + 1) = edS a b n i ++ [((i : Int), (b.drop i).take (runE a b (n - i) i - i))] := by
  show (if begins a b i then _ else _) = _
  rw [if_pos h]
theorem edS_no {a b : List Nat} {n i : Nat} (h : begins a b i = false) : edS a b n (i + 1) = edS a b n i := by
  show (if begins a b i then _ else _) = _
  rw [h]; simp
theorem runE_step {a b : List Nat} {n k : Nat} (hk : k < n) (h : df a b k = true) : runE a b (n - k) k = runE a b (n - (k + 1)) (k + 1) := by
  obtain ⟨f, hf⟩ : ∃ f, n - k = f + 1 := ⟨n - k - 1, by omega⟩
  rw [hf, show n - (k + 1) = f by omega]
  show (if df a b k then _ else _) = _
  rw [if_pos h]
theorem runE_stop {a b : List Nat} {n k : Nat} (h : df a b k = false) : runE a b (n - k) k = k := by
  cases n - k with
  | zero => rfl
  | succ f =>
    show (if df a b k then _ else _) = _
    rw [h]; simp
theorem runE_over {a b : List Nat} {n : Nat} : runE a b (n - n) n = n := by rw [Nat.sub_self]; rfl

set_option maxRecDepth 100000 in
set_option maxHeartbeats 12800000 in
/-- The law's edits. -/
theorem edits_any {w : World} {A A2 : Option Addr} {n c c2 : Nat} {a b : List Nat} (ha : Seg w w.heap.size A n (bts a)) (hb : Seg w w.heap.size A2 n (bts b)) (hbb : IsB b) (hc2 : n ≤ c2) (hn : n ≤ 100000) :
    Calls Try.prog 22 #[.slice A n c, .slice A2 n c2] w fun e w' => ∃ A' m c' L, e = .returned (.slice A' m c') ∧ EdOwn w' w.heap.size A' m c' L ∧ es L = edS a b n n ∧ m ≤ n ∧ Below w.heap.size w w' := by
  have hal : a.length = n := by rw [← bts_len]; exact ha.1
  have hbl : b.length = n := by rw [← bts_len]; exact hb.1
  have HAL := Lib.hid hal
  have HBL := Lib.hid hbl
  have HA := Lib.hid ha
  have HB := Lib.hid hb
  have HBB := Lib.hid hbb
  clear ha hb hal hbl hbb
  go_enter Try.func22, Try.ntmps22
  go_wp2_with fail
  go_loopw [5, 6] (fun o iv wr => ∃ i : Nat, ∃ A' m c' L, i ≤ n ∧ m ≤ i ∧ iv = .int .i64 (i : Int) ∧ o = .slice A' m c' ∧ EdOwn wr w.heap.size A' m c' L ∧ es L = edS a b n i ∧ Below w.heap.size w wr) (fun _ iv _ => n - (intOf iv).toNat)
  case atStart => exact ⟨0, none, 0, 0, [], by omega, by omega, rfl, rfl, EdOwn.nil _ _, rfl, Below.refl _ _⟩
  case round =>
    obtain ⟨i, A', m, c', L, hi, hmi, rfl, rfl, hed, hes, hbel⟩ := hrel
    have HE := Lib.hid hed
    have HES := Lib.hid hes
    have HW := Lib.hid hbel
    clear hed hes hbel
    by_cases hlt : i < n
    · obtain ⟨ba, oa, hka, rfl, hba, hca⟩ := (HA.out.below HW.out).byte hlt
      obtain ⟨bb, ob, hkb, rfl, hbb, hcb⟩ := (HB.out.below HW.out).byte hlt
      have hdf := df_at hka hkb
      have i0 : (0 : Int) ≤ (i : Int) := by omega
      have i1 : (i : Int) < (n : Int) := by omega
      have i2 : ((i : Int)).toNat = i := by omega
      cases hd : df a b i with
      | false =>
        have he : a[i] = b[i] := by rw [hd] at hdf; simpa using hdf.symm
        rw [he] at hca
        have hbg : begins a b i = false := by unfold begins; rw [hd]; rfl
        have HS := Lib.hid (edS_no (n := n) hbg)
        clear hdf hd he hbg
        generalize b[i] = x at *
        have hxx : ((x : Int) == (x : Int)) = true := by simp
        go_wp2_with fail
        go_quiet (fail)
        go_wp2_with fail
        go_roundw
        case rel => exact ⟨i + 1, A', m, c', L, by omega, by omega, by go_num, rfl, HE.out.drewN _, by rw [HS.out]; exact HES.out, Bdrew HW.out _⟩
        case measure => simp [intOf]; omega
      | true =>
        have t1 : (((a[i] : Nat) : Int) == ((b[i] : Nat) : Int)) = false := by rw [castbeq, ← hdf, hd]; rfl
        have HD := Lib.hid hd
        clear hdf hd
        generalize a[i] = xi at *
        generalize b[i] = yi at *
        by_cases h0 : 0 < i
        · have p0 : decide ((0 : Int) < (i : Int)) = true := by simp; omega
          obtain ⟨hla, hpa⟩ := byteAt (HA.out.below HW.out) (k := i - 1) (by omega)
          obtain ⟨hlb, hpb⟩ := byteAt (HB.out.below HW.out) (k := i - 1) (by omega)
          have hdp := df_at hla hlb
          have p1 : (0 : Int) ≤ (i : Int) - 1 := by omega
          have p2 : (i : Int) - 1 < (n : Int) := by omega
          have p3 : ((i : Int) - 1).toNat = i - 1 := by omega
          cases hd1 : df a b (i - 1) with
          | true =>
            have hbg : begins a b i = false := by unfold begins; rw [hd1, HD.out]; simp; omega
            have HS := Lib.hid (edS_no (n := n) hbg)
            have s1 : (((a[i - 1] : Nat) : Int) != ((b[i - 1] : Nat) : Int)) = true := by rw [castbne, ← hdp, hd1]
            clear hdp hd1 hbg
            generalize a[i - 1] = xp at *
            generalize b[i - 1] = yp at *
            go_wp2_with fail
            go_quiet (fail)
            go_wp2_with fail
            go_roundw
            case rel => exact ⟨i + 1, A', m, c', L, by omega, by omega, by go_num, rfl, HE.out.drewN _, by rw [HS.out]; exact HES.out, Bdrew HW.out _⟩
            case measure => simp [intOf]; omega
          | false =>
            have HBG := Lib.hid (show begins a b i = true by unfold begins; rw [hd1, HD.out]; simp)
            have hep : a[i - 1] = b[i - 1] := by rw [hd1] at hdp; simpa using hdp.symm
            rw [hep] at hpa
            clear hdp hd1 hep
            generalize b[i - 1] = yp at *
            have s1 : ((yp : Int) != (yp : Int)) = false := by simp
            go_wp2_with fail
            go_quiet (fail)
            obtain ⟨R, hR⟩ : ∃ R, R = runE a b (n - i) i := ⟨_, rfl⟩
            have HIR := Lib.hid (show i < R by rw [hR, runE_step hlt HD.out]; have := (runE_le a b (n - (i + 1)) (i + 1)).1; omega)
            have hSS := edS_yes (n := n) HBG.out
            rw [← hR] at hSS
            have HSS := Lib.hid hSS
            have HRR := Lib.hid hR
            clear hSS hR
            go_wp2_with fail
            go_loopw [7] (fun kv wr => ∃ k : Nat, i ≤ k ∧ k ≤ n ∧ kv = .int .i64 (k : Int) ∧ R = runE a b (n - k) k ∧ EdOwn wr w.heap.size A' m c' L ∧ Below w.heap.size w wr) (fun kv _ => n - (intOf kv).toNat)
            case atStart => exact ⟨i, by omega, by omega, rfl, HRR.out, HE.out.drewN _, Bdrew HW.out _⟩
            case round =>
              obtain ⟨k, hik, hkn, rfl, hRk, hqe, hqb⟩ := hrel
              have HQE := Lib.hid hqe
              have HQ := Lib.hid hqb
              have HRK := Lib.hid hRk
              clear hqe hqb hRk HE HW hca hcb hpa hpb s1
              by_cases hkn2 : k < n
              · obtain ⟨hla, hca⟩ := byteAt (HA.out.below HQ.out) hkn2
                obtain ⟨hlb, hcb⟩ := byteAt (HB.out.below HQ.out) hkn2
                have hdf := df_at hla hlb
                have k0 : (0 : Int) ≤ (k : Int) := by omega
                have k1 : (k : Int) < (n : Int) := by omega
                have k2 : ((k : Int)).toNat = k := by omega
                have k3 : decide ((k : Int) < (n : Int)) = true := by simp; omega
                cases hdk : df a b k with
                | true =>
                  have s1 : (((a[k] : Nat) : Int) != ((b[k] : Nat) : Int)) = true := by rw [castbne, ← hdf, hdk]
                  have s2 : (((a[k] : Nat) : Int) == ((b[k] : Nat) : Int)) = false := by rw [castbeq, ← hdf, hdk]; rfl
                  have HST := Lib.hid (runE_step hkn2 hdk)
                  clear hdf hdk
                  generalize a[k] = xk at *
                  generalize b[k] = yk at *
                  go_wp2_with fail
                  go_quiet (fail)
                  go_wp2_with fail
                  go_roundw
                  case rel => exact ⟨k + 1, by omega, by omega, by go_num, by rw [HRK.out, HST.out], HQE.out.drewN _, Bdrew HQ.out _⟩
                  case measure => simp [intOf]; omega
                | false =>
                  have he : a[k] = b[k] := by rw [hdk] at hdf; simpa using hdf.symm
                  rw [he] at hca
                  have hR1 : k = R := by rw [HRK.out, runE_stop hdk]
                  have HR1 := Lib.hid hR1
                  clear hdf hdk he hR1
                  generalize b[k] = yk at *
                  have s1 : ((yk : Int) != (yk : Int)) = false := by simp
                  have s2 : ((yk : Int) == (yk : Int)) = true := by simp
                  go_wp2_with fail
                  go_quiet (fail)
                  have HQE := Lib.hid (HQE.out.drewN nq)
                  have HQ := Lib.hid (Bdrew HQ.out nq)
                  generalize wr.drewN nq = wr at *
                  have hR1 := HR1.out
                  subst hR1
                  have hik := HIR.out
                  have hki0 : (0 : Int) ≤ (k : Int) := by omega
                  have hki1 : (i : Int) ≤ (k : Int) := by omega
                  have hki2 : (k : Int) ≤ (c2 : Int) := by omega
                  have hsrc := ((HB.out.below HQ.out).cutAt (k := i) (by omega)).prefix_ (k := k - i) (by omega)
                  rw [← bts_drop, ← bts_take] at hsrc
                  have HSRC := Lib.hid hsrc
                  have szq := HQ.out.size
                  clear hsrc
                  go_wp2_with (first
                    | (at_builtin; refine wpList_app _ rfl (.tmp 60) (.tmp 64) elemB rfl w.heap.size rfl (Own.lit wr #[] 5 szq (Nat.zero_le _)) w.heap.size rfl (HSRC.out.alloc szq _) (bts_one _) (by unfold maxLen; simp; omega) (by simp; omega) (by simp; omega) ?_; intro A3 c3 w3 hown hg hat; simp only [Nat.zero_add, List.nil_append] at hown; have HO3 := Lib.hid hown; have HB3 := Lib.hid (below_app ((Below.refl wr.heap.size wr).alloc (Nat.le_refl _) (Obj.cells #[] 5)) (Nat.le_refl _) (by simp) (Own.lit wr #[] 5 (Nat.le_refl _) (Nat.zero_le _)) hg); have HE3 := Lib.hid (HQE.out.below HB3.out); have sz3 := Nat.le_trans szq HB3.out.size; clear hown hg hat)
                    | (at_builtin; refine wpList_appR _ rfl (.tmp 58) (.tmp 67) elemE rfl w.heap.size rfl (HE3.out.row.alloc (Obj.cells #[.int .i64 (i : Int), .slice A3 (k - i) c3] 43)) rfl (Box.new w3 #[.int .i64 (i : Int), .slice A3 (k - i) c3] 43) rfl (by intro u hu; simp at hu; rcases hu with rfl | rfl <;> rfl) (by unfold maxLen; omega) (by omega) (by simp; omega) ?_; intro A4 c4 w4 hown hg hat; have HO4 := Lib.hid hown; have HG4 := Lib.hid hg; clear hown hg hat))
                  go_roundw
                  case rel =>
                    have hx : Own (w3.alloc (Obj.cells #[.int .i64 (i : Int), .slice A3 (k - i) c3] 43)) w.heap.size 5 A3 (k - i) c3 (bts ((b.drop i).take (k - i))) := HO3.out.alloc _
                    have hp := (HE3.out.alloc (Obj.cells #[.int .i64 (i : Int), .slice A3 (k - i) c3] 43)).push (pos := (i : Int)) (x := ⟨A3, k - i, c3, (b.drop i).take (k - i)⟩) hx ((HBB.out.drop i).take _) (by show 0 < k - i; omega) HG4.out HO4.out
                    refine ⟨i + 1, A4, m + 1, c4, _, by omega, by omega, by go_num, rfl, hp, ?_, ?_⟩
                    · rw [es_snoc, HES.out, HSS.out]; rfl
                    · exact below_appR ((nextB HQ.out (Nat.le_refl _) HB3.out).alloc sz3 _) (Nat.le_refl _) (HE3.out.row.alloc _) (Nat.le_trans sz3 (by simp)) HG4.out
                  case measure => simp [intOf]; omega
              · obtain rfl : k = n := by omega
                have hR1 : k = R := by rw [HRK.out, runE_over]
                have HR1 := Lib.hid hR1
                clear hR1
                have k3 : decide ((k : Int) < (k : Int)) = false := by simp
                go_wp2_with fail
                go_quiet (fail)
                have HQE := Lib.hid (HQE.out.drewN nq)
                have HQ := Lib.hid (Bdrew HQ.out nq)
                generalize wr.drewN nq = wr at *
                have hR1 := HR1.out
                subst hR1
                have hik := HIR.out
                have hki0 : (0 : Int) ≤ (k : Int) := by omega
                have hki1 : (i : Int) ≤ (k : Int) := by omega
                have hki2 : (k : Int) ≤ (c2 : Int) := by omega
                have hsrc := ((HB.out.below HQ.out).cutAt (k := i) (by omega)).prefix_ (k := k - i) (by omega)
                rw [← bts_drop, ← bts_take] at hsrc
                have HSRC := Lib.hid hsrc
                have szq := HQ.out.size
                clear hsrc
                go_wp2_with (first
                  | (at_builtin; refine wpList_app _ rfl (.tmp 60) (.tmp 64) elemB rfl w.heap.size rfl (Own.lit wr #[] 5 szq (Nat.zero_le _)) w.heap.size rfl (HSRC.out.alloc szq _) (bts_one _) (by unfold maxLen; simp; omega) (by simp; omega) (by simp; omega) ?_; intro A3 c3 w3 hown hg hat; simp only [Nat.zero_add, List.nil_append] at hown; have HO3 := Lib.hid hown; have HB3 := Lib.hid (below_app ((Below.refl wr.heap.size wr).alloc (Nat.le_refl _) (Obj.cells #[] 5)) (Nat.le_refl _) (by simp) (Own.lit wr #[] 5 (Nat.le_refl _) (Nat.zero_le _)) hg); have HE3 := Lib.hid (HQE.out.below HB3.out); have sz3 := Nat.le_trans szq HB3.out.size; clear hown hg hat)
                  | (at_builtin; refine wpList_appR _ rfl (.tmp 58) (.tmp 67) elemE rfl w.heap.size rfl (HE3.out.row.alloc (Obj.cells #[.int .i64 (i : Int), .slice A3 (k - i) c3] 43)) rfl (Box.new w3 #[.int .i64 (i : Int), .slice A3 (k - i) c3] 43) rfl (by intro u hu; simp at hu; rcases hu with rfl | rfl <;> rfl) (by unfold maxLen; omega) (by omega) (by simp; omega) ?_; intro A4 c4 w4 hown hg hat; have HO4 := Lib.hid hown; have HG4 := Lib.hid hg; clear hown hg hat))
                go_roundw
                case rel =>
                  have hx : Own (w3.alloc (Obj.cells #[.int .i64 (i : Int), .slice A3 (k - i) c3] 43)) w.heap.size 5 A3 (k - i) c3 (bts ((b.drop i).take (k - i))) := HO3.out.alloc _
                  have hp := (HE3.out.alloc (Obj.cells #[.int .i64 (i : Int), .slice A3 (k - i) c3] 43)).push (pos := (i : Int)) (x := ⟨A3, k - i, c3, (b.drop i).take (k - i)⟩) hx ((HBB.out.drop i).take _) (by show 0 < k - i; omega) HG4.out HO4.out
                  refine ⟨i + 1, A4, m + 1, c4, _, by omega, by omega, by go_num, rfl, hp, ?_, ?_⟩
                  · rw [es_snoc, HES.out, HSS.out]; rfl
                  · exact below_appR ((nextB HQ.out (Nat.le_refl _) HB3.out).alloc sz3 _) (Nat.le_refl _) (HE3.out.row.alloc _) (Nat.le_trans sz3 (by simp)) HG4.out
                case measure => simp [intOf]; omega
        · have p0 : decide ((0 : Int) < (i : Int)) = false := by simp; omega
          have HBG := Lib.hid (show begins a b i = true by unfold begins; rw [HD.out]; simp; omega)
          go_wp2_with fail
          go_quiet (fail)
          obtain ⟨R, hR⟩ : ∃ R, R = runE a b (n - i) i := ⟨_, rfl⟩
          have HIR := Lib.hid (show i < R by rw [hR, runE_step hlt HD.out]; have := (runE_le a b (n - (i + 1)) (i + 1)).1; omega)
          have hSS := edS_yes (n := n) HBG.out
          rw [← hR] at hSS
          have HSS := Lib.hid hSS
          have HRR := Lib.hid hR
          clear hSS hR
          go_wp2_with fail
          go_loopw [7] (fun kv wr => ∃ k : Nat, i ≤ k ∧ k ≤ n ∧ kv = .int .i64 (k : Int) ∧ R = runE a b (n - k) k ∧ EdOwn wr w.heap.size A' m c' L ∧ Below w.heap.size w wr) (fun kv _ => n - (intOf kv).toNat)
          case atStart => exact ⟨i, by omega, by omega, rfl, HRR.out, HE.out.drewN _, Bdrew HW.out _⟩
          case round =>
            obtain ⟨k, hik, hkn, rfl, hRk, hqe, hqb⟩ := hrel
            have HQE := Lib.hid hqe
            have HQ := Lib.hid hqb
            have HRK := Lib.hid hRk
            clear hqe hqb hRk HE HW hca hcb 
            by_cases hkn2 : k < n
            · obtain ⟨hla, hca⟩ := byteAt (HA.out.below HQ.out) hkn2
              obtain ⟨hlb, hcb⟩ := byteAt (HB.out.below HQ.out) hkn2
              have hdf := df_at hla hlb
              have k0 : (0 : Int) ≤ (k : Int) := by omega
              have k1 : (k : Int) < (n : Int) := by omega
              have k2 : ((k : Int)).toNat = k := by omega
              have k3 : decide ((k : Int) < (n : Int)) = true := by simp; omega
              cases hdk : df a b k with
              | true =>
                have s1 : (((a[k] : Nat) : Int) != ((b[k] : Nat) : Int)) = true := by rw [castbne, ← hdf, hdk]
                have s2 : (((a[k] : Nat) : Int) == ((b[k] : Nat) : Int)) = false := by rw [castbeq, ← hdf, hdk]; rfl
                have HST := Lib.hid (runE_step hkn2 hdk)
                clear hdf hdk
                generalize a[k] = xk at *
                generalize b[k] = yk at *
                go_wp2_with fail
                go_quiet (fail)
                go_wp2_with fail
                go_roundw
                case rel => exact ⟨k + 1, by omega, by omega, by go_num, by rw [HRK.out, HST.out], HQE.out.drewN _, Bdrew HQ.out _⟩
                case measure => simp [intOf]; omega
              | false =>
                have he : a[k] = b[k] := by rw [hdk] at hdf; simpa using hdf.symm
                rw [he] at hca
                have hR1 : k = R := by rw [HRK.out, runE_stop hdk]
                have HR1 := Lib.hid hR1
                clear hdf hdk he hR1
                generalize b[k] = yk at *
                have s1 : ((yk : Int) != (yk : Int)) = false := by simp
                have s2 : ((yk : Int) == (yk : Int)) = true := by simp
                go_wp2_with fail
                go_quiet (fail)
                have HQE := Lib.hid (HQE.out.drewN nq)
                have HQ := Lib.hid (Bdrew HQ.out nq)
                generalize wr.drewN nq = wr at *
                have hR1 := HR1.out
                subst hR1
                have hik := HIR.out
                have hki0 : (0 : Int) ≤ (k : Int) := by omega
                have hki1 : (i : Int) ≤ (k : Int) := by omega
                have hki2 : (k : Int) ≤ (c2 : Int) := by omega
                have hsrc := ((HB.out.below HQ.out).cutAt (k := i) (by omega)).prefix_ (k := k - i) (by omega)
                rw [← bts_drop, ← bts_take] at hsrc
                have HSRC := Lib.hid hsrc
                have szq := HQ.out.size
                clear hsrc
                go_wp2_with (first
                  | (at_builtin; refine wpList_app _ rfl (.tmp 60) (.tmp 64) elemB rfl w.heap.size rfl (Own.lit wr #[] 5 szq (Nat.zero_le _)) w.heap.size rfl (HSRC.out.alloc szq _) (bts_one _) (by unfold maxLen; simp; omega) (by simp; omega) (by simp; omega) ?_; intro A3 c3 w3 hown hg hat; simp only [Nat.zero_add, List.nil_append] at hown; have HO3 := Lib.hid hown; have HB3 := Lib.hid (below_app ((Below.refl wr.heap.size wr).alloc (Nat.le_refl _) (Obj.cells #[] 5)) (Nat.le_refl _) (by simp) (Own.lit wr #[] 5 (Nat.le_refl _) (Nat.zero_le _)) hg); have HE3 := Lib.hid (HQE.out.below HB3.out); have sz3 := Nat.le_trans szq HB3.out.size; clear hown hg hat)
                  | (at_builtin; refine wpList_appR _ rfl (.tmp 58) (.tmp 67) elemE rfl w.heap.size rfl (HE3.out.row.alloc (Obj.cells #[.int .i64 (i : Int), .slice A3 (k - i) c3] 43)) rfl (Box.new w3 #[.int .i64 (i : Int), .slice A3 (k - i) c3] 43) rfl (by intro u hu; simp at hu; rcases hu with rfl | rfl <;> rfl) (by unfold maxLen; omega) (by omega) (by simp; omega) ?_; intro A4 c4 w4 hown hg hat; have HO4 := Lib.hid hown; have HG4 := Lib.hid hg; clear hown hg hat))
                go_roundw
                case rel =>
                  have hx : Own (w3.alloc (Obj.cells #[.int .i64 (i : Int), .slice A3 (k - i) c3] 43)) w.heap.size 5 A3 (k - i) c3 (bts ((b.drop i).take (k - i))) := HO3.out.alloc _
                  have hp := (HE3.out.alloc (Obj.cells #[.int .i64 (i : Int), .slice A3 (k - i) c3] 43)).push (pos := (i : Int)) (x := ⟨A3, k - i, c3, (b.drop i).take (k - i)⟩) hx ((HBB.out.drop i).take _) (by show 0 < k - i; omega) HG4.out HO4.out
                  refine ⟨i + 1, A4, m + 1, c4, _, by omega, by omega, by go_num, rfl, hp, ?_, ?_⟩
                  · rw [es_snoc, HES.out, HSS.out]; rfl
                  · exact below_appR ((nextB HQ.out (Nat.le_refl _) HB3.out).alloc sz3 _) (Nat.le_refl _) (HE3.out.row.alloc _) (Nat.le_trans sz3 (by simp)) HG4.out
                case measure => simp [intOf]; omega
            · obtain rfl : k = n := by omega
              have hR1 : k = R := by rw [HRK.out, runE_over]
              have HR1 := Lib.hid hR1
              clear hR1
              have k3 : decide ((k : Int) < (k : Int)) = false := by simp
              go_wp2_with fail
              go_quiet (fail)
              have HQE := Lib.hid (HQE.out.drewN nq)
              have HQ := Lib.hid (Bdrew HQ.out nq)
              generalize wr.drewN nq = wr at *
              have hR1 := HR1.out
              subst hR1
              have hik := HIR.out
              have hki0 : (0 : Int) ≤ (k : Int) := by omega
              have hki1 : (i : Int) ≤ (k : Int) := by omega
              have hki2 : (k : Int) ≤ (c2 : Int) := by omega
              have hsrc := ((HB.out.below HQ.out).cutAt (k := i) (by omega)).prefix_ (k := k - i) (by omega)
              rw [← bts_drop, ← bts_take] at hsrc
              have HSRC := Lib.hid hsrc
              have szq := HQ.out.size
              clear hsrc
              go_wp2_with (first
                | (at_builtin; refine wpList_app _ rfl (.tmp 60) (.tmp 64) elemB rfl w.heap.size rfl (Own.lit wr #[] 5 szq (Nat.zero_le _)) w.heap.size rfl (HSRC.out.alloc szq _) (bts_one _) (by unfold maxLen; simp; omega) (by simp; omega) (by simp; omega) ?_; intro A3 c3 w3 hown hg hat; simp only [Nat.zero_add, List.nil_append] at hown; have HO3 := Lib.hid hown; have HB3 := Lib.hid (below_app ((Below.refl wr.heap.size wr).alloc (Nat.le_refl _) (Obj.cells #[] 5)) (Nat.le_refl _) (by simp) (Own.lit wr #[] 5 (Nat.le_refl _) (Nat.zero_le _)) hg); have HE3 := Lib.hid (HQE.out.below HB3.out); have sz3 := Nat.le_trans szq HB3.out.size; clear hown hg hat)
                | (at_builtin; refine wpList_appR _ rfl (.tmp 58) (.tmp 67) elemE rfl w.heap.size rfl (HE3.out.row.alloc (Obj.cells #[.int .i64 (i : Int), .slice A3 (k - i) c3] 43)) rfl (Box.new w3 #[.int .i64 (i : Int), .slice A3 (k - i) c3] 43) rfl (by intro u hu; simp at hu; rcases hu with rfl | rfl <;> rfl) (by unfold maxLen; omega) (by omega) (by simp; omega) ?_; intro A4 c4 w4 hown hg hat; have HO4 := Lib.hid hown; have HG4 := Lib.hid hg; clear hown hg hat))
              go_roundw
              case rel =>
                have hx : Own (w3.alloc (Obj.cells #[.int .i64 (i : Int), .slice A3 (k - i) c3] 43)) w.heap.size 5 A3 (k - i) c3 (bts ((b.drop i).take (k - i))) := HO3.out.alloc _
                have hp := (HE3.out.alloc (Obj.cells #[.int .i64 (i : Int), .slice A3 (k - i) c3] 43)).push (pos := (i : Int)) (x := ⟨A3, k - i, c3, (b.drop i).take (k - i)⟩) hx ((HBB.out.drop i).take _) (by show 0 < k - i; omega) HG4.out HO4.out
                refine ⟨i + 1, A4, m + 1, c4, _, by omega, by omega, by go_num, rfl, hp, ?_, ?_⟩
                · rw [es_snoc, HES.out, HSS.out]; rfl
                · exact below_appR ((nextB HQ.out (Nat.le_refl _) HB3.out).alloc sz3 _) (Nat.le_refl _) (HE3.out.row.alloc _) (Nat.le_trans sz3 (by simp)) HG4.out
              case measure => simp [intOf]; omega
    · obtain rfl : i = n := by omega
      go_wp2_with fail
      go_ret
      exact ⟨A', m, c', L, rfl, HE.out, HES.out, hmi, HW.out⟩
end Go.Proofs.Ytaagfmaboggbhaa.delta
