/-
  The walk of the document's Loose.
-/
import Derived.Test.YtigebiknlodghaaRlePack
import Derived.Test.YtigebiknlodghaaZeros
namespace Go.Proofs.Ytigebiknlodghaa.rle
open Go.RowKit
set_option linter.unusedVariables false

/-- What Loose answers. -/
def LoRes (w : World) (p : List Nat) (most : Int) (e : Ending) (w' : World) : Prop :=
  (∃ code : Nat, 0 < code ∧ lo most [] p = .inl code ∧ e = .returned (.tuple #[.slice none 0 0, .int .i64 (code : Int)]) ∧ Below w.heap.size w w') ∨
  (∃ out A c, lo most [] p = .inr out ∧ e = .returned (.tuple #[.slice A out.length c, .int .i64 0]) ∧ Own w' w.heap.size 5 A out.length c (bts out) ∧ IsB out ∧ out.length ≤ 128 * p.length ∧ Below w.heap.size w w')

set_option maxRecDepth 100000 in
set_option maxHeartbeats 3200000 in
/-- The document's Loose. -/
theorem loose_any {B n : Nat} {A : Option Addr} (c : Nat) {p : List Nat} {w : World} (h : Seg w B A n (bts p)) (hp : IsB p) (hB : B ≤ w.heap.size) (hnc : n ≤ c) (hn : n ≤ 5000) (most : Int) (m0 : -9223372036854775808 ≤ most) (m1 : most ≤ 9223372036854775807) :
    Calls Try.prog 45 #[.slice A n c, .int .i64 most] w (LoRes w p most) := by
  have hlen : p.length = n := by rw [← bts_len]; exact h.1
  have HL := Lib.hid hlen
  clear hlen
  go_enter Try.func45, Try.ntmps45
  go_wp2
  go_loopw [0, 6] (fun v t wr => ∃ r o : List Nat, ∃ A0 n0 c0 A1 m c1, v = .slice A0 n0 c0 ∧ t = .slice A1 m c1 ∧ Seg wr B A0 n0 (bts r) ∧ n0 ≤ c0 ∧ n0 ≤ n ∧ Own wr w.heap.size 5 A1 m c1 (bts o) ∧ Below w.heap.size w wr ∧ lo most [] p = lo most o r ∧ m + 128 * n0 ≤ 128 * n ∧ IsB o ∧ IsB r) (fun v _ _ => sliceLen v)
  case atStart => exact ⟨p, [], A, n, c, none, 0, 0, rfl, rfl, h, hnc, Nat.le_refl _, Own.nil _ _ _, Below.refl _ _, rfl, by omega, IsB.nil, hp⟩
  case round =>
    obtain ⟨r, o, A0, n0, c0, A1, m, ca, rfl, rfl, hseg, hnc0, hn0, hown, hbel, hlo, hm, hob, hrb⟩ := hrel
    have hrl : r.length = n0 := by rw [← bts_len]; exact hseg.1
    have hml : o.length = m := by rw [← bts_len]; exact hown.len
    have HRL := Lib.hid hrl
    have HML := Lib.hid hml
    have HLO := Lib.hid hlo
    have HO := Lib.hid hown
    have HB := Lib.hid hbel
    have HS := Lib.hid hseg
    have HOB := Lib.hid hob
    have HRB := Lib.hid hrb
    have sz := hbel.size
    clear hrl hml hlo hown hbel hseg hob hrb h hp
    by_cases hlt : 0 < n0
    · obtain ⟨b, off, hlk, hA, hbB, hcell⟩ := HS.out.byte hlt
      subst hA
      have hx := HRB.out.at_ hlk
      have hd : r = r[0] :: r.drop 1 := by have := drop_at hlk; rw [List.drop_zero] at this; exact this
      have HD := Lib.hid hd
      clear hd
      generalize r[0] = x at *
      rw [Nat.add_zero] at hcell
      obtain ⟨n1, rfl⟩ : ∃ q, n0 = q + 1 := ⟨n0 - 1, by omega⟩
      obtain ⟨c1, rfl⟩ : ∃ q, c0 = q + 1 := ⟨c0 - 1, by omega⟩
      have HS1 := Lib.hid (HS.out.cutAt (show 1 ≤ n1 + 1 by omega))
      rw [← bts_drop, Nat.add_sub_cancel] at HS1
      by_cases cz : c1 = 0
      · subst cz
        obtain rfl : n1 = 0 := by omega
        have hr1 : r.drop 1 = [] := List.drop_of_length_le (by rw [HRL.out]; omega)
        have HR1 := Lib.hid hr1
        clear hr1
        by_cases cx : x < 128
        · have hres : lo most [] p = .inl 20 := by rw [HLO.out, HD.out, lo_cons, if_pos cx, if_pos (by simp [HR1.out])]
          have HR := Lib.hid hres
          clear hres
          go_wp2
          go_ret2
          exact .inl ⟨20, by omega, HR.out, rfl, HB.out⟩
        · skip
          have HLL := Lib.hid (show m + (x - 127) ≤ maxLen by unfold maxLen; omega)
          have HLL' := Lib.hid (show (m + (x - 127)) * 1 ≤ 140737488355328 by omega)
          have hstep : lo most [] p = if most < ((o ++ List.replicate (x - 127) 0).length : Int) then .inl 12 else lo most (o ++ List.replicate (x - 127) 0) (r.drop 1) := by
            rw [HLO.out, HD.out, lo_cons, if_neg cx]; rfl
          have hlen2 : (o ++ List.replicate (x - 127) 0).length = m + (x - 127) := by simp [HML.out]
          rw [hlen2] at hstep
          have HST := Lib.hid hstep
          clear hstep hlen2
          have t4 : decide ((x : Int) < 128) = false := by simp; omega
          by_cases cm : most < ((m + (x - 127) : Nat) : Int)
          · have t3 : decide (most < (m : Int) + ((x - 127 : Nat) : Int)) = true := by simp; omega
            have hres : lo most [] p = .inl 12 := by rw [HST.out, if_pos cm]
            have HR := Lib.hid hres
            clear hres cm
            go_wp2_with (at_builtin; refine wpList_appz _ rfl (.tmp 34) (.tmp 36) elemB rfl rfl Try.underlying3 rfl w.heap.size rfl HO.out (x - 127) ((x : Int) - 127) (by omega) rfl (by omega) HLL.out HLL'.out sz ?_; intro A2 c2 w1 hown1 hg1 hat1; have HO1 := Lib.hid hown1; have HB1 := Lib.hid (below_app HB.out (Nat.le_refl _) sz HO.out hg1); have HS2 := Lib.hid (HS.out.below ((Below.refl B wr).grown hg1 (Nat.le_trans hB sz) (fun k hk => Nat.le_trans hB (HO.out.lt k hk).1))); clear hown1 hg1 hat1)
            go_ret2
            exact .inl ⟨12, by omega, HR.out, rfl, HB1.out⟩
          · have t3 : decide (most < (m : Int) + ((x - 127 : Nat) : Int)) = false := by simp; omega
            have hres : lo most [] p = lo most (o ++ List.replicate (x - 127) 0) (r.drop 1) := by rw [HST.out, if_neg cm]
            have HR := Lib.hid hres
            clear hres cm
            go_wp2_with (at_builtin; refine wpList_appz _ rfl (.tmp 34) (.tmp 36) elemB rfl rfl Try.underlying3 rfl w.heap.size rfl HO.out (x - 127) ((x : Int) - 127) (by omega) rfl (by omega) HLL.out HLL'.out sz ?_; intro A2 c2 w1 hown1 hg1 hat1; have HO1 := Lib.hid hown1; have HB1 := Lib.hid (below_app HB.out (Nat.le_refl _) sz HO.out hg1); have HS2 := Lib.hid (HS.out.below ((Below.refl B wr).grown hg1 (Nat.le_trans hB sz) (fun k hk => Nat.le_trans hB (HO.out.lt k hk).1))); clear hown1 hg1 hat1)
            go_roundw
            case rel => exact ⟨r.drop 1, o ++ List.replicate (x - 127) 0, _, 0, 0, A2, m + (x - 127), c2, rfl, rfl, by rw [bts_drop]; exact HS2.out.over, by omega, by omega, by rw [bts_app, bts_rep]; exact HO1.out, HB1.out, HR.out, by omega, HOB.out.app (IsB.rep _), HRB.out.drop _⟩
            case measure => simp only [sliceLen_mk]; omega
      · by_cases cx : x < 128
        · by_cases cs : n1 < x + 1
          · have hres : lo most [] p = .inl 20 := by rw [HLO.out, HD.out, lo_cons, if_pos cx, if_pos (by simp [HRL.out]; omega)]
            have HR := Lib.hid hres
            clear hres
            go_wp2
            go_ret2
            exact .inl ⟨20, by omega, HR.out, rfl, HB.out⟩
          · obtain ⟨n2, rfl⟩ : ∃ q, n1 = x + 1 + q := ⟨n1 - (x + 1), by omega⟩
            obtain ⟨c2, rfl⟩ : ∃ q, c1 = x + 1 + q := ⟨c1 - (x + 1), by omega⟩
            have HM := Lib.hid (HS1.out.prefix_ (show x + 1 ≤ x + 1 + n2 by omega))
            rw [← bts_take] at HM
            have HLL := Lib.hid (show m + (x + 1) ≤ maxLen by unfold maxLen; omega)
            have HLL' := Lib.hid (show (m + (x + 1)) * 1 ≤ 140737488355328 by omega)
            have hstep : lo most [] p = if most < ((o ++ (r.drop 1).take (x + 1)).length : Int) then .inl 12 else lo most (o ++ (r.drop 1).take (x + 1)) ((r.drop 1).drop (x + 1)) := by
              rw [HLO.out]; conv => lhs; rw [HD.out, lo_cons, if_pos cx, if_neg (by simp [HRL.out])]
            have hlen2 : (o ++ (r.drop 1).take (x + 1)).length = m + (x + 1) := by simp [HML.out, HRL.out]
            rw [hlen2] at hstep
            have HST := Lib.hid hstep
            clear hstep hlen2
            by_cases cz2 : c2 = 0
            · subst cz2
              obtain rfl : n2 = 0 := by omega
              by_cases cm : most < ((m + (x + 1) : Nat) : Int)
              · have t3 : decide (most < (m : Int) + ((x : Int) + 1)) = true := by simp; omega
                have hres : lo most [] p = .inl 12 := by rw [HST.out, if_pos cm]
                have HR := Lib.hid hres
                clear hres cm
                go_wp2_with (at_builtin; refine wpList_app _ rfl (.tmp 24) (.tmp 28) elemB rfl w.heap.size rfl HO.out B (news := bts ((r.drop 1).take (x + 1))) rfl HM.out (bts_one _) HLL.out HLL'.out sz ?_; intro A2 c2' w1 hown1 hg1 hat1; have HO1 := Lib.hid hown1; have HB1 := Lib.hid (below_app HB.out (Nat.le_refl _) sz HO.out hg1); have HS2 := Lib.hid (HS1.out.below ((Below.refl B wr).grown hg1 (Nat.le_trans hB sz) (fun k hk => Nat.le_trans hB (HO.out.lt k hk).1))); clear hown1 hg1 hat1)
                go_ret2
                exact .inl ⟨12, by omega, HR.out, rfl, HB1.out⟩
              · have t3 : decide (most < (m : Int) + ((x : Int) + 1)) = false := by simp; omega
                have hres : lo most [] p = lo most (o ++ (r.drop 1).take (x + 1)) ((r.drop 1).drop (x + 1)) := by rw [HST.out, if_neg cm]
                have HR := Lib.hid hres
                clear hres cm
                go_wp2_with (at_builtin; refine wpList_app _ rfl (.tmp 24) (.tmp 28) elemB rfl w.heap.size rfl HO.out B (news := bts ((r.drop 1).take (x + 1))) rfl HM.out (bts_one _) HLL.out HLL'.out sz ?_; intro A2 c2' w1 hown1 hg1 hat1; have HO1 := Lib.hid hown1; have HB1 := Lib.hid (below_app HB.out (Nat.le_refl _) sz HO.out hg1); have HS2 := Lib.hid (HS1.out.below ((Below.refl B wr).grown hg1 (Nat.le_trans hB sz) (fun k hk => Nat.le_trans hB (HO.out.lt k hk).1))); clear hown1 hg1 hat1)
                go_roundw
                case rel => exact ⟨(r.drop 1).drop (x + 1), o ++ (r.drop 1).take (x + 1), _, 0, 0, A2, m + (x + 1), c2', rfl, rfl, by rw [bts_drop]; exact HS2.out.over, by omega, by omega, by rw [bts_app]; exact HO1.out, HB1.out, HR.out, by omega, HOB.out.app ((HRB.out.drop _).take _), (HRB.out.drop _).drop _⟩
                case measure => simp only [sliceLen_mk]; omega
            · skip
              by_cases cm : most < ((m + (x + 1) : Nat) : Int)
              · have t3 : decide (most < (m : Int) + ((x : Int) + 1)) = true := by simp; omega
                have hres : lo most [] p = .inl 12 := by rw [HST.out, if_pos cm]
                have HR := Lib.hid hres
                clear hres cm
                go_wp2_with (at_builtin; refine wpList_app _ rfl (.tmp 24) (.tmp 28) elemB rfl w.heap.size rfl HO.out B (news := bts ((r.drop 1).take (x + 1))) rfl HM.out (bts_one _) HLL.out HLL'.out sz ?_; intro A2 c2' w1 hown1 hg1 hat1; have HO1 := Lib.hid hown1; have HB1 := Lib.hid (below_app HB.out (Nat.le_refl _) sz HO.out hg1); have HS2 := Lib.hid (HS1.out.below ((Below.refl B wr).grown hg1 (Nat.le_trans hB sz) (fun k hk => Nat.le_trans hB (HO.out.lt k hk).1))); clear hown1 hg1 hat1)
                go_ret2
                exact .inl ⟨12, by omega, HR.out, rfl, HB1.out⟩
              · have t3 : decide (most < (m : Int) + ((x : Int) + 1)) = false := by simp; omega
                have hres : lo most [] p = lo most (o ++ (r.drop 1).take (x + 1)) ((r.drop 1).drop (x + 1)) := by rw [HST.out, if_neg cm]
                have HR := Lib.hid hres
                clear hres cm
                go_wp2_with (at_builtin; refine wpList_app _ rfl (.tmp 24) (.tmp 28) elemB rfl w.heap.size rfl HO.out B (news := bts ((r.drop 1).take (x + 1))) rfl HM.out (bts_one _) HLL.out HLL'.out sz ?_; intro A2 c2' w1 hown1 hg1 hat1; have HO1 := Lib.hid hown1; have HB1 := Lib.hid (below_app HB.out (Nat.le_refl _) sz HO.out hg1); have HS2 := Lib.hid (HS1.out.below ((Below.refl B wr).grown hg1 (Nat.le_trans hB sz) (fun k hk => Nat.le_trans hB (HO.out.lt k hk).1))); clear hown1 hg1 hat1)
                go_roundw
                case rel => exact ⟨(r.drop 1).drop (x + 1), o ++ (r.drop 1).take (x + 1), _, n2, c2, A2, m + (x + 1), c2', rfl, rfl, by rw [bts_drop]; exact (by have := HS2.out.cutAt (show x + 1 ≤ x + 1 + n2 by omega); rw [Nat.add_sub_cancel_left] at this; exact this), by omega, by omega, by rw [bts_app]; exact HO1.out, HB1.out, HR.out, by omega, HOB.out.app ((HRB.out.drop _).take _), (HRB.out.drop _).drop _⟩
                case measure => simp only [sliceLen_mk]; omega
        · skip
          have HLL := Lib.hid (show m + (x - 127) ≤ maxLen by unfold maxLen; omega)
          have HLL' := Lib.hid (show (m + (x - 127)) * 1 ≤ 140737488355328 by omega)
          have hstep : lo most [] p = if most < ((o ++ List.replicate (x - 127) 0).length : Int) then .inl 12 else lo most (o ++ List.replicate (x - 127) 0) (r.drop 1) := by
            rw [HLO.out, HD.out, lo_cons, if_neg cx]; rfl
          have hlen2 : (o ++ List.replicate (x - 127) 0).length = m + (x - 127) := by simp [HML.out]
          rw [hlen2] at hstep
          have HST := Lib.hid hstep
          clear hstep hlen2
          have t4 : decide ((x : Int) < 128) = false := by simp; omega
          by_cases cm : most < ((m + (x - 127) : Nat) : Int)
          · have t3 : decide (most < (m : Int) + ((x - 127 : Nat) : Int)) = true := by simp; omega
            have hres : lo most [] p = .inl 12 := by rw [HST.out, if_pos cm]
            have HR := Lib.hid hres
            clear hres cm
            go_wp2_with (at_builtin; refine wpList_appz _ rfl (.tmp 34) (.tmp 36) elemB rfl rfl Try.underlying3 rfl w.heap.size rfl HO.out (x - 127) ((x : Int) - 127) (by omega) rfl (by omega) HLL.out HLL'.out sz ?_; intro A2 c2 w1 hown1 hg1 hat1; have HO1 := Lib.hid hown1; have HB1 := Lib.hid (below_app HB.out (Nat.le_refl _) sz HO.out hg1); have HS2 := Lib.hid (HS.out.below ((Below.refl B wr).grown hg1 (Nat.le_trans hB sz) (fun k hk => Nat.le_trans hB (HO.out.lt k hk).1))); clear hown1 hg1 hat1)
            go_ret2
            exact .inl ⟨12, by omega, HR.out, rfl, HB1.out⟩
          · have t3 : decide (most < (m : Int) + ((x - 127 : Nat) : Int)) = false := by simp; omega
            have hres : lo most [] p = lo most (o ++ List.replicate (x - 127) 0) (r.drop 1) := by rw [HST.out, if_neg cm]
            have HR := Lib.hid hres
            clear hres cm
            go_wp2_with (at_builtin; refine wpList_appz _ rfl (.tmp 34) (.tmp 36) elemB rfl rfl Try.underlying3 rfl w.heap.size rfl HO.out (x - 127) ((x : Int) - 127) (by omega) rfl (by omega) HLL.out HLL'.out sz ?_; intro A2 c2 w1 hown1 hg1 hat1; have HO1 := Lib.hid hown1; have HB1 := Lib.hid (below_app HB.out (Nat.le_refl _) sz HO.out hg1); have HS2 := Lib.hid (HS.out.below ((Below.refl B wr).grown hg1 (Nat.le_trans hB sz) (fun k hk => Nat.le_trans hB (HO.out.lt k hk).1))); clear hown1 hg1 hat1)
            go_roundw
            case rel => exact ⟨r.drop 1, o ++ List.replicate (x - 127) 0, _, n1, c1, A2, m + (x - 127), c2, rfl, rfl, by rw [bts_drop]; exact HS2.out.cutAt (show 1 ≤ n1 + 1 by omega), by omega, by omega, by rw [bts_app, bts_rep]; exact HO1.out, HB1.out, HR.out, by omega, HOB.out.app (IsB.rep _), HRB.out.drop _⟩
            case measure => simp only [sliceLen_mk]; omega
    · have hr : r = [] := List.eq_nil_of_length_eq_zero (by rw [HRL.out]; omega)
      have hres : lo most [] p = .inr o := by rw [HLO.out, hr, lo_nil]
      have HR := Lib.hid hres
      clear hr hres
      go_wp2
      go_ret2
      exact .inr ⟨o, A1, ca, HR.out, by rw [HML.out]; rfl, by rw [HML.out]; exact HO.out, HOB.out, by rw [HML.out, HL.out]; omega, HB.out⟩
end Go.Proofs.Ytigebiknlodghaa.rle
