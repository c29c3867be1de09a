/-
  The walk of rle.Unpack.
-/
import Derived.Test.YtigebiknlodghaaRlePack
import Derived.Test.YtigebiknlodghaaZeros
import Derived.Deep.RegionWith
namespace Go.Proofs.Ytigebiknlodghaa.rle
open Go.RowKit
set_option linter.unusedVariables false

/-- What Unpack answers. -/
def UnRes (w : World) (p : List Nat) (most : Int) (e : Ending) (w' : World) : Prop :=
  (∃ code : Nat, lo most [] p = .inl code ∧ e = .returned (.tuple #[.slice none 0 0, .int .i64 (code : Int)]) ∧ Below w.heap.size w w') ∨
  (∃ out A c, lo most [] p = .inr out ∧ pk out = p ∧ e = .returned (.tuple #[.slice A out.length c, .int .i64 0]) ∧ Own w' w.heap.size 5 A out.length c (bts out) ∧ IsB out ∧ Below w.heap.size w w') ∨
  (∃ out, lo most [] p = .inr out ∧ pk out ≠ p ∧ e = .returned (.tuple #[.slice none 0 0, .int .i64 21]) ∧ Below w.heap.size w w')

theorem mask127 (c : Nat) (h : c < 256) : bits .and .u8 (c : Int) 127 = ((c % 128 : Nat) : Int) := by
  have := u8_and_nat c 127 h (by decide)
  rw [nat_mask7] at this
  exact this

set_option maxRecDepth 100000 in
set_option maxHeartbeats 3200000 in
/-- rle.Unpack. -/
theorem unpack_any {B n : Nat} {A : Option Addr} (c : Nat) {p : List Nat} {w : World} (h : Seg w B A n (bts p)) (hp : IsB p) (hB : B ≤ w.heap.size) (hnc : n ≤ c) (hn : n ≤ 5000) (most : Int) (m0 : -9223372036854775808 ≤ most) (m1 : most ≤ 9223372036854775807) :
    Calls Try.prog 44 #[.slice A n c, .int .i64 most] w (UnRes w p most) := by
  have hlen : p.length = n := by rw [← bts_len]; exact h.1
  have HL := Lib.hid hlen
  have HPB := Lib.hid hp
  clear hlen hp
  go_enter Try.func44, Try.ntmps44
  go_wp2
  go_loopw [6, 7] (fun t i wr => ∃ k m : Nat, ∃ o A1 c1, k ≤ n ∧ i = .int .i64 k ∧ t = .slice A1 m c1 ∧ Own wr w.heap.size 5 A1 m c1 (bts o) ∧ Below w.heap.size w wr ∧ lo most [] p = lo most o (p.drop k) ∧ m ≤ 128 * k ∧ IsB o) (fun _ i _ => n - (intOf i).toNat)
  case atStart => exact ⟨0, 0, [], none, 0, by omega, rfl, rfl, Own.nil _ _ _, Below.refl _ _, by simp, by omega, IsB.nil⟩
  case round =>
    obtain ⟨k, m, o, A1, ca, hk, rfl, rfl, hown, hbel, hlo, hm, hob⟩ := hrel
    have HLO := Lib.hid hlo
    have HO := Lib.hid hown
    have HB := Lib.hid hbel
    have HOB := Lib.hid hob
    have sz := hbel.size
    have hml : o.length = m := by rw [← bts_len]; exact hown.len
    have HML := Lib.hid hml
    clear hlo hown hbel hob hml
    have HS := Lib.hid (h.below (HB.out.mono hB))
    by_cases hlt : k < n
    · obtain ⟨b, off, hlk, hA, hbB, hcell⟩ := HS.out.byte hlt
      subst hA
      have hx := HPB.out.at_ hlk
      have hd := drop_at hlk
      have HD := Lib.hid hd
      clear hd
      generalize p[k] = x at *
      have hkc : ¬ c = k + 1 → True := fun _ => trivial
      by_cases cx : x < 128
      · have e1 : bits .and .u8 (x : Int) 127 = (x : Int) := by rw [mask127 x hx, Nat.mod_eq_of_lt cx]
        by_cases cs : n - (k + 1) < x + 1
        · have hres : lo most [] p = .inl 20 := by rw [HLO.out, HD.out, lo_cons, if_pos cx, if_pos (by simp [HL.out]; omega)]
          have HR := Lib.hid hres
          clear hres
          go_wp2
          go_ret2
          exact .inl ⟨20, HR.out, rfl, HB.out⟩
        · have hkc : ¬ c = k + 1 := by omega
          have HM := Lib.hid ((HS.out.cutAt (show k + 1 ≤ n by omega)).prefix_ (show x + 1 ≤ n - (k + 1) by omega))
          rw [← bts_drop, ← bts_take] at HM
          have hL : m + (k + 1 + (x + 1) - (k + 1)) ≤ maxLen := by unfold maxLen; omega
          have hL' : (m + (k + 1 + (x + 1) - (k + 1))) * 1 ≤ 140737488355328 := by omega
          have HLL := Lib.hid hL
          have HLL' := Lib.hid hL'
          have HEQ := Lib.hid (show k + 1 + (x + 1) - (k + 1) = x + 1 from by omega)
          clear hL hL'
          have hstep : lo most [] p = if most < ((o ++ (p.drop (k + 1)).take (x + 1)).length : Int) then .inl 12 else lo most (o ++ (p.drop (k + 1)).take (x + 1)) (p.drop (k + 1 + (x + 1))) := by
            rw [HLO.out, HD.out, lo_cons, if_pos cx, if_neg (by simp [HL.out]; omega), List.drop_drop]
          have hlen2 : (o ++ (p.drop (k + 1)).take (x + 1)).length = m + (x + 1) := by simp [HL.out, HML.out]; omega
          rw [hlen2] at hstep
          have HST := Lib.hid hstep
          clear hstep hlen2
          by_cases cm : most < ((m + (x + 1) : Nat) : Int)
          · have t3 : decide (most < (m : Int) + ((x : Int) + 1)) = true := by simp; omega
            have hres : lo most [] p = .inl 12 := by rw [HST.out, if_pos cm]
            have HR := Lib.hid hres
            clear hres cm
            go_wp2_with (at_builtin; refine wpList_app _ rfl (.tmp 34) (.tmp 40) elemB rfl w.heap.size rfl HO.out B (news := bts ((p.drop (k + 1)).take (x + 1))) rfl (by rw [HEQ.out]; exact HM.out) (bts_one _) HLL.out HLL'.out sz ?_; intro A2 c2 w1 hown1 hg1 hat1; rw [HEQ.out] at hown1; have HO1 := Lib.hid hown1; have HB1 := Lib.hid (below_app HB.out (Nat.le_refl _) sz HO.out hg1); clear hown1 hg1 hat1)
            go_ret2
            exact .inl ⟨12, HR.out, rfl, HB1.out⟩
          · have t3 : decide (most < (m : Int) + ((x : Int) + 1)) = false := by simp; omega
            have hres : lo most [] p = lo most (o ++ (p.drop (k + 1)).take (x + 1)) (p.drop (k + 1 + (x + 1))) := by rw [HST.out, if_neg cm]
            have HR := Lib.hid hres
            clear hres cm
            go_wp2_with (at_builtin; refine wpList_app _ rfl (.tmp 34) (.tmp 40) elemB rfl w.heap.size rfl HO.out B (news := bts ((p.drop (k + 1)).take (x + 1))) rfl (by rw [HEQ.out]; exact HM.out) (bts_one _) HLL.out HLL'.out sz ?_; intro A2 c2 w1 hown1 hg1 hat1; rw [HEQ.out] at hown1; have HO1 := Lib.hid hown1; have HB1 := Lib.hid (below_app HB.out (Nat.le_refl _) sz HO.out hg1); clear hown1 hg1 hat1)
            go_roundw
            case rel => exact ⟨k + 1 + (x + 1), m + (x + 1), o ++ (p.drop (k + 1)).take (x + 1), A2, c2, by omega, by go_num, rfl, by rw [bts_app]; exact HO1.out, HB1.out, HR.out, by omega, HOB.out.app ((HPB.out.drop _).take _)⟩
            case measure => simp [intOf]; omega
      · have e1 : bits .and .u8 (x : Int) 127 = (x : Int) - 128 := by rw [mask127 x hx]; omega
        have hL : m + (x - 127) ≤ maxLen := by unfold maxLen; omega
        have HLL := Lib.hid hL
        have HLL' := Lib.hid (show (m + (x - 127)) * 1 ≤ 140737488355328 by omega)
        clear hL
        have hstep : lo most [] p = if most < ((o ++ List.replicate (x - 127) 0).length : Int) then .inl 12 else lo most (o ++ List.replicate (x - 127) 0) (p.drop (k + 1)) := by
          rw [HLO.out, HD.out, lo_cons, if_neg cx]
        have hlen2 : (o ++ List.replicate (x - 127) 0).length = m + (x - 127) := by simp [HML.out]
        rw [hlen2] at hstep
        have HST := Lib.hid hstep
        clear hstep hlen2
        have t4 : decide ((x : Int) < 128) = false := by simp; omega
        have e5 : ((x - 127 : Nat) : Int) = (x : Int) - 127 := by omega
        have E5 := Lib.hid e5
        clear e5
        by_cases cm : most < ((m + (x - 127) : Nat) : Int)
        · have t3 : decide (most < (m : Int) + ((x - 127 : Nat) : Int)) = true := by simp; omega
          have hres : lo most [] p = .inl 12 := by rw [HST.out, if_pos cm]
          have HR := Lib.hid hres
          clear hres cm
          go_wp2_with (at_builtin; refine wpList_appz _ rfl (.tmp 45) (.tmp 46) elemB rfl rfl Try.underlying3 rfl w.heap.size rfl HO.out (x - 127) ((x : Int) - 128 + 1) (by omega) rfl (by omega) HLL.out HLL'.out sz ?_; intro A2 c2 w1 hown1 hg1 hat1; have HO1 := Lib.hid hown1; have HB1 := Lib.hid (below_app HB.out (Nat.le_refl _) sz HO.out hg1); clear hown1 hg1 hat1)
          go_ret2
          exact .inl ⟨12, HR.out, rfl, HB1.out⟩
        · have t3 : decide (most < (m : Int) + ((x - 127 : Nat) : Int)) = false := by simp; omega
          have hres : lo most [] p = lo most (o ++ List.replicate (x - 127) 0) (p.drop (k + 1)) := by rw [HST.out, if_neg cm]
          have HR := Lib.hid hres
          clear hres cm
          go_wp2_with (at_builtin; refine wpList_appz _ rfl (.tmp 45) (.tmp 46) elemB rfl rfl Try.underlying3 rfl w.heap.size rfl HO.out (x - 127) ((x : Int) - 128 + 1) (by omega) rfl (by omega) HLL.out HLL'.out sz ?_; intro A2 c2 w1 hown1 hg1 hat1; have HO1 := Lib.hid hown1; have HB1 := Lib.hid (below_app HB.out (Nat.le_refl _) sz HO.out hg1); clear hown1 hg1 hat1)
          go_roundw
          case rel => exact ⟨k + 1, m + (x - 127), o ++ List.replicate (x - 127) 0, A2, c2, by omega, by go_num, rfl, by rw [bts_app, bts_rep]; exact HO1.out, HB1.out, HR.out, by omega, HOB.out.app (IsB.rep _)⟩
          case measure => simp [intOf]; omega
    · have hres : lo most [] p = .inr o := by rw [HLO.out, List.drop_of_length_le (by rw [HL.out]; omega), lo_nil]
      have HR := Lib.hid hres
      clear hres
      have hso := HO.out.seg
      have hpack := pack_any ca hso.drew (Nat.le_refl _) HO.out.cap (by omega)
      have HPK := Lib.hid hpack
      have e1 := run_string (P := Try.prog) wr.drew HS.out.drew c 37 5 9 Try.underlying37 Try.underlying5 Try.underlying9
      have HSTR := Lib.hid (str_beq (pk_isB o HOB.out) HPB.out)
      clear hso hpack
      generalize hpo : pk o = po at *
      have HPO := Lib.hid hpo
      clear hpo
      by_cases ce : po = p
      · have t1 : ((str po).toList == (str p).toList) = true := by rw [HSTR.out]; simp [ce]
        have CE := Lib.hid ce
        clear ce
        go_wp2
        go_region_with (go_at_call 25; refine (HPK.out).mono ?_; rintro e w1 ⟨A2, c2, rfl, hown, hb⟩; have e2 := run_string (P := Try.prog) w1 hown.seg c2 37 5 9 Try.underlying37 Try.underlying5 Try.underlying9; have e3 := run_string (P := Try.prog) w1 (HS.out.drew.below (hb.mono (Nat.le_trans hB sz))) c 37 5 9 Try.underlying37 Try.underlying5 Try.underlying9; have HBB := Lib.hid hb; clear hown hb)
        all_goals
          clear e1 e2 e3
          go_wp2
          go_ret2
          exact .inr (.inl ⟨o, A1, ca, HR.out, by rw [HPO.out, CE.out], by rw [HML.out]; rfl, by rw [HML.out]; exact HO.out.drew.below HBB.out, HOB.out, nextB HB.out (Nat.le_refl _) (ofDrew HBB.out)⟩)
      · have t1 : ((str po).toList == (str p).toList) = false := by rw [HSTR.out]; simp [ce]
        have CE := Lib.hid ce
        clear ce
        go_wp2
        go_region_with (go_at_call 25; refine (HPK.out).mono ?_; rintro e w1 ⟨A2, c2, rfl, hown, hb⟩; have e2 := run_string (P := Try.prog) w1 hown.seg c2 37 5 9 Try.underlying37 Try.underlying5 Try.underlying9; have e3 := run_string (P := Try.prog) w1 (HS.out.drew.below (hb.mono (Nat.le_trans hB sz))) c 37 5 9 Try.underlying37 Try.underlying5 Try.underlying9; have HBB := Lib.hid hb; clear hown hb)
        all_goals
          clear e1 e2 e3
          go_wp2
          go_ret2
          exact .inr (.inr ⟨o, HR.out, by rw [HPO.out]; exact CE.out, rfl, nextB HB.out (Nat.le_refl _) (ofDrew HBB.out)⟩)
end Go.Proofs.Ytigebiknlodghaa.rle
