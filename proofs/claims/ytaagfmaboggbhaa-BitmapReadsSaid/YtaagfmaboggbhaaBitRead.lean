/-
  The walk of bitmap.Read.
-/
import Derived.Test.YtaagfmaboggbhaaBitSet
import Derived.Laws.CopyOwn
namespace Go.Proofs.Ytaagfmaboggbhaa.bit
open Go.RowKit
set_option linter.unusedVariables false

/-- copy of as many bytes as a block holds into it. -/
theorem run_copyB {P : Program} {w : World} (dT sT ty elem : TypeId) (hu : P.underlying dT = some (.slice elem)) (hsz : (P.info? elem).map (·.size) = some 1)
    (A : Option Addr) (r n dc c : Nat) (cur : Array Value) (t : TypeId) (hr : Box w r t cur) (hcur : cur.size = n) {B : Nat} {news : List Value} (hseg : Seg w B A n news) (h1 : ∀ v ∈ news, v.oneCell' = true) :
    ∃ w', (Builtin.copy_ #[dT, sT] ty #[.slice (some ⟨r, 0, none⟩) n dc, .slice A n c]).run P w = .ok (goInt n) w' ∧ Box w' r t news.toArray ∧ w.grownBy w' (some r) := by
  have hl := hseg.len
  by_cases h0 : n = 0
  · subst h0
    obtain rfl : news = [] := List.eq_nil_of_length_eq_zero hl
    have hrun := run_copy_none (P := P) w dT sT ty elem (some ⟨r, 0, none⟩) A 0 dc 0 c hu hsz (by simp)
    refine ⟨w, hrun, ?_, ⟨rfl, rfl, rfl, Nat.le_refl _, fun _ _ _ => rfl⟩⟩
    have : cur = #[] := Array.eq_empty_of_size_eq_zero hcur
    rw [this] at hr; exact hr
  · obtain ⟨b, off, rfl, _, hcell⟩ := hseg.2 (by omega)
    have hrun := run_copy_row (P := P) w dT sT ty elem r 0 n dc ⟨b, off, none⟩ n c cur t news hu hsz hr (by rw [hl]; exact (Nat.min_self _).symm) (fun j v hj => by
      have := hcell j v hj
      unfold Addr.add
      split
      · subst_vars; simpa using this
      · exact this) (by omega) h1
    have e : (cur.toList.take 0 ++ news ++ cur.toList.drop (0 + news.length)).toArray = news.toArray := by
      rw [List.drop_of_length_le (by simp; omega)]; simp
    rw [e, hl] at hrun
    exact ⟨_, hrun, setRow_heap w r cur news.toArray t _ hr, ⟨rfl, rfl, rfl, by simp, fun k _ hk => setRow_other w r k _ (fun e => hk (by rw [e]))⟩⟩

theorem read_bad {A : Option Addr} {m c : Nat} (i : Int) (hi : i < 0 ∨ 4096 < i) (w : World) :
    Calls Try.prog 11 #[.slice A m c, .int .i64 i] w fun e w' => e = .returned (.tuple #[.pointer none, .int .i64 10]) ∧ w = w' := by
  have HN := Lib.hid (new_bad i hi w)
  clear hi
  go_enter Try.func11, Try.ntmps11
  go_wp2_with fail
  refine (HN.out).mono ?_
  rintro e w1 ⟨rfl, rfl⟩
  go_wp2_with fail
  go_ret2
  exact ⟨rfl, rfl⟩

theorem read_size {A : Option Addr} {m c : Nat} (n : Nat) (hn : n ≤ 4096) (hm : m ≠ (n + 7) / 8) (w : World) :
    Calls Try.prog 11 #[.slice A m c, .int .i64 (n : Int)] w fun e w' => e = .returned (.tuple #[.pointer none, .int .i64 12]) ∧ Below w.heap.size w w' := by
  have HN := Lib.hid (new_ok n hn w)
  have t1 : ((m : Int) != (((n + 7) / 8 : Nat) : Int)) = true := by rw [bne_iff_ne]; omega
  have t2 : ((m : Int) == (((n + 7) / 8 : Nat) : Int)) = false := by rw [beq_eq_false_iff_ne]; omega
  generalize (n + 7) / 8 = k at *
  clear hm
  go_enter Try.func11, Try.ntmps11
  go_wp2_with fail
  refine (HN.out).mono ?_
  rintro e w1 ⟨g, r, rfl, hmp, hg, hr, hb⟩
  have HB := Lib.hid hb
  have h0 : w1.cell? ⟨g, 0, none⟩ = some (.slice (some ⟨r, 0, none⟩) k k) := by
    have := (hmp.box.cell 0)
    rw [List.length_replicate] at this
    exact this.trans rfl
  clear hmp hg hr hb
  go_wp2_with fail
  go_ret2
  exact ⟨rfl, HB.out⟩

set_option maxRecDepth 100000 in
set_option maxHeartbeats 1600000 in
/-- As many bytes as there must be: up to the last test. -/
theorem read_ok {A : Option Addr} {c : Nat} (n : Nat) (hn : n ≤ 4096) (l : List Nat) (w : World) (hm : l.length = (n + 7) / 8) (hs : Seg w w.heap.size A l.length (bts l)) (hl : IsB l) (hc : l.length ≤ c)
    (hq : n % 8 = 0 ∨ l.getD (l.length - 1) 0 / 2 ^ (n % 8) = 0) :
    Calls Try.prog 11 #[.slice A l.length c, .int .i64 (n : Int)] w fun e w' => ∃ g r, e = .returned (.tuple #[.pointer (some ⟨g, 0, none⟩), .int .i64 0]) ∧ IsMap w' g r n l ∧ Below w.heap.size w w' := by
  have HN := Lib.hid (new_ok n hn w)
  have HM := Lib.hid hm
  rw [← hm] at HN
  have HL := Lib.hid hl
  have hlen : l.length ≤ 1000 := by omega
  have hub := Try.underlying22
  have hsz : (Try.prog.info? 5).map (·.size) = some 1 := by kernel_rfl
  have HUB := Lib.hid hub
  have HSZ := Lib.hid hsz
  clear hub hsz
  have HS := Lib.hid hs
  have HQ := Lib.hid hq
  clear hs hq hm hl
  go_enter Try.func11, Try.ntmps11
  go_wp2_with fail
  refine (HN.out).mono ?_
  rintro e w1 ⟨g, r, rfl, hmp, hg, hr, hb⟩
  have HB := Lib.hid hb
  have HP := Lib.hid hmp
  have HR := Lib.hid hr
  have HS1 := Lib.hid (HS.out.below hb)
  have h0 : w1.cell? ⟨g, 0, none⟩ = some (.slice (some ⟨r, 0, none⟩) l.length l.length) := by
    have := (hmp.box.cell 0)
    rw [List.length_replicate] at this
    exact this.trans rfl
  clear hmp hg hr hb
  go_wp2_with fail
  obtain ⟨w2, hrun, hrow, hg2⟩ := run_copyB (P := Try.prog) (w := w1) 22 22 3 5 HUB.out HSZ.out A r l.length l.length c _ 5 HP.out.row (by simp [bts_len]) HS1.out (bts_one _)
  rw [hrun]
  clear hrun
  have HP2 := Lib.hid (show IsMap w2 g r n l from ⟨by have := HP.out.box.grown hg2 (by intro e; injection e with e; exact HP.out.ne e); rw [List.length_replicate] at this; exact this, hrow, HL.out, HM.out, hn⟩)
  have HB2 := Lib.hid (HB.out.grown hg2 (Nat.le_trans (Nat.le_refl _) HB.out.size) (fun k hk => by injection hk with hk; subst hk; exact HR.out))
  have HS2 := Lib.hid (HS.out.below HB2.out)
  clear hrow hg2 HS1 HP HB h0
  by_cases hr0 : n % 8 = 0
  · have t1 : decide ((0 : Int) < (n : Int) % 8) = false := by simp; omega
    clear hr0
    go_wp2_with fail
    go_ret2
    exact ⟨g, r, rfl, HP2.out, HB2.out⟩
  · have t1 : decide ((0 : Int) < (n : Int) % 8) = true := by simp; omega
    have hlen1 : 1 ≤ l.length := by have := HM.out; omega
    obtain ⟨b, off, hk, rfl, hb, hcell⟩ := HS2.out.byte (k := l.length - 1) (by omega)
    have hx : l.getD (l.length - 1) 0 = l[l.length - 1] := by rw [List.getD_eq_getElem?_getD, List.getElem?_eq_getElem hk]; rfl
    have hz : l[l.length - 1] / 2 ^ (n % 8) = 0 := by
      rcases HQ.out with h | h
      · exact absurd h hr0
      · rw [hx] at h; exact h
    have t2 : (((l[l.length - 1] : Nat) : Int) / 2 ^ (n % 8) != 0) = false := by rw [castdiv, hz]; rfl
    have t3 : (((l[l.length - 1] : Nat) : Int) / 2 ^ (n % 8) == 0) = true := by rw [castdiv, hz]; rfl
    clear hr0 hx hz
    generalize l[l.length - 1] = x at *
    go_wp2_with fail
    go_ret2
    exact ⟨g, r, rfl, HP2.out, HB2.out⟩

set_option maxRecDepth 100000 in
set_option maxHeartbeats 1600000 in
/-- Bits behind the last block. -/
theorem read_form {A : Option Addr} {c : Nat} (n : Nat) (hn : n ≤ 4096) (l : List Nat) (w : World) (hm : l.length = (n + 7) / 8) (hs : Seg w w.heap.size A l.length (bts l)) (hl : IsB l) (hc : l.length ≤ c)
    (hr0 : 0 < n % 8) (hq : l.getD (l.length - 1) 0 / 2 ^ (n % 8) ≠ 0) :
    Calls Try.prog 11 #[.slice A l.length c, .int .i64 (n : Int)] w fun e w' => e = .returned (.tuple #[.pointer none, .int .i64 21]) ∧ Below w.heap.size w w' := by
  have HN := Lib.hid (new_ok n hn w)
  have HM := Lib.hid hm
  rw [← hm] at HN
  have HL := Lib.hid hl
  have hlen : l.length ≤ 1000 := by omega
  have hub := Try.underlying22
  have hsz : (Try.prog.info? 5).map (·.size) = some 1 := by kernel_rfl
  have HUB := Lib.hid hub
  have HSZ := Lib.hid hsz
  clear hub hsz
  have HS := Lib.hid hs
  have HQ := Lib.hid hq
  clear hs hq hm hl
  go_enter Try.func11, Try.ntmps11
  go_wp2_with fail
  refine (HN.out).mono ?_
  rintro e w1 ⟨g, r, rfl, hmp, hg, hr, hb⟩
  have HB := Lib.hid hb
  have HP := Lib.hid hmp
  have HR := Lib.hid hr
  have HS1 := Lib.hid (HS.out.below hb)
  have h0 : w1.cell? ⟨g, 0, none⟩ = some (.slice (some ⟨r, 0, none⟩) l.length l.length) := by
    have := (hmp.box.cell 0)
    rw [List.length_replicate] at this
    exact this.trans rfl
  clear hmp hg hr hb
  go_wp2_with fail
  obtain ⟨w2, hrun, hrow, hg2⟩ := run_copyB (P := Try.prog) (w := w1) 22 22 3 5 HUB.out HSZ.out A r l.length l.length c _ 5 HP.out.row (by simp [bts_len]) HS1.out (bts_one _)
  rw [hrun]
  clear hrun
  have HP2 := Lib.hid (show IsMap w2 g r n l from ⟨by have := HP.out.box.grown hg2 (by intro e; injection e with e; exact HP.out.ne e); rw [List.length_replicate] at this; exact this, hrow, HL.out, HM.out, hn⟩)
  have HB2 := Lib.hid (HB.out.grown hg2 (Nat.le_trans (Nat.le_refl _) HB.out.size) (fun k hk => by injection hk with hk; subst hk; exact HR.out))
  have HS2 := Lib.hid (HS.out.below HB2.out)
  clear hrow hg2 HS1 HP HB h0
  have t1 : decide ((0 : Int) < (n : Int) % 8) = true := by simp; omega
  have hlen1 : 1 ≤ l.length := by have := HM.out; omega
  obtain ⟨b, off, hk, rfl, hb, hcell⟩ := HS2.out.byte (k := l.length - 1) (by omega)
  have hx : l.getD (l.length - 1) 0 = l[l.length - 1] := by rw [List.getD_eq_getElem?_getD, List.getElem?_eq_getElem hk]; rfl
  have hz : l[l.length - 1] / 2 ^ (n % 8) ≠ 0 := by rw [← hx]; exact HQ.out
  have t2 : (((l[l.length - 1] : Nat) : Int) / 2 ^ (n % 8) != 0) = true := by rw [castdiv, bne_iff_ne]; omega
  have t3 : (((l[l.length - 1] : Nat) : Int) / 2 ^ (n % 8) == 0) = false := by rw [castdiv, beq_eq_false_iff_ne]; omega
  clear hr0 hx hz
  generalize l[l.length - 1] = x at *
  go_wp2_with fail
  go_ret2
  exact ⟨rfl, HB2.out⟩
end Go.Proofs.Ytaagfmaboggbhaa.bit
