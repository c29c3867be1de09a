/-
  What is written is read, and what is read is written; a beginning is too short; more is too much. In plain Lean.
-/
import Derived.Test.YtaagfmaboggbhaaCatGet0
namespace Go.Proofs.Ytaagfmaboggbhaa.cat
open Go.RowKit
set_option linter.unusedVariables false
open fix (rdVal rdRest rdBad rdRest_len leB leB_len leB_isB leN leN_leB leN_lt)

theorem leB_leN {l : List Nat} (h : IsB l) : leB (leN l) l.length = l := by
  induction l with
  | nil => rfl
  | cons c l ih =>
    have hc : c < 256 := h c (by simp)
    have h2 := ih (fun d hd => h d (by simp [hd]))
    show (c + 256 * leN l) % 256 :: leB ((c + 256 * leN l) / 256) l.length = c :: l
    rw [show (c + 256 * leN l) % 256 = c by omega, show (c + 256 * leN l) / 256 = leN l by omega, h2]
theorem rdVal_ge {k : Nat} {l : List Nat} (h : k ≤ l.length) : rdVal k l = leN (l.take k) := by unfold rdVal; rw [if_pos h]
theorem rdRest_ge {k : Nat} {l : List Nat} (h : k ≤ l.length) : rdRest k l = l.drop k := by unfold rdRest; rw [if_pos h]
theorem rdBad_no {k : Nat} {l : List Nat} : rdBad k l = false ↔ k ≤ l.length := by unfold rdBad; simp

/-- Reading and writing are each other's. -/
structure Codec {α : Type} (one : St → α × St) (f : α → List Nat) (P : α → Prop) : Prop where
  bad : ∀ s, s.2 = true → (one s).2.2 = true
  ext : ∀ l m, (one (l, false)).2.2 = false → one (l ++ m, false) = ((one (l, false)).1, ((one (l, false)).2.1 ++ m, false))
  enc : ∀ x, P x → ∀ m, one (f x ++ m, false) = (x, (m, false))
  dec : ∀ l, IsB l → (one (l, false)).2.2 = false → f (one (l, false)).1 ++ (one (l, false)).2.1 = l
  isB : ∀ s, IsB s.1 → IsB (one s).2.1
theorem st_eta {s : St} (h : s.2 = false) : s = (s.1, false) := by cases s; simp only at h; rw [h]
/-- A number of so many bytes. -/
def pnum (k : Nat) (s : St) : Nat × St := (rdVal k s.1, pn k s)
theorem num_codec (k : Nat) : Codec (pnum k) (fun v => leB v k) (fun v => v < 2 ^ (8 * k)) where
  bad s h := by show (s.2 || _) = true; rw [h]; rfl
  ext l m h := by
    have hk : k ≤ l.length := rdBad_no.1 (by simpa [pnum, pn] using h)
    have hk2 : k ≤ (l ++ m).length := by rw [List.length_append]; omega
    show (rdVal k (l ++ m), (rdRest k (l ++ m), (false || rdBad k (l ++ m)))) = (rdVal k l, (rdRest k l ++ m, false))
    rw [rdVal_ge hk, rdVal_ge hk2, rdRest_ge hk, rdRest_ge hk2, rdBad_no.2 hk2, List.take_append_of_le_length hk, List.drop_append_of_le_length hk]
    rfl
  enc x hx m := by
    have hk : k ≤ (leB x k ++ m).length := by rw [List.length_append, leB_len]; omega
    show (rdVal k (leB x k ++ m), (rdRest k (leB x k ++ m), (false || rdBad k (leB x k ++ m)))) = (x, (m, false))
    rw [rdVal_ge hk, rdRest_ge hk, rdBad_no.2 hk, List.take_append_of_le_length (by rw [leB_len]; exact Nat.le_refl _), List.drop_append_of_le_length (by rw [leB_len]; exact Nat.le_refl _), List.take_of_length_le (by rw [leB_len]; exact Nat.le_refl _), List.drop_of_length_le (by rw [leB_len]; exact Nat.le_refl _), leN_leB, Nat.mod_eq_of_lt hx]
    rfl
  dec l hl h := by
    have hk : k ≤ l.length := rdBad_no.1 (by simpa [pnum, pn] using h)
    show leB (rdVal k l) k ++ rdRest k l = l
    rw [rdVal_ge hk, rdRest_ge hk]
    have h2 := leB_leN (hl.take k)
    rw [List.length_take, Nat.min_eq_left hk] at h2
    rw [h2, List.take_append_drop]
  isB s h := pn_isB k h
theorem p16_codec : Codec p16 n16 Sm where
  bad s h := (num_codec 2).bad s h
  ext l m h := by
    have h2 := (num_codec 2).ext l m h
    show ((((pnum 2 (l ++ m, false)).1 : Nat) : Int), (pnum 2 (l ++ m, false)).2) = _
    rw [h2]; rfl
  enc x hx m := by
    obtain ⟨q, rfl⟩ : ∃ q : Nat, x = (q : Int) := ⟨x.toNat, (Int.toNat_of_nonneg hx.1).symm⟩
    have h1 := hx.2
    have h2 := (num_codec 2).enc q (by show q < 65536; omega) m
    show ((((pnum 2 (n16 (q : Int) ++ m, false)).1 : Nat) : Int), (pnum 2 (n16 (q : Int) ++ m, false)).2) = _
    have e : n16 (q : Int) = leB q 2 := by unfold n16; rw [Int.toNat_natCast]
    rw [e, h2]
  dec l hl h := by
    have h2 := (num_codec 2).dec l hl h
    have e : n16 (((rdVal 2 l : Nat) : Int)) = leB (rdVal 2 l) 2 := by unfold n16; rw [Int.toNat_natCast]
    show n16 (((rdVal 2 l : Nat) : Int)) ++ _ = l
    rw [e]; exact h2
  isB s h := pn_isB 2 h
theorem p64_codec : Codec p64 n64 U64 where
  bad s h := (num_codec 8).bad s h
  ext l m h := (num_codec 8).ext l m h
  enc x hx m := (num_codec 8).enc x hx m
  dec l hl h := (num_codec 8).dec l hl h
  isB s h := pn_isB 8 h
/-- One behind the other. -/
def seq {α β : Type} (a : St → α × St) (b : St → β × St) (s : St) : (α × β) × St := (((a s).1, (b (a s).2).1), (b (a s).2).2)
theorem seq_codec {α β : Type} {a : St → α × St} {b : St → β × St} {f : α → List Nat} {g : β → List Nat} {P : α → Prop} {Q : β → Prop} (ha : Codec a f P) (hb : Codec b g Q) :
    Codec (seq a b) (fun x => f x.1 ++ g x.2) (fun x => P x.1 ∧ Q x.2) where
  bad s h := hb.bad _ (ha.bad s h)
  ext l m h := by
    have h1 : (a (l, false)).2.2 = false := by
      rcases Bool.eq_false_or_eq_true (a (l, false)).2.2 with h2 | h2
      · have := hb.bad _ h2
        rw [show (b (a (l, false)).2).2.2 = false from h] at this
        cases this
      · exact h2
    have e1 := ha.ext l m h1
    have e0 := st_eta h1
    have h3 : (b ((a (l, false)).2.1, false)).2.2 = false := by rw [← e0]; exact h
    have e2 := hb.ext _ m h3
    rw [← e0] at e2
    unfold seq
    rw [e1]
    simp only
    rw [e2]
  enc x hx m := by
    unfold seq
    rw [List.append_assoc, ha.enc x.1 hx.1]
    simp only
    rw [hb.enc x.2 hx.2]
  dec l hl h := by
    have h1 : (a (l, false)).2.2 = false := by
      rcases Bool.eq_false_or_eq_true (a (l, false)).2.2 with h2 | h2
      · have := hb.bad _ h2
        rw [show (b (a (l, false)).2).2.2 = false from h] at this
        cases this
      · exact h2
    have e0 := st_eta h1
    have h3 : (b ((a (l, false)).2.1, false)).2.2 = false := by rw [← e0]; exact h
    have e1 := ha.dec l hl h1
    have e2 := hb.dec _ (ha.isB (l, false) hl) h3
    rw [← e0] at e2
    show (f (a (l, false)).1 ++ g (b (a (l, false)).2).1) ++ (b (a (l, false)).2).2.1 = l
    rw [List.append_assoc, e2, e1]
  isB s h := hb.isB _ (ha.isB s h)
/-- So many, as a byte says. -/
theorem plp_ext {α : Type} {one : St → α × St} {f : α → List Nat} {P : α → Prop} (hc : Codec one f P) (n : Nat) (l m : List Nat) (h : (plp one n (l, false)).2.2 = false) :
    plp one n (l ++ m, false) = ((plp one n (l, false)).1, ((plp one n (l, false)).2.1 ++ m, false)) := by
  induction n generalizing l with
  | zero => rfl
  | succ n ih =>
    rw [plp_more (s := (l, false)) rfl] at h ⊢
    rw [plp_more (s := (l ++ m, false)) rfl]
    have h1 : (one (l, false)).2.2 = false := by
      rcases Bool.eq_false_or_eq_true (one (l, false)).2.2 with h2 | h2
      · simp only at h
        rw [plp_bad h2] at h
        simp only at h
        rw [h2] at h
        cases h
      · exact h2
    have e0 := st_eta h1
    simp only at h
    rw [e0] at h
    have e2 := ih _ h
    rw [hc.ext l m h1]
    simp only
    rw [e2, ← e0]
theorem plp_enc {α : Type} {one : St → α × St} {f : α → List Nat} {P : α → Prop} (hc : Codec one f P) (L : List α) (h : ∀ x ∈ L, P x) (m : List Nat) : plp one L.length (L.flatMap f ++ m, false) = (L, (m, false)) := by
  induction L with
  | nil => rfl
  | cons a L ih =>
    rw [List.length_cons, plp_more (s := ((a :: L).flatMap f ++ m, false)) rfl, List.flatMap_cons, List.append_assoc, hc.enc a (h a (by simp))]
    simp only
    rw [ih (fun x hx => h x (by simp [hx]))]
theorem plp_dec {α : Type} {one : St → α × St} {f : α → List Nat} {P : α → Prop} (hc : Codec one f P) (n : Nat) (l : List Nat) (hl : IsB l) (h : (plp one n (l, false)).2.2 = false) :
    (plp one n (l, false)).1.flatMap f ++ (plp one n (l, false)).2.1 = l ∧ (plp one n (l, false)).1.length = n := by
  induction n generalizing l with
  | zero => exact ⟨rfl, rfl⟩
  | succ n ih =>
    rw [plp_more (s := (l, false)) rfl] at h ⊢
    have h1 : (one (l, false)).2.2 = false := by
      rcases Bool.eq_false_or_eq_true (one (l, false)).2.2 with h2 | h2
      · simp only at h
        rw [plp_bad h2] at h
        simp only at h
        rw [h2] at h
        cases h
      · exact h2
    have e0 := st_eta h1
    simp only at h
    have h3 := h
    rw [e0] at h3
    have e2 := ih _ (hc.isB (l, false) hl) h3
    rw [← e0] at e2
    refine ⟨?_, by rw [List.length_cons, e2.2]⟩
    rw [List.flatMap_cons, List.append_assoc, e2.1, hc.dec l hl h1]
theorem plp_isB {α : Type} {one : St → α × St} {f : α → List Nat} {P : α → Prop} (hc : Codec one f P) (n : Nat) {s : St} (hs : IsB s.1) : IsB (plp one n s).2.1 := (plp_all (P := fun _ => True) (fun s hs => ⟨trivial, hc.isB s hs⟩) n hs).2
theorem pl_codec {α : Type} {one : St → α × St} {f : α → List Nat} {P : α → Prop} (hc : Codec one f P) : Codec (pl one) (cntB f) (fun L => L.length ≤ 255 ∧ ∀ x ∈ L, P x) where
  bad s h := by
    have h1 := (num_codec 1).bad s h
    show (plp one _ (pn 1 s)).2.2 = true
    rw [plp_bad (show (pn 1 s).2 = true from h1)]
    exact h1
  ext l m h := by
    have h1 : (pnum 1 (l, false)).2.2 = false := by
      rcases Bool.eq_false_or_eq_true (pnum 1 (l, false)).2.2 with h2 | h2
      · have h3 : (plp one (rdVal 1 l) (pn 1 (l, false))).2.2 = false := h
        rw [plp_bad (show (pn 1 (l, false)).2 = true from h2)] at h3
        rw [show (pn 1 (l, false)).2 = true from h2] at h3
        cases h3
      · exact h2
    have e1 := (num_codec 1).ext l m h1
    have e0 := st_eta h1
    have h4 : (plp one (rdVal 1 l) ((pnum 1 (l, false)).2.1, false)).2.2 = false := by rw [← e0]; exact h
    have e2 := plp_ext hc (rdVal 1 l) _ m h4
    rw [← e0] at e2
    show plp one (pnum 1 (l ++ m, false)).1 (pnum 1 (l ++ m, false)).2 = _
    rw [e1]
    exact e2
  enc L hL m := by
    show plp one (pnum 1 (cntB f L ++ m, false)).1 (pnum 1 (cntB f L ++ m, false)).2 = _
    unfold cntB
    rw [List.append_assoc, (num_codec 1).enc L.length (by show L.length < 256; have := hL.1; omega)]
    exact plp_enc hc L hL.2 m
  dec l hl h := by
    have h1 : (pnum 1 (l, false)).2.2 = false := by
      rcases Bool.eq_false_or_eq_true (pnum 1 (l, false)).2.2 with h2 | h2
      · have h3 : (plp one (rdVal 1 l) (pn 1 (l, false))).2.2 = false := h
        rw [plp_bad (show (pn 1 (l, false)).2 = true from h2)] at h3
        rw [show (pn 1 (l, false)).2 = true from h2] at h3
        cases h3
      · exact h2
    have e0 := st_eta h1
    have h4 : (plp one (rdVal 1 l) ((pnum 1 (l, false)).2.1, false)).2.2 = false := by rw [← e0]; exact h
    have e1 := (num_codec 1).dec l hl h1
    have e2 := plp_dec hc (rdVal 1 l) (pnum 1 (l, false)).2.1 (pn_isB 1 hl) h4
    have e0' : pn 1 (l, false) = ((pnum 1 (l, false)).2.1, false) := e0
    show cntB f (plp one (rdVal 1 l) (pn 1 (l, false))).1 ++ (plp one (rdVal 1 l) (pn 1 (l, false))).2.1 = l
    rw [e0']
    unfold cntB
    rw [e2.2, List.append_assoc, e2.1]
    exact e1
  isB s h := plp_isB hc _ (pn_isB 1 h)

/-! ### a catalog -/
theorem size_codec : Codec psize sizeB (fun m => U64 m.1 ∧ m.2 < 256) := seq_codec p64_codec (num_codec 1)
theorem time_codec : Codec ptime timeB (fun m => U64 m.1 ∧ U64 m.2) := seq_codec p64_codec p64_codec
def volP (q : Int × Nat × List (Nat × Nat)) : List Nat := n16 q.1 ++ (n64 q.2.1 ++ cntB sizeB q.2.2)
def grpP (q : Int × List Int) : List Nat := n16 q.1 ++ cntB n16 q.2
def bkP (q : Int × Nat × List Int) : List Nat := n16 q.1 ++ (n64 q.2.1 ++ cntB n16 q.2.2)
theorem volB_p (z : Vol) : volB z = volP z.p := by unfold volB volP Vol.p n16 n64; simp only [List.append_assoc]
theorem grpB_p (z : Grp) : grpB z = grpP z.p := by unfold grpB grpP Grp.p n16; rfl
theorem bkB_p (z : Bk) : bkB z = bkP z.p := by unfold bkB bkP Bk.p n64; simp only [List.append_assoc]; rfl
theorem vol_codec : Codec pvol volP (fun q => Sm q.1 ∧ U64 q.2.1 ∧ (q.2.2.length ≤ 255 ∧ ∀ m ∈ q.2.2, U64 m.1 ∧ m.2 < 256)) := seq_codec p16_codec (seq_codec p64_codec (pl_codec size_codec))
theorem grp_codec : Codec pgrp grpP (fun q => Sm q.1 ∧ (q.2.length ≤ 255 ∧ ∀ x ∈ q.2, Sm x)) := seq_codec p16_codec (pl_codec p16_codec)
theorem bk_codec : Codec pbk bkP (fun q => Sm q.1 ∧ U64 q.2.1 ∧ (q.2.2.length ≤ 255 ∧ ∀ x ∈ q.2.2, Sm x)) := seq_codec p16_codec (seq_codec p64_codec (pl_codec p16_codec))
def pct : St → (Int × Int × Int × Nat × List (Int × Nat × List (Nat × Nat)) × List (Int × List Int) × List (Int × Nat × List Int) × List Nat × List (Nat × Nat)) × St :=
  seq p16 (seq p16 (seq p16 (seq p64 (seq (pl pvol) (seq (pl pgrp) (seq (pl pbk) (seq (pl p64) (pl ptime))))))))
abbrev CT := Int × Int × Int × Nat × List (Int × Nat × List (Nat × Nat)) × List (Int × List Int) × List (Int × Nat × List Int) × List Nat × List (Nat × Nat)
def fct (x : CT) : List Nat := n16 x.1 ++ (n16 x.2.1 ++ (n16 x.2.2.1 ++ (n64 x.2.2.2.1 ++ (cntB volP x.2.2.2.2.1 ++ (cntB grpP x.2.2.2.2.2.1 ++ (cntB bkP x.2.2.2.2.2.2.1 ++ (cntB n64 x.2.2.2.2.2.2.2.1 ++ cntB timeB x.2.2.2.2.2.2.2.2)))))))
def Pct (x : CT) : Prop := Sm x.1 ∧ Sm x.2.1 ∧ Sm x.2.2.1 ∧ U64 x.2.2.2.1 ∧ (x.2.2.2.2.1.length ≤ 255 ∧ ∀ q ∈ x.2.2.2.2.1, Sm q.1 ∧ U64 q.2.1 ∧ (q.2.2.length ≤ 255 ∧ ∀ m ∈ q.2.2, U64 m.1 ∧ m.2 < 256)) ∧
  (x.2.2.2.2.2.1.length ≤ 255 ∧ ∀ q ∈ x.2.2.2.2.2.1, Sm q.1 ∧ (q.2.length ≤ 255 ∧ ∀ y ∈ q.2, Sm y)) ∧ (x.2.2.2.2.2.2.1.length ≤ 255 ∧ ∀ q ∈ x.2.2.2.2.2.2.1, Sm q.1 ∧ U64 q.2.1 ∧ (q.2.2.length ≤ 255 ∧ ∀ y ∈ q.2.2, Sm y)) ∧
  (x.2.2.2.2.2.2.2.1.length ≤ 255 ∧ ∀ y ∈ x.2.2.2.2.2.2.2.1, U64 y) ∧ (x.2.2.2.2.2.2.2.2.length ≤ 255 ∧ ∀ m ∈ x.2.2.2.2.2.2.2.2, U64 m.1 ∧ U64 m.2)
theorem pct_codec : Codec pct fct Pct := seq_codec p16_codec (seq_codec p16_codec (seq_codec p16_codec (seq_codec p64_codec (seq_codec (pl_codec vol_codec) (seq_codec (pl_codec grp_codec) (seq_codec (pl_codec bk_codec) (seq_codec (pl_codec p64_codec) (pl_codec time_codec))))))))
theorem p16_2 (s : St) : (p16 s).2 = pn 2 s := rfl
theorem p64_2 (s : St) : (p64 s).2 = pn 8 s := rfl
def PC.tup (p : PC) : Int × Int × Int × Nat × List (Int × Nat × List (Nat × Nat)) × List (Int × List Int) × List (Int × Nat × List Int) × List Nat × List (Nat × Nat) := (p.nv, p.ng, p.nb, p.floor, p.v, p.g, p.b, p.k, p.t)
theorem pct_cat (s : St) : pct s = ((pcat s).1.tup, (pcat s).2) := by
  simp only [pct, seq, p16_2, p64_2, pcat, PC.tup, st, sk, sb, sg, sv]
def putP (p : PC) : List Nat := n16 p.nv ++ (n16 p.ng ++ (n16 p.nb ++ (n64 p.floor ++ (cntB volP p.v ++ (cntB grpP p.g ++ (cntB bkP p.b ++ (cntB n64 p.k ++ cntB timeB p.t)))))))
theorem cnt_map {α β : Type} (f : α → List Nat) (g : β → List Nat) (p : α → β) (L : List α) (h : ∀ x, f x = g (p x)) : cntB f L = cntB g (L.map p) := by
  unfold cntB
  rw [List.length_map, List.flatMap_map]
  congr 1
  exact congrArg (fun q => L.flatMap q) (funext h)
theorem putC_p (c : Cat) : putC c = putP c.plain := by
  unfold putC headB putP Cat.plain
  rw [cnt_map volB volP Vol.p c.v volB_p, cnt_map grpB grpP Grp.p c.g grpB_p, cnt_map bkB bkP Bk.p c.b bkB_p]
  unfold n64
  simp only [List.append_assoc]
/-- What is written is read. -/
theorem put_get (p : PC) (h1 : Sm p.nv) (h2 : Sm p.ng) (h3 : Sm p.nb) (h4 : U64 p.floor) (h5 : p.v.length ≤ 255 ∧ ∀ q ∈ p.v, Sm q.1 ∧ U64 q.2.1 ∧ (q.2.2.length ≤ 255 ∧ ∀ m ∈ q.2.2, U64 m.1 ∧ m.2 < 256))
    (h6 : p.g.length ≤ 255 ∧ ∀ q ∈ p.g, Sm q.1 ∧ (q.2.length ≤ 255 ∧ ∀ x ∈ q.2, Sm x)) (h7 : p.b.length ≤ 255 ∧ ∀ q ∈ p.b, Sm q.1 ∧ U64 q.2.1 ∧ (q.2.2.length ≤ 255 ∧ ∀ x ∈ q.2.2, Sm x))
    (h8 : p.k.length ≤ 255 ∧ ∀ x ∈ p.k, U64 x) (h9 : p.t.length ≤ 255 ∧ ∀ m ∈ p.t, U64 m.1 ∧ U64 m.2) : pcat (putP p, false) = (p, ([], false)) := by
  have h := pct_codec.enc p.tup ⟨h1, h2, h3, h4, h5, h6, h7, h8, h9⟩ []
  rw [List.append_nil] at h
  have h' : pct (putP p, false) = (p.tup, ([], false)) := h
  rw [pct_cat] at h'
  have e1 := congrArg Prod.fst h'
  have e2 := congrArg Prod.snd h'
  simp only at e1 e2
  refine Prod.ext ?_ e2
  generalize (pcat (putP p, false)).1 = q at *
  obtain ⟨a1, a2, a3, a4, a5, a6, a7, a8, a9⟩ := p
  obtain ⟨b1, b2, b3, b4, b5, b6, b7, b8, b9⟩ := q
  unfold PC.tup at e1
  simp only [Prod.mk.injEq] at e1
  obtain ⟨rfl, rfl, rfl, rfl, rfl, rfl, rfl, rfl, rfl⟩ := e1
  rfl
theorem pct_2 (s : St) : (pct s).2 = (pcat s).2 := by simp only [pct_cat]
theorem pct_1 (s : St) : (pct s).1 = (pcat s).1.tup := by simp only [pct_cat]
theorem fct_tup (p : PC) : fct p.tup = putP p := rfl
/-- What is read to the end is written so. -/
theorem get_put {l : List Nat} (hl : IsB l) (hb : (pcat (l, false)).2.2 = false) (h0 : (pcat (l, false)).2.1 = []) : putP (pcat (l, false)).1 = l := by
  have hb' : (pct (l, false)).2.2 = false := (congrArg Prod.snd (pct_2 (l, false))).trans hb
  have h := pct_codec.dec l hl hb'
  rw [pct_1, pct_2, fct_tup] at h
  have h' := h
  rw [h0, List.append_nil] at h'
  exact h'
/-- One byte more. -/
theorem get_more {l : List Nat} (m : List Nat) (hb : (pcat (l, false)).2.2 = false) (h0 : (pcat (l, false)).2.1 = []) : (pcat (l ++ m, false)).2 = (m, false) := by
  have hb' : (pct (l, false)).2.2 = false := (congrArg Prod.snd (pct_2 (l, false))).trans hb
  have h := pct_codec.ext l m hb'
  have h2 := congrArg Prod.snd h
  simp only at h2
  rw [pct_2, pct_2, h0] at h2
  exact h2
/-- A beginning. -/
theorem get_less {l : List Nat} {k : Nat} (hk : k < l.length) (hb : (pcat (l, false)).2.2 = false) (h0 : (pcat (l, false)).2.1 = []) : (pcat (l.take k, false)).2.2 = true := by
  rcases Bool.eq_false_or_eq_true (pcat (l.take k, false)).2.2 with h | h
  · exact h
  · have hb' : (pct (l.take k, false)).2.2 = false := (congrArg Prod.snd (pct_2 (l.take k, false))).trans h
    have e := pct_codec.ext (l.take k) (l.drop k) hb'
    rw [List.take_append_drop] at e
    have e2 := congrArg Prod.snd e
    simp only at e2
    rw [pct_2] at e2
    have e3 := congrArg (fun q : St => q.1.length) e2
    simp only [h0, List.length_append, List.length_drop, List.length_nil] at e3
    omega
end Go.Proofs.Ytaagfmaboggbhaa.cat
