/-
  Plain facts on bytes with rows of noughts made short: packing, unpacking, and that the second takes the first back; how long what is packed may be.
-/
import Derived.Test.YtigebiknlodghaaMem
namespace Go.Proofs.Ytigebiknlodghaa.rle
set_option linter.unusedVariables false

/-- How many noughts stand ahead, at most so many. -/
def zc : Nat → List Nat → Nat
  | f + 1, 0 :: r => zc f r + 1
  | _, _ => 0
/-- Do two noughts stand ahead? -/
def two : List Nat → Bool
  | 0 :: 0 :: _ => true
  | _ => false
/-- How many bytes stand ahead of two noughts, at most so many. -/
def pc : Nat → List Nat → Nat
  | 0, _ => 0
  | _ + 1, [] => 0
  | f + 1, c :: r => if two (c :: r) then 0 else pc f r + 1
/-- Packing (with fuel). -/
def pkF : Nat → List Nat → List Nat
  | 0, _ => []
  | _ + 1, [] => []
  | f + 1, c :: r => if two (c :: r) then (127 + zc 128 (c :: r)) :: pkF f ((c :: r).drop (zc 128 (c :: r))) else (pc 128 (c :: r) - 1) :: ((c :: r).take (pc 128 (c :: r)) ++ pkF f ((c :: r).drop (pc 128 (c :: r))))
def pk (l : List Nat) : List Nat := pkF l.length l

theorem zc_nil (f : Nat) : zc f [] = 0 := by cases f <;> rfl
theorem zc_zero (l : List Nat) : zc 0 l = 0 := rfl
theorem zc_hit (f : Nat) (r : List Nat) : zc (f + 1) (0 :: r) = zc f r + 1 := rfl
theorem zc_miss (f c : Nat) (r : List Nat) (h : c ≠ 0) : zc f (c :: r) = 0 := by
  cases f with
  | zero => rfl
  | succ f => cases c with
    | zero => exact absurd rfl h
    | succ c => rfl
theorem zc_le (f : Nat) (l : List Nat) : zc f l ≤ f := by
  induction f generalizing l with
  | zero => exact Nat.le_refl 0
  | succ f ih => cases l with
    | nil => exact Nat.zero_le _
    | cons c r =>
      by_cases h : c = 0
      · subst h; rw [zc_hit]; have := ih r; omega
      · rw [zc_miss _ _ _ h]; omega
theorem zc_len (f : Nat) (l : List Nat) : zc f l ≤ l.length := by
  induction f generalizing l with
  | zero => exact Nat.zero_le _
  | succ f ih => cases l with
    | nil => exact Nat.zero_le _
    | cons c r =>
      by_cases h : c = 0
      · subst h; rw [zc_hit]; have := ih r; simp; omega
      · rw [zc_miss _ _ _ h]; omega
theorem zc_two (f : Nat) (l : List Nat) (hf : 2 ≤ f) : (2 ≤ zc f l) ↔ two l = true := by
  obtain ⟨f, rfl⟩ : ∃ g, f = g + 2 := ⟨f - 2, by omega⟩
  match l with
  | [] => simp [zc_nil, two]
  | [c] =>
    have h1 := zc_len (f + 2) [c]
    simp only [List.length_cons, List.length_nil] at h1
    have h2 : two [c] = false := by cases c <;> rfl
    rw [h2]; simp; omega
  | c :: d :: r =>
    by_cases hc : c = 0
    · subst hc
      by_cases hd : d = 0
      · subst hd
        rw [zc_hit, zc_hit]; simp [two]
      · rw [zc_hit, zc_miss _ _ _ hd]
        have : two (0 :: d :: r) = false := by cases d with
          | zero => exact absurd rfl hd
          | succ d => rfl
        rw [this]; simp
    · rw [zc_miss _ _ _ hc]
      have : two (c :: d :: r) = false := by cases c with
        | zero => exact absurd rfl hc
        | succ c => rfl
      rw [this]; simp
theorem zc_all (f : Nat) (l : List Nat) : l.take (zc f l) = List.replicate (zc f l) 0 := by
  induction f generalizing l with
  | zero => rfl
  | succ f ih => cases l with
    | nil => rfl
    | cons c r =>
      by_cases h : c = 0
      · subst h; rw [zc_hit, List.take_succ_cons, List.replicate_succ, ih r]
      · rw [zc_miss _ _ _ h]; rfl
theorem pc_cons (f c : Nat) (r : List Nat) : pc (f + 1) (c :: r) = if two (c :: r) then 0 else pc f r + 1 := rfl
theorem pc_le (f : Nat) (l : List Nat) : pc f l ≤ f := by
  induction f generalizing l with
  | zero => exact Nat.le_refl 0
  | succ f ih => cases l with
    | nil => exact Nat.zero_le _
    | cons c r =>
      rw [pc_cons]
      have := ih r
      split <;> omega
theorem pc_len (f : Nat) (l : List Nat) : pc f l ≤ l.length := by
  induction f generalizing l with
  | zero => exact Nat.zero_le _
  | succ f ih => cases l with
    | nil => exact Nat.le_refl 0
    | cons c r =>
      rw [pc_cons]
      have := ih r
      simp only [List.length_cons]
      split <;> omega
theorem pc_pos (f c : Nat) (r : List Nat) (h : two (c :: r) = false) : 1 ≤ pc (f + 1) (c :: r) := by
  rw [pc_cons, h]; simp
/-- Fewer than may be: there is nothing more, or two noughts follow. -/
theorem pc_end (f : Nat) (l : List Nat) (h : pc f l < f) : l.drop (pc f l) = [] ∨ two (l.drop (pc f l)) = true := by
  induction f generalizing l with
  | zero => omega
  | succ f ih => cases l with
    | nil => exact .inl rfl
    | cons c r =>
      by_cases ht : two (c :: r) = true
      · have e : pc (f + 1) (c :: r) = 0 := by rw [pc_cons, if_pos ht]
        rw [e]; exact .inr ht
      · have e : pc (f + 1) (c :: r) = pc f r + 1 := by rw [pc_cons, if_neg ht]
        rw [e] at h ⊢
        exact ih r (by omega)

/-! ### fuel -/
theorem pkF_more (f g : Nat) (l : List Nat) (hf : l.length ≤ f) (hg : l.length ≤ g) : pkF f l = pkF g l := by
  induction f generalizing g l with
  | zero =>
    obtain rfl : l = [] := List.eq_nil_of_length_eq_zero (by omega)
    cases g <;> rfl
  | succ f ih =>
    cases l with
    | nil => cases g <;> rfl
    | cons c r =>
      cases g with
      | zero => simp at hg
      | succ g =>
        simp only [List.length_cons] at hf hg
        unfold pkF
        by_cases ht : two (c :: r) = true
        · rw [if_pos ht, if_pos ht]
          have hz := (zc_two 128 (c :: r) (by omega)).2 ht
          rw [ih g _ (by simp; omega) (by simp; omega)]
        · rw [if_neg ht, if_neg ht]
          have hp : 1 ≤ pc 128 (c :: r) := pc_pos 127 c r (by simpa using ht)
          rw [ih g _ (by simp; omega) (by simp; omega)]
theorem pk_nil : pk [] = [] := rfl
theorem pk_two (l : List Nat) (h : two l = true) : pk l = (127 + zc 128 l) :: pk (l.drop (zc 128 l)) := by
  cases l with
  | nil => simp [two] at h
  | cons c r =>
    have hz := (zc_two 128 (c :: r) (by omega)).2 h
    have e : pk (c :: r) = pkF (r.length + 1) (c :: r) := rfl
    rw [e]
    unfold pkF
    rw [if_pos h]
    unfold pk
    rw [pkF_more r.length _ _ (by simp; omega) (Nat.le_refl _)]
theorem pk_plain (l : List Nat) (hl : l ≠ []) (h : two l = false) : pk l = (pc 128 l - 1) :: (l.take (pc 128 l) ++ pk (l.drop (pc 128 l))) := by
  cases l with
  | nil => exact absurd rfl hl
  | cons c r =>
    have hp := pc_pos 127 c r h
    have e : pk (c :: r) = pkF (r.length + 1) (c :: r) := rfl
    rw [e]
    unfold pkF
    rw [h, if_neg (by simp)]
    unfold pk
    rw [pkF_more r.length _ _ (by simp; omega) (Nat.le_refl _)]
theorem pos_of {l : List Nat} (hl : l ≠ []) (h : two l = false) : 1 ≤ pc 128 l := by
  cases l with
  | nil => exact absurd rfl hl
  | cons c r => exact pc_pos 127 c r h

/-- Induction over pieces. -/
theorem piece_ind {M : List Nat → Prop} (h0 : M []) (hz : ∀ l, two l = true → M (l.drop (zc 128 l)) → M l) (hp : ∀ l, l ≠ [] → two l = false → M (l.drop (pc 128 l)) → M l) : ∀ l, M l := by
  intro l
  generalize hn : l.length = n
  induction n using Nat.strongRecOn generalizing l with
  | _ n ih =>
    by_cases hl : l = []
    · subst hl; exact h0
    · have hpos : 0 < l.length := List.length_pos_iff.2 hl
      by_cases ht : two l = true
      · have hzz := (zc_two 128 l (by omega)).2 ht
        exact hz l ht (ih _ (by simp; omega) _ rfl)
      · have ht : two l = false := by simpa using ht
        have hpp := pos_of hl ht
        exact hp l hl ht (ih _ (by simp; omega) _ rfl)

theorem pk_isB (l : List Nat) (h : IsB l) : IsB (pk l) := by
  revert h
  refine piece_ind (M := fun l => IsB l → IsB (pk l)) (fun _ => IsB.nil) (fun l ht ih h => ?_) (fun l hl ht ih h => ?_) l
  · rw [pk_two l ht]
    intro c hc
    rcases List.mem_cons.1 hc with rfl | hc
    · have := zc_le 128 l; omega
    · exact ih (h.drop _) c hc
  · rw [pk_plain l hl ht]
    intro c hc
    rcases List.mem_cons.1 hc with rfl | hc
    · have := pc_le 128 l; omega
    · rcases List.mem_append.1 hc with hc | hc
      · exact h.take _ c hc
      · exact ih (h.drop _) c hc

/-- How long. -/
theorem pk_short (l : List Nat) : (pk l).length ≤ l.length + l.length / 128 + 1 ∧ (l = [] ∨ two l = true → (pk l).length ≤ l.length + l.length / 128) := by
  refine piece_ind (M := fun l => (pk l).length ≤ l.length + l.length / 128 + 1 ∧ (l = [] ∨ two l = true → (pk l).length ≤ l.length + l.length / 128)) ?_ (fun l ht ih => ?_) (fun l hl ht ih => ?_) l
  · simp [pk_nil]
  · have hz := (zc_two 128 l (by omega)).2 ht
    have hl := zc_len 128 l
    have i1 := ih.1
    rw [List.length_drop] at i1
    rw [pk_two l ht, List.length_cons]
    omega
  · have hp := pos_of hl ht
    have hle := pc_le 128 l
    have hlen := pc_len 128 l
    rw [pk_plain l hl ht, List.length_cons, List.length_append, List.length_take]
    have i1 := ih.1
    rw [List.length_drop] at i1
    refine ⟨?_, fun h => ?_⟩
    · by_cases he : pc 128 l = 128
      · rw [he] at i1 ⊢; omega
      · have i2 := ih.2 (pc_end 128 l (by omega))
        rw [List.length_drop] at i2
        omega
    · rcases h with h | h
      · exact absurd h hl
      · rw [ht] at h; cases h
theorem pk_len2 (l : List Nat) : (pk l).length ≤ 2 * l.length + 1 := by have := (pk_short l).1; omega
theorem zc_rep (f n : Nat) (h : n ≤ f) : zc f (List.replicate n 0) = n := by
  induction n generalizing f with
  | zero => exact zc_nil f
  | succ n ih =>
    obtain ⟨f, rfl⟩ : ∃ g, f = g + 1 := ⟨f - 1, by omega⟩
    rw [List.replicate_succ, zc_hit, ih f (by omega)]
theorem pk_rep (n : Nat) (h2 : 2 ≤ n) (h : n ≤ 128) : pk (List.replicate n 0) = [127 + n] := by
  have hz := zc_rep 128 n h
  have ht : two (List.replicate n 0) = true := (zc_two 128 _ (by omega)).1 (by rw [hz]; exact h2)
  rw [pk_two _ ht, hz]
  simp [pk_nil]

/-! ### unpacking -/
/-- What pieces say: an error's number, or the bytes (with fuel). -/
def loF : Nat → Int → List Nat → List Nat → Sum Nat (List Nat)
  | _, _, out, [] => .inr out
  | 0, _, out, _ :: _ => .inr out
  | f + 1, most, out, c :: r =>
    if c < 128 then
      if r.length < c + 1 then .inl 20
      else if most < ((out ++ r.take (c + 1)).length : Int) then .inl 12 else loF f most (out ++ r.take (c + 1)) (r.drop (c + 1))
    else if most < ((out ++ List.replicate (c - 127) 0).length : Int) then .inl 12 else loF f most (out ++ List.replicate (c - 127) 0) r
def lo (most : Int) (out l : List Nat) : Sum Nat (List Nat) := loF l.length most out l
theorem loF_more (f g : Nat) (most : Int) (out l : List Nat) (hf : l.length ≤ f) (hg : l.length ≤ g) : loF f most out l = loF g most out l := by
  induction f generalizing g l out with
  | zero =>
    obtain rfl : l = [] := List.eq_nil_of_length_eq_zero (by omega)
    cases g <;> rfl
  | succ f ih =>
    cases l with
    | nil => cases g <;> rfl
    | cons c r =>
      cases g with
      | zero => simp at hg
      | succ g =>
        simp only [List.length_cons] at hf hg
        unfold loF
        rw [ih g _ _ (by simp; omega) (by simp; omega), ih g _ r (by omega) (by omega)]
theorem lo_nil (most : Int) (out : List Nat) : lo most out [] = .inr out := rfl
theorem lo_cons (most : Int) (out : List Nat) (c : Nat) (r : List Nat) : lo most out (c :: r) =
    if c < 128 then
      if r.length < c + 1 then .inl 20
      else if most < ((out ++ r.take (c + 1)).length : Int) then .inl 12 else lo most (out ++ r.take (c + 1)) (r.drop (c + 1))
    else if most < ((out ++ List.replicate (c - 127) 0).length : Int) then .inl 12 else lo most (out ++ List.replicate (c - 127) 0) r := by
  have e : lo most out (c :: r) = loF (r.length + 1) most out (c :: r) := rfl
  rw [e]
  unfold loF lo
  rw [loF_more r.length (r.drop (c + 1)).length most _ _ (by simp) (Nat.le_refl _)]
/-- What was packed is unpacked, if it may be as much. -/
theorem lo_pk (most : Int) (l out : List Nat) : lo most out (pk l) = if l = [] then .inr out else if most < ((out.length + l.length : Nat) : Int) then .inl 12 else .inr (out ++ l) := by
  revert out
  refine piece_ind (M := fun l => ∀ out, lo most out (pk l) = if l = [] then .inr out else if most < ((out.length + l.length : Nat) : Int) then .inl 12 else .inr (out ++ l)) (fun out => rfl) (fun l ht ih out => ?_) (fun l hl ht ih out => ?_) l
  · have hz := (zc_two 128 l (by omega)).2 ht
    have hln := zc_len 128 l
    have hl : l ≠ [] := by rintro rfl; simp [two] at ht
    rw [pk_two l ht, lo_cons, if_neg (by omega), if_neg hl, show 127 + zc 128 l - 127 = zc 128 l from by omega, ← zc_all 128 l]
    generalize zc 128 l = z at *
    have e : out ++ l.take z ++ l.drop z = out ++ l := by rw [List.append_assoc, List.take_append_drop]
    rw [ih]
    by_cases h1 : most < ((out ++ l.take z).length : Int)
    · rw [if_pos h1, if_pos (by simp at h1 ⊢; omega)]
    · rw [if_neg h1]
      by_cases h2 : l.drop z = []
      · rw [if_pos h2]
        have : l.length ≤ z := by simpa using h2
        rw [h2, List.append_nil] at e
        rw [if_neg (by simp at h1 ⊢; omega), e]
      · rw [if_neg h2, e]
        have h3 : ((out ++ l.take z).length + (l.drop z).length : Nat) = out.length + l.length := by simp; omega
        rw [h3]
  · have hp := pos_of hl ht
    have hle := pc_le 128 l
    have hln := pc_len 128 l
    rw [pk_plain l hl ht, lo_cons, if_pos (by omega), if_neg hl, show pc 128 l - 1 + 1 = pc 128 l from by omega]
    generalize pc 128 l = z at *
    have e : out ++ l.take z ++ l.drop z = out ++ l := by rw [List.append_assoc, List.take_append_drop]
    have et : (l.take z ++ pk (l.drop z)).take z = l.take z := by rw [List.take_append_of_le_length (by simp; omega), List.take_of_length_le (by simp; omega)]
    have ed : (l.take z ++ pk (l.drop z)).drop z = pk (l.drop z) := by
      rw [List.drop_append]
      have : (l.take z).length = z := by simp; omega
      rw [List.drop_of_length_le (by omega), this]; simp
    rw [if_neg (by simp; omega), et, ed, ih]
    by_cases h1 : most < ((out ++ l.take z).length : Int)
    · rw [if_pos h1, if_pos (by simp at h1 ⊢; omega)]
    · rw [if_neg h1]
      by_cases h2 : l.drop z = []
      · rw [if_pos h2]
        have : l.length ≤ z := by simpa using h2
        rw [h2, List.append_nil] at e
        rw [if_neg (by simp at h1 ⊢; omega), e]
      · rw [if_neg h2, e]
        have h3 : ((out ++ l.take z).length + (l.drop z).length : Nat) = out.length + l.length := by simp; omega
        rw [h3]
end Go.Proofs.Ytigebiknlodghaa.rle
