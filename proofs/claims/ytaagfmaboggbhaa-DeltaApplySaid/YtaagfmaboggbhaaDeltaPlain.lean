/-
  Edits of bytes, in plain Lean: what Of makes byte by byte is what the document has; done on the first bytes they make the second ones; their size.
-/
namespace Go.Proofs.Ytaagfmaboggbhaa.delta
set_option linter.unusedVariables false

/-- An edit: a place, bytes. -/
abbrev E := Int × List Nat
/-- Bytes laid over others at a place. -/
def lay (o : List Nat) (s : Nat) (d : List Nat) : List Nat := o.take s ++ d ++ o.drop (s + d.length)
/-- May an edit be done on so many bytes? -/
def fits (n : Nat) (e : E) : Bool := decide (0 ≤ e.1 ∧ e.1 + (e.2.length : Int) ≤ (n : Int))
def doAll (o : List Nat) (L : List E) : List Nat := L.foldl (fun o e => lay o e.1.toNat e.2) o
def size (L : List E) : Nat := (L.map fun e => e.2.length).sum
theorem lay_len (o : List Nat) (s : Nat) (d : List Nat) (h : s + d.length ≤ o.length) : (lay o s d).length = o.length := by
  unfold lay; simp; omega
theorem doAll_snoc (o : List Nat) (L : List E) (e : E) : doAll o (L ++ [e]) = lay (doAll o L) e.1.toNat e.2 := by simp [doAll]
theorem size_snoc (L : List E) (e : E) : size (L ++ [e]) = size L + e.2.length := by simp [size]
theorem fits_toNat {n : Nat} {e : E} (h : fits n e = true) : e.1.toNat + e.2.length ≤ n ∧ (e.1.toNat : Int) = e.1 := by
  unfold fits at h
  have := of_decide_eq_true h
  omega
theorem doAll_len (o : List Nat) (L : List E) (h : ∀ e ∈ L, fits o.length e = true) : (doAll o L).length = o.length := by
  induction L generalizing o with
  | nil => rfl
  | cons e L ih =>
    have h1 := (fits_toNat (h e (by simp))).1
    have hl := lay_len o e.1.toNat e.2 h1
    show (doAll (lay o e.1.toNat e.2) L).length = _
    rw [ih _ (fun x hx => by rw [hl]; exact h x (by simp [hx])), hl]

section
variable (a b : List Nat)
/-- Do they differ there? -/
def df (i : Nat) : Bool := a.getD i 0 != b.getD i 0
def stepE (L : List E) (i : Nat) : List E :=
  if df a b i then
    match L.getLast? with
    | some z => if z.1 + (z.2.length : Int) = (i : Int) then L.dropLast ++ [(z.1, z.2 ++ [b.getD i 0])] else L ++ [((i : Int), [b.getD i 0])]
    | none => L ++ [((i : Int), [b.getD i 0])]
  else L
/-- What Of has behind so many bytes. -/
def ofS : Nat → List E
  | 0 => []
  | i + 1 => stepE a b (ofS i) i
theorem ofS_same {i : Nat} (h : df a b i = false) : ofS a b (i + 1) = ofS a b i := by
  show stepE a b (ofS a b i) i = _
  unfold stepE
  rw [h]
  simp
theorem ofS_ext {i : Nat} {L : List E} {s : Int} {d : List Nat} (h : df a b i = true) (e : ofS a b i = L ++ [(s, d)]) (hs : s + (d.length : Int) = (i : Int)) : ofS a b (i + 1) = L ++ [(s, d ++ [b.getD i 0])] := by
  show stepE a b (ofS a b i) i = _
  unfold stepE
  rw [if_pos h, e]
  simp [hs]
theorem ofS_new0 {i : Nat} (h : df a b i = true) (e : ofS a b i = []) : ofS a b (i + 1) = ofS a b i ++ [((i : Int), [b.getD i 0])] := by
  show stepE a b (ofS a b i) i = _
  unfold stepE
  rw [if_pos h, e]
  simp
theorem ofS_new {i : Nat} {L : List E} {s : Int} {d : List Nat} (h : df a b i = true) (e : ofS a b i = L ++ [(s, d)]) (hs : ¬ s + (d.length : Int) = (i : Int)) : ofS a b (i + 1) = ofS a b i ++ [((i : Int), [b.getD i 0])] := by
  show stepE a b (ofS a b i) i = _
  unfold stepE
  rw [if_pos h, e]
  simp [hs]
/-- One step, whichever. -/
theorem ofS_cases (i : Nat) : (df a b i = false ∧ ofS a b (i + 1) = ofS a b i) ∨ (df a b i = true ∧ ∃ L s d, ofS a b i = L ++ [(s, d)] ∧ s + (d.length : Int) = (i : Int) ∧ ofS a b (i + 1) = L ++ [(s, d ++ [b.getD i 0])]) ∨
    (df a b i = true ∧ (∀ L s d, ofS a b i = L ++ [(s, d)] → ¬ s + (d.length : Int) = (i : Int)) ∧ ofS a b (i + 1) = ofS a b i ++ [((i : Int), [b.getD i 0])]) := by
  cases h : df a b i with
  | false => exact .inl ⟨rfl, ofS_same a b h⟩
  | true =>
    right
    rcases List.eq_nil_or_concat (ofS a b i) with e | ⟨L, z, e⟩
    · exact .inr ⟨rfl, fun L s d e2 => by rw [e] at e2; simp at e2, ofS_new0 a b h e⟩
    · rw [List.concat_eq_append] at e
      obtain ⟨s, d⟩ := z
      by_cases hs : s + (d.length : Int) = (i : Int)
      · exact .inl ⟨rfl, L, s, d, e, hs, ofS_ext a b h e hs⟩
      · refine .inr ⟨rfl, fun L2 s2 d2 e2 => ?_, ofS_new a b h e hs⟩
        rw [e] at e2
        have := List.append_inj' e2 rfl
        have h3 := this.2
        simp at h3
        rw [← h3.1, ← h3.2]; exact hs
theorem ofS_mem (i : Nat) : ∀ e ∈ ofS a b i, 0 ≤ e.1 ∧ e.1 + (e.2.length : Int) ≤ (i : Int) ∧ 0 < e.2.length := by
  induction i with
  | zero => intro e he; cases he
  | succ i ih =>
    intro e he
    rcases ofS_cases a b i with ⟨_, h⟩ | ⟨_, L, s, d, h1, hs, h⟩ | ⟨_, _, h⟩ <;> rw [h] at he
    · have := ih e he; omega
    · rcases List.mem_append.1 he with he | he
      · have := ih e (by rw [h1]; simp [he]); omega
      · have := ih (s, d) (by rw [h1]; simp)
        simp only [List.mem_singleton] at he
        subst he
        simp at this ⊢
        omega
    · rcases List.mem_append.1 he with he | he
      · have := ih e he; omega
      · simp only [List.mem_singleton] at he
        subst he
        simp
theorem ofS_fits {i n : Nat} (h : i ≤ n) : ∀ e ∈ ofS a b i, fits n e = true := fun e he => by
  have := ofS_mem a b i e he
  unfold fits
  simp
  omega
theorem getD_take_drop (i : Nat) (h : i < a.length) (hl : a.length = b.length) (he : a.getD i 0 = b.getD i 0) : b.take (i + 1) ++ a.drop (i + 1) = b.take i ++ a.drop i := by
  rw [List.take_succ_eq_append_getElem (by omega), List.drop_eq_getElem_cons h]
  rw [List.getD_eq_getElem?_getD, List.getElem?_eq_getElem h, List.getD_eq_getElem?_getD, List.getElem?_eq_getElem (by omega)] at he
  simp at he
  rw [he, List.append_assoc]
  rfl
theorem lay_next (i : Nat) (h : i < a.length) (hl : a.length = b.length) : lay (b.take i ++ a.drop i) i [b.getD i 0] = b.take (i + 1) ++ a.drop (i + 1) := by
  unfold lay
  have e1 : (b.take i).length = i := by rw [List.length_take]; omega
  have e2 : (b.take i ++ a.drop i).take i = b.take i := by
    rw [List.take_append_of_le_length (by omega), List.take_of_length_le (by omega)]
  have e3 : (b.take i ++ a.drop i).drop (i + 1) = a.drop (i + 1) := by
    rw [List.drop_append, e1, List.drop_of_length_le (by omega), List.nil_append, List.drop_drop]
    congr 1
    omega
  simp only [List.length_singleton]
  rw [e2, e3, List.take_succ_eq_append_getElem (by omega), List.getD_eq_getElem?_getD, List.getElem?_eq_getElem (by omega)]
  rfl
theorem lay_ext (o : List Nat) (s : Nat) (d : List Nat) (x : Nat) (h : s + d.length < o.length) : lay o s (d ++ [x]) = lay (lay o s d) (s + d.length) [x] := by
  have hl : (o.take s).length = s := by rw [List.length_take]; omega
  unfold lay
  have e1 : (o.take s ++ d ++ o.drop (s + d.length)).take (s + d.length) = o.take s ++ d := by
    rw [List.take_append_of_le_length (by simp; omega), List.take_of_length_le (by simp; omega)]
  have e2 : (o.take s ++ d ++ o.drop (s + d.length)).drop (s + d.length + [x].length) = o.drop (s + (d ++ [x]).length) := by
    rw [List.drop_append, List.drop_of_length_le (by simp; omega), List.nil_append, List.drop_drop]
    congr 1
    simp
    omega
  rw [e1, e2]
  simp
/-- The edits do what they must. -/
theorem doAll_ofS (hl : a.length = b.length) (i : Nat) (hi : i ≤ a.length) : doAll a (ofS a b i) = b.take i ++ a.drop i := by
  induction i with
  | zero => simp [doAll, ofS]
  | succ i ih =>
    have ih := ih (by omega)
    rcases ofS_cases a b i with ⟨hd, h⟩ | ⟨_, L, s, d, h1, hs, h⟩ | ⟨_, _, h⟩
    · have he : a.getD i 0 = b.getD i 0 := by unfold df at hd; simpa using hd
      rw [h, ih, getD_take_drop a b i (by omega) hl he]
    · have hm := ofS_mem a b i (s, d) (by rw [h1]; simp)
      simp only at hm
      have hsn : s.toNat + d.length = i := by omega
      rw [h, doAll_snoc]
      rw [h1, doAll_snoc] at ih
      simp only at ih ⊢
      have hlen : (doAll a L).length = a.length := doAll_len a L (fun e he => ofS_fits a b (i := i) (by omega) e (by rw [h1]; simp [he]))
      rw [lay_ext _ _ _ _ (by omega), ih, hsn]
      exact lay_next a b i (by omega) hl
    · rw [h, doAll_snoc, ih]
      simp only [Int.toNat_natCast]
      exact lay_next a b i (by omega) hl
/-- How many bytes differ. -/
def cnt : Nat → Nat
  | 0 => 0
  | i + 1 => cnt i + if df a b i then 1 else 0
theorem size_ofS (i : Nat) : size (ofS a b i) = cnt a b i := by
  induction i with
  | zero => rfl
  | succ i ih =>
    rcases ofS_cases a b i with ⟨hd, h⟩ | ⟨hd, L, s, d, h1, hs, h⟩ | ⟨hd, _, h⟩
    · rw [h, ih, cnt, hd]; simp
    · rw [h, cnt, hd, ← ih, h1, size_snoc, size_snoc]; simp; omega
    · rw [h, cnt, hd, ← ih, size_snoc]; simp
/-! ### the document's edits -/
/-- The end of a row of bytes that differ. -/
def runE : Nat → Nat → Nat
  | 0, k => k
  | f + 1, k => if df a b k then runE f (k + 1) else k
theorem runE_le (f k : Nat) : k ≤ runE a b f k ∧ runE a b f k ≤ k + f := by
  induction f generalizing k with
  | zero => simp [runE]
  | succ f ih =>
    unfold runE
    split
    · have := ih (k + 1); omega
    · omega
theorem runE_all (f k j : Nat) (h1 : k ≤ j) (h2 : j < runE a b f k) : df a b j = true := by
  induction f generalizing k with
  | zero => simp [runE] at h2; omega
  | succ f ih =>
    unfold runE at h2
    split at h2
    · rename_i hd
      by_cases e : j = k
      · subst e; exact hd
      · exact ih (k + 1) (by omega) h2
    · omega
theorem runE_end (f k : Nat) : runE a b f k = k + f ∨ df a b (runE a b f k) = false := by
  induction f generalizing k with
  | zero => left; rfl
  | succ f ih =>
    unfold runE
    split
    · rcases ih (k + 1) with h | h
      · left; rw [h]; omega
      · exact .inr h
    · rename_i hd; right; simpa using hd
/-- Does a row begin there? -/
def begins (i : Nat) : Bool := df a b i && !(decide (0 < i) && df a b (i - 1))
def edS (n : Nat) : Nat → List E
  | 0 => []
  | i + 1 => if begins a b i then edS n i ++ [((i : Int), (b.drop i).take (runE a b (n - i) i - i))] else edS n i
/-- Inside a row. -/
theorem edS_in (n i : Nat) {j : Nat} (h : ∀ k, i ≤ k → k < j → df a b k = true) (hij : i < j) : edS a b n j = edS a b n (i + 1) := by
  induction j with
  | zero => omega
  | succ j ih =>
    by_cases e : j = i
    · subst e; rfl
    · have : begins a b j = false := by
        unfold begins
        have h1 := h (j - 1) (by omega) (by omega)
        rw [h1]
        simp
        omega
      show (if begins a b j then _ else edS a b n j) = _
      rw [this]
      exact ih (fun k k1 k2 => h k k1 (by omega)) (by omega)
theorem slice_snoc (i j : Nat) (h : j < b.length) (hij : i ≤ j) : (b.drop i).take (j + 1 - i) = (b.drop i).take (j - i) ++ [b.getD j 0] := by
  rw [show j + 1 - i = (j - i) + 1 by omega, List.take_succ_eq_append_getElem (by rw [List.length_drop]; omega)]
  congr 1
  rw [List.getD_eq_getElem?_getD, List.getElem?_eq_getElem h, List.getElem_drop]
  simp only [Option.getD_some, List.cons.injEq, and_true]
  congr 1
  omega
theorem ofS_in (i : Nat) {j : Nat} (hn : j ≤ b.length) (h : ∀ k, i ≤ k → k < j → df a b k = true) (hij : i < j) (hb : ∀ L s d, ofS a b i = L ++ [(s, d)] → ¬ s + (d.length : Int) = (i : Int)) :
    ofS a b j = ofS a b i ++ [((i : Int), (b.drop i).take (j - i))] := by
  induction j with
  | zero => omega
  | succ j ih =>
    by_cases e : j = i
    · subst e
      have hd := h j (by omega) (by omega)
      rcases ofS_cases a b j with ⟨h0, _⟩ | ⟨_, L, s, d, h1, hs, _⟩ | ⟨_, _, h2⟩
      · rw [h0] at hd; cases hd
      · exact absurd hs (hb L s d h1)
      · rw [h2, slice_snoc b j j (by omega) (by omega)]
        simp
    · have ih := ih (by omega) (fun k k1 k2 => h k k1 (by omega)) (by omega)
      have hd := h j (by omega) (by omega)
      rw [ofS_ext a b hd ih (by rw [List.length_take, List.length_drop]; omega), slice_snoc b i j (by omega) (by omega)]
theorem edS_ofS_from (n : Nat) (hn : n ≤ b.length) (m : Nat) : ∀ i, n - i = m → i ≤ n → edS a b n i = ofS a b i → (0 < i → df a b (i - 1) = false) → (∀ e ∈ ofS a b i, e.1 + (e.2.length : Int) < (i : Int)) → edS a b n n = ofS a b n := by
  induction m using Nat.strongRecOn with
  | _ m ih =>
    intro i hm hi he hd hb
    by_cases hin : i = n
    · subst hin; exact he
    · cases hdi : df a b i with
      | false =>
        refine ih (n - (i + 1)) (by omega) (i + 1) rfl (by omega) ?_ (fun _ => hdi) (fun e hx => ?_)
        · show (if begins a b i then _ else edS a b n i) = _
          rw [show begins a b i = false by unfold begins; rw [hdi]; rfl, ofS_same a b hdi]
          exact he
        · rw [ofS_same a b hdi] at hx
          have := hb e hx
          omega
      | true =>
        have hbg : begins a b i = true := by
          unfold begins
          rw [hdi]
          by_cases h0 : 0 < i
          · rw [hd h0]; simp
          · simp [h0]
        have hr := runE_le a b (n - i) i
        have hra := runE_all a b (n - i) i
        have hre := runE_end a b (n - i) i
        have hri : i < runE a b (n - i) i := by
          obtain ⟨f, hf⟩ : ∃ f, n - i = f + 1 := ⟨n - i - 1, by omega⟩
          rw [hf]
          show i < (if df a b i then runE a b f (i + 1) else i)
          rw [if_pos hdi]
          have := (runE_le a b f (i + 1)).1
          omega
        have e1 := edS_in a b n i hra hri
        have e2 := ofS_in a b i (j := runE a b (n - i) i) (by omega) hra hri (fun L s d e => by
          have := hb (s, d) (by rw [e]; simp)
          simp only at this
          omega)
        have e3 : edS a b n (runE a b (n - i) i) = ofS a b (runE a b (n - i) i) := by
          rw [e1, e2, ← he]
          show (if begins a b i then _ else edS a b n i) = _
          rw [if_pos hbg]
        generalize runE a b (n - i) i = r at *
        by_cases hrn : r = n
        · subst hrn; exact e3
        · have hdr : df a b r = false := by
            rcases hre with h | h
            · omega
            · exact h
          refine ih (n - (r + 1)) (by omega) (r + 1) rfl (by omega) ?_ (fun _ => hdr) (fun e hx => ?_)
          · show (if begins a b r then _ else edS a b n r) = _
            rw [show begins a b r = false by unfold begins; rw [hdr]; rfl, ofS_same a b hdr]
            exact e3
          · rw [ofS_same a b hdr] at hx
            have := ofS_mem a b r e hx
            omega
/-- Of makes the document's edits. -/
theorem edS_ofS (n : Nat) (hn : n ≤ b.length) : edS a b n n = ofS a b n :=
  edS_ofS_from a b n hn (n - 0) 0 rfl (Nat.zero_le _) rfl (fun h => absurd h (Nat.lt_irrefl 0)) (fun _ h => by cases h)
end
end Go.Proofs.Ytaagfmaboggbhaa.delta
