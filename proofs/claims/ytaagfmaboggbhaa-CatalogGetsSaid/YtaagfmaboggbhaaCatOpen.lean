/-
  An argument of type api.Catalog, opened.
-/
import Derived.Test.YtaagfmaboggbhaaCatPutsW
import Derived.Test.YtaagfmaboggbhaaOpen
import Derived.Deep.Fields
import Derived.ChangeSame
import Derived.Lib.SmallJoins
namespace Go.Proofs.Ytaagfmaboggbhaa.cat
open Go.RowKit Go.ChangeShapes Go.WideShapes Go.ChangeAt Go.Deep Go.Joins
set_option linter.unusedVariables false

section
variable {H : Type} {enc : TypeId × Value → H} {P : Program} {w : World} {base : Nat} {spare : Nat → Bool} {held : Bool}
theorem open_agg9 {r : Reach} {b0 : Nat} {t : TypeId} {f0 f1 f2 f3 f4 f5 f6 f7 f8 : Field} {v : Value} {d : DataW H} {p : List MemPlace} (hs : P.underlying t = some (.struct #[f0, f1, f2, f3, f4, f5, f6, f7, f8])) (hone : oneCellFields P #[f0, f1, f2, f3, f4, f5, f6, f7, f8] = true) (hC : P.cellsOf t = 9)
    (hv : Value.okWide P w r b0 t v) (h : DataW.Trod enc P w base spare held t v d p) :
    ∃ (v0 v1 v2 v3 v4 v5 v6 v7 v8 : Value) (y0 y1 y2 y3 y4 y5 y6 y7 y8 : DataW H × List MemPlace) (n : Nat), v = .agg #[v0, v1, v2, v3, v4, v5, v6, v7, v8] ∧ DataW.trod enc P w base spare held n f0.type [v0] = some y0 ∧ DataW.trod enc P w base spare held n f1.type [v1] = some y1 ∧ DataW.trod enc P w base spare held n f2.type [v2] = some y2 ∧ DataW.trod enc P w base spare held n f3.type [v3] = some y3 ∧ DataW.trod enc P w base spare held n f4.type [v4] = some y4 ∧ DataW.trod enc P w base spare held n f5.type [v5] = some y5 ∧ DataW.trod enc P w base spare held n f6.type [v6] = some y6 ∧ DataW.trod enc P w base spare held n f7.type [v7] = some y7 ∧ DataW.trod enc P w base spare held n f8.type [v8] = some y8 := by
  obtain ⟨cs, rfl, hsz⟩ := okWide_struct hs hv
  obtain ⟨l⟩ := cs
  match l, hsz.trans hC with
  | [c0, c1, c2, c3, c4, c5, c6, c7, c8], _ =>
    obtain ⟨fuel, hf⟩ := h
    obtain ⟨xs, n, _, hx, _, hlen, hg⟩ := DataW.trod_struct hs hf
    obtain ⟨o0, k0⟩ := hone_of hone 0 f0 rfl
    obtain ⟨o1, k1⟩ := hone_of hone 1 f1 rfl
    obtain ⟨o2, k2⟩ := hone_of hone 2 f2 rfl
    obtain ⟨o3, k3⟩ := hone_of hone 3 f3 rfl
    obtain ⟨o4, k4⟩ := hone_of hone 4 f4 rfl
    obtain ⟨o5, k5⟩ := hone_of hone 5 f5 rfl
    obtain ⟨o6, k6⟩ := hone_of hone 6 f6 rfl
    obtain ⟨o7, k7⟩ := hone_of hone 7 f7 rfl
    obtain ⟨o8, k8⟩ := hone_of hone 8 f8 rfl
    match xs, hlen with
    | [y0, y1, y2, y3, y4, y5, y6, y7, y8], _ =>
      exact ⟨c0, c1, c2, c3, c4, c5, c6, c7, c8, y0, y1, y2, y3, y4, y5, y6, y7, y8, n, rfl, by simpa [Value.cells, o0, k0] using hg 0 f0 rfl, by simpa [Value.cells, o1, k1] using hg 1 f1 rfl, by simpa [Value.cells, o2, k2] using hg 2 f2 rfl, by simpa [Value.cells, o3, k3] using hg 3 f3 rfl, by simpa [Value.cells, o4, k4] using hg 4 f4 rfl, by simpa [Value.cells, o5, k5] using hg 5 f5 rfl, by simpa [Value.cells, o6, k6] using hg 6 f6 rfl, by simpa [Value.cells, o7, k7] using hg 7 f7 rfl, by simpa [Value.cells, o8, k8] using hg 8 f8 rfl⟩

theorem choose_list {α : Type} (n : Nat) (Q : Nat → α → Prop) (h : ∀ i, i < n → ∃ z, Q i z) : ∃ L : List α, L.length = n ∧ ∀ j (hj : j < L.length), Q j L[j] := by
  induction n with
  | zero => exact ⟨[], rfl, fun j hj => absurd hj (Nat.not_lt_zero _)⟩
  | succ n ih =>
    obtain ⟨L, hL, hq⟩ := ih (fun i hi => h i (by omega))
    obtain ⟨z, hz⟩ := h n (by omega)
    refine ⟨L ++ [z], by simp [hL], fun j hj => ?_⟩
    by_cases hjn : j < L.length
    · rw [List.getElem_append_left hjn]; exact hq j hjn
    · have e : j = L.length := by rw [List.length_append] at hj; simp at hj; omega
      subst e
      simp only [List.getElem_concat_length]
      rw [hL]; exact hz
/-- A slice of structs of one-cell fields. -/
theorem open_rows {t e : TypeId} {fs : Array Field} {fuel : Nat} {v : Value} {x : DataW H × List MemPlace} (ht : P.underlying t = some (.slice e)) (he : P.underlying e = some (.struct fs))
    (hone : oneCellFields P fs = true) (hC : P.cellsOf e = fs.size) (h0 : 0 < fs.size) (h : DataW.trod enc P w base spare held fuel t [v] = some x) :
    ∃ A n c, v = .slice A n c ∧ n ≤ c ∧ c ≤ maxLen ∧ (0 < n → ∃ b off, A = some ⟨b, off, none⟩ ∧ b < w.heap.size) ∧
      ∀ i, i < n → ∀ b off, A = some ⟨b, off, none⟩ → ∃ m, ∀ (j : Nat) (f : Field), fs[j]? = some f → ∃ (u : Value) (y : DataW H × List MemPlace), w.cell? ⟨b, off + (i * fs.size + j), none⟩ = some u ∧ DataW.trod enc P w base spare held m f.type [u] = some y := by
  -- one field of one element
  have field : ∀ {cs : List Value} {q : DataW H × List MemPlace} {m : Nat} {p : Addr}, w.cells? base p fs.size = some cs → DataW.trod enc P w base spare held m e cs = some q →
      ∃ m', ∀ (j : Nat) (f : Field), fs[j]? = some f → ∃ (u : Value) (y : DataW H × List MemPlace), w.cell? (p.add j) = some u ∧ DataW.trod enc P w base spare held m' f.type [u] = some y := by
    intro cs q m p hcells htrod
    obtain ⟨_, hlen, hcell⟩ := World.cells?_some hcells
    obtain ⟨ys, m', _, _, _, hyl, hfield⟩ := DataW.trod_struct he htrod
    refine ⟨m', fun j f hj => ?_⟩
    have hjs : j < fs.size := (Array.getElem?_eq_some_iff.1 hj).1
    obtain ⟨hoff, hone1⟩ := hone_of hone j f hj
    have hread := hfield j f hj
    rw [hoff, hone1, List.drop_eq_getElem_cons (by omega)] at hread
    simp only [List.take_succ_cons, List.take_zero] at hread
    have hjy : j < ys.length := by omega
    rw [List.getElem?_eq_getElem hjy] at hread
    exact ⟨_, _, by rw [hcell j hjs, List.getElem?_eq_getElem (by omega)], hread⟩
  rcases open_slice ht h with ⟨hcs, _⟩ | ⟨a, len, cap, m, mm, D, Pl, hcs, _, hl, hm, hmm, _, hi⟩
  · simp only [List.cons.injEq, and_true] at hcs
    subst hcs
    exact ⟨none, 0, 0, rfl, Nat.le_refl _, Nat.zero_le _, fun hn => absurd hn (Nat.lt_irrefl 0), fun i hi => absurd hi (Nat.not_lt_zero _)⟩
  · simp only [List.cons.injEq, and_true] at hcs
    subst hcs
    have hlm : len ≤ m := by rw [hmm]; split <;> omega
    have at_ : ∀ i, i < len → ∃ m', ∀ (j : Nat) (f : Field), fs[j]? = some f → ∃ (u : Value) (y : DataW H × List MemPlace), w.cell? (a.add (i * fs.size + j)) = some u ∧ DataW.trod enc P w base spare held m' f.type [u] = some y := fun i hlt => by
      obtain ⟨cs', h1, h2⟩ := hi i (by omega)
      rw [hC] at h1
      obtain ⟨m', hf⟩ := field h1 h2
      refine ⟨m', fun j f hj => ?_⟩
      obtain ⟨u, y, hu, hy⟩ := hf j f hj
      exact ⟨u, y, by rw [← Go.Deep.add_add]; exact hu, hy⟩
    refine ⟨some a, len, cap, rfl, hl, hm, fun hn => ?_, fun i hlt b off hab => ?_⟩
    · obtain ⟨_, hf⟩ := at_ 0 hn
      obtain ⟨u, y, hc, _⟩ := hf 0 fs[0] (by simp [h0])
      have hsp : a.spot = none := by simpa [Addr.add] using World.cell?_spot hc
      have hlt : a.block < w.heap.size := by simpa [Addr.add] using block_lt_of_cell hc
      obtain ⟨b, off, sp⟩ := a
      obtain rfl : sp = none := hsp
      exact ⟨b, off, rfl, hlt⟩
    · injection hab with hab
      subst hab
      obtain ⟨m', hf⟩ := at_ i hlt
      refine ⟨m', fun j f hj => ?_⟩
      obtain ⟨u, y, hc, hy⟩ := hf j f hj
      rw [addr_plain] at hc
      exact ⟨u, y, hc, hy⟩
/-- A slice of numbers, out of its cell. -/
theorem open_nums {t e : TypeId} {kd : IntKind} (ht : P.underlying t = some (.slice e)) (he : P.underlying e = some (.int kd)) (hC : P.cellsOf e = 1) {fuel : Nat} {v : Value} {y : DataW H × List MemPlace}
    (h : DataW.trod enc P w base spare held fuel t [v] = some y) : ∃ A n c, ∃ zs : List Int, v = .slice A n c ∧ n ≤ c ∧ c ≤ maxLen ∧ (∀ z ∈ zs, (Lit.int kd z).wf = true) ∧ Seg w w.heap.size A n (zs.map (Value.int kd)) := by
  obtain ⟨A, n, c, V, m, hv, hnc, hc, hs, hi⟩ := open_elems ht hC h
  simp only [List.cons.injEq, and_true] at hv
  obtain ⟨zs, hzl, hz⟩ := choose_list (α := Int) n (fun i z => V i = .int kd z ∧ (Lit.int kd z).wf = true) (fun i hin => by
    obtain ⟨y, hy⟩ := hi i hin
    obtain ⟨z, e1, _, w1⟩ := DataW.trod_int he hy
    simp only [List.cons.injEq, and_true] at e1
    exact ⟨z, e1, w1⟩)
  refine ⟨A, n, c, zs, hv, hnc, hc, fun z hz' => ?_, ?_⟩
  · obtain ⟨j, hj, rfl⟩ := List.mem_iff_getElem.1 hz'
    exact (hz j hj).2
  · have e : (List.range n).map V = zs.map (Value.int kd) := by
      apply List.ext_getElem
      · simp [hzl]
      · intro j h1 h2
        simp only [List.getElem_map, List.getElem_range]
        exact (hz j (by simpa using h2)).1
    rw [← e]; exact hs
end

section
variable {H : Type} {enc : TypeId × Value → H} {W : World} {base : Nat} {spare : Nat → Bool} {held : Bool}
theorem u64_nat {z : Int} (h : (Lit.int .u64 z).wf = true) : ∃ q : Nat, z = (q : Int) ∧ q < 18446744073709551616 := by
  have := u64_bd h
  exact ⟨z.toNat, (Int.toNat_of_nonneg this.1).symm, by omega⟩
set_option maxRecDepth 100000 in
theorem open_mks {fuel : Nat} {v : Value} {y : DataW H × List MemPlace} (h : DataW.trod enc Try.prog W base spare held fuel 66 [v] = some y) :
    ∃ A n c M, v = .slice A n c ∧ n ≤ c ∧ c ≤ maxLen ∧ MkSeg W W.heap.size A n M := by
  obtain ⟨A, n, c, hv, hnc, hc, hA, hi⟩ := open_rows Try.underlying66 Try.underlying100 (by kernel_rfl) (by kernel_rfl) (by decide) h
  refine ⟨A, n, c, ?_⟩
  by_cases hn : 0 < n
  · obtain ⟨b, off, rfl, hlt⟩ := hA hn
    obtain ⟨M, hM, hz⟩ := choose_list (α := Nat × Nat) n (fun i z => W.cell? ⟨b, off + i * 2, none⟩ = some (.int .u64 (z.1 : Int)) ∧ W.cell? ⟨b, off + i * 2 + 1, none⟩ = some (.int .u64 (z.2 : Int)) ∧ z.1 < 18446744073709551616 ∧ z.2 < 18446744073709551616) (fun i hin => by
      obtain ⟨m, hf⟩ := hi i hin b off rfl
      obtain ⟨u0, y0, c0, t0⟩ := hf 0 _ rfl
      obtain ⟨u1, y1, c1, t1⟩ := hf 1 _ rfl
      obtain ⟨z0, e0, _, w0⟩ := DataW.trod_int Try.underlying47 t0
      obtain ⟨z1, e1, _, w1⟩ := DataW.trod_int Try.underlying47 t1
      simp only [List.cons.injEq, and_true] at e0 e1
      obtain ⟨a0, rfl, b0⟩ := u64_nat w0
      obtain ⟨a1, rfl, b1⟩ := u64_nat w1
      subst e0 e1
      exact ⟨(a0, a1), c0, c1, b0, b1⟩)
    refine ⟨M, hv, hnc, hc, hM, fun _ => ⟨b, off, rfl, hlt, fun j hj => ⟨(hz j hj).1, (hz j hj).2.1⟩⟩, fun z hz' => ?_⟩
    obtain ⟨j, hj, rfl⟩ := List.mem_iff_getElem.1 hz'
    exact (hz j hj).2.2
  · obtain rfl : n = 0 := by omega
    exact ⟨[], hv, hnc, hc, MkSeg.nil _ _ _⟩
theorem open_ints' {fuel : Nat} {v : Value} {y : DataW H × List MemPlace} (h : DataW.trod enc Try.prog W base spare held fuel 85 [v] = some y) :
    ∃ A n c l, v = .slice A n c ∧ n ≤ c ∧ c ≤ maxLen ∧ Seg W W.heap.size A n (nums l) ∧ ∀ x ∈ l, I64 x := by
  obtain ⟨A, n, c, zs, hv, hnc, hc, hw, hs⟩ := open_nums Try.underlying85 Try.underlying3 (by kernel_rfl) h
  exact ⟨A, n, c, zs, hv, hnc, hc, hs, fun x hx => i64_bd (hw x hx)⟩
theorem open_us {fuel : Nat} {v : Value} {y : DataW H × List MemPlace} (h : DataW.trod enc Try.prog W base spare held fuel 65 [v] = some y) :
    ∃ A n c l, v = .slice A n c ∧ n ≤ c ∧ c ≤ maxLen ∧ Seg W W.heap.size A n (us l) ∧ ∀ x ∈ l, U64 x := by
  obtain ⟨A, n, c, zs, hv, hnc, hc, hw, hs⟩ := open_nums Try.underlying65 Try.underlying47 (by kernel_rfl) h
  refine ⟨A, n, c, zs.map Int.toNat, hv, hnc, hc, ?_, fun x hx => ?_⟩
  · have e : us (zs.map Int.toNat) = zs.map (Value.int .u64) := by
      unfold us
      rw [List.map_map]
      refine List.map_congr_left fun z hz => ?_
      have := u64_bd (hw z hz)
      simp only [Function.comp_apply]
      rw [Int.toNat_of_nonneg this.1]
    rw [e]; exact hs
  · obtain ⟨z, hz, rfl⟩ := List.mem_map.1 hx
    have := u64_bd (hw z hz)
    show z.toNat < 18446744073709551616
    omega
set_option maxRecDepth 100000 in
theorem open_vols {fuel : Nat} {v : Value} {y : DataW H × List MemPlace} (h : DataW.trod enc Try.prog W base spare held fuel 62 [v] = some y) :
    ∃ A n c L, v = .slice A n c ∧ n ≤ c ∧ c ≤ maxLen ∧ VolSeg W W.heap.size A n L := by
  obtain ⟨A, n, c, hv, hnc, hc, hA, hi⟩ := open_rows Try.underlying62 Try.underlying92 (by kernel_rfl) (by kernel_rfl) (by decide) h
  refine ⟨A, n, c, ?_⟩
  by_cases hn : 0 < n
  · obtain ⟨b, off, rfl, hlt⟩ := hA hn
    obtain ⟨M, hM, hz⟩ := choose_list (α := Vol) n (fun i z => W.cell? ⟨b, off + i * 3, none⟩ = some (.int .i64 z.id) ∧ W.cell? ⟨b, off + i * 3 + 1, none⟩ = some (.int .u64 (z.born : Int)) ∧ W.cell? ⟨b, off + i * 3 + 2, none⟩ = some (.slice z.A z.n z.c) ∧ VolOk W W.heap.size z) (fun i hin => by
      obtain ⟨m, hf⟩ := hi i hin b off rfl
      obtain ⟨u0, y0, c0, t0⟩ := hf 0 _ rfl
      obtain ⟨u1, y1, c1, t1⟩ := hf 1 _ rfl
      obtain ⟨u2, y2, c2, t2⟩ := hf 2 _ rfl
      obtain ⟨z0, e0, _, w0⟩ := DataW.trod_int Try.underlying3 t0
      simp only [List.cons.injEq, and_true] at e0
      subst e0
      obtain ⟨z1, e1, _, w1⟩ := DataW.trod_int Try.underlying47 t1
      simp only [List.cons.injEq, and_true] at e1
      obtain ⟨a1, rfl, b1⟩ := u64_nat w1
      subst e1
      obtain ⟨zA, zn, zc, zl, rfl, s1, s2, s3⟩ := open_mks t2
      exact ⟨⟨z0, a1, zA, zn, zc, zl⟩, c0, c1, c2, ⟨s3, s1, s2, i64_bd w0, b1⟩⟩)
    refine ⟨M, hv, hnc, hc, hM, fun _ => ⟨b, off, rfl, hlt, fun j hj => ⟨(hz j hj).1, (hz j hj).2.1, (hz j hj).2.2.1⟩⟩, fun z hz' => ?_⟩
    obtain ⟨j, hj, rfl⟩ := List.mem_iff_getElem.1 hz'
    exact (hz j hj).2.2.2
  · obtain rfl : n = 0 := by omega
    exact ⟨[], hv, hnc, hc, VolSeg.nil _ _ _⟩
set_option maxRecDepth 100000 in
theorem open_grps {fuel : Nat} {v : Value} {y : DataW H × List MemPlace} (h : DataW.trod enc Try.prog W base spare held fuel 63 [v] = some y) :
    ∃ A n c L, v = .slice A n c ∧ n ≤ c ∧ c ≤ maxLen ∧ GrpSeg W W.heap.size A n L := by
  obtain ⟨A, n, c, hv, hnc, hc, hA, hi⟩ := open_rows Try.underlying63 Try.underlying94 (by kernel_rfl) (by kernel_rfl) (by decide) h
  refine ⟨A, n, c, ?_⟩
  by_cases hn : 0 < n
  · obtain ⟨b, off, rfl, hlt⟩ := hA hn
    obtain ⟨M, hM, hz⟩ := choose_list (α := Grp) n (fun i z => W.cell? ⟨b, off + i * 2, none⟩ = some (.int .i64 z.id) ∧ W.cell? ⟨b, off + i * 2 + 1, none⟩ = some (.slice z.A z.n z.c) ∧ GrpOk W W.heap.size z) (fun i hin => by
      obtain ⟨m, hf⟩ := hi i hin b off rfl
      obtain ⟨u0, y0, c0, t0⟩ := hf 0 _ rfl
      obtain ⟨u1, y1, c1, t1⟩ := hf 1 _ rfl
      obtain ⟨z0, e0, _, w0⟩ := DataW.trod_int Try.underlying3 t0
      simp only [List.cons.injEq, and_true] at e0
      subst e0
      obtain ⟨zA, zn, zc, zl, rfl, s1, s2, s3, s4⟩ := open_ints' t1
      exact ⟨⟨z0, zA, zn, zc, zl⟩, c0, c1, ⟨⟨s3, s4⟩, s1, s2, i64_bd w0⟩⟩)
    refine ⟨M, hv, hnc, hc, hM, fun _ => ⟨b, off, rfl, hlt, fun j hj => ⟨(hz j hj).1, (hz j hj).2.1⟩⟩, fun z hz' => ?_⟩
    obtain ⟨j, hj, rfl⟩ := List.mem_iff_getElem.1 hz'
    exact (hz j hj).2.2
  · obtain rfl : n = 0 := by omega
    exact ⟨[], hv, hnc, hc, GrpSeg.nil _ _ _⟩
set_option maxRecDepth 100000 in
theorem open_bks {fuel : Nat} {v : Value} {y : DataW H × List MemPlace} (h : DataW.trod enc Try.prog W base spare held fuel 64 [v] = some y) :
    ∃ A n c L, v = .slice A n c ∧ n ≤ c ∧ c ≤ maxLen ∧ BkSeg W W.heap.size A n L := by
  obtain ⟨A, n, c, hv, hnc, hc, hA, hi⟩ := open_rows Try.underlying64 Try.underlying96 (by kernel_rfl) (by kernel_rfl) (by decide) h
  refine ⟨A, n, c, ?_⟩
  by_cases hn : 0 < n
  · obtain ⟨b, off, rfl, hlt⟩ := hA hn
    obtain ⟨M, hM, hz⟩ := choose_list (α := Bk) n (fun i z => W.cell? ⟨b, off + i * 3, none⟩ = some (.int .i64 z.id) ∧ W.cell? ⟨b, off + i * 3 + 1, none⟩ = some (.int .u64 (z.seq : Int)) ∧ W.cell? ⟨b, off + i * 3 + 2, none⟩ = some (.slice z.A z.n z.c) ∧ BkOk W W.heap.size z) (fun i hin => by
      obtain ⟨m, hf⟩ := hi i hin b off rfl
      obtain ⟨u0, y0, c0, t0⟩ := hf 0 _ rfl
      obtain ⟨u1, y1, c1, t1⟩ := hf 1 _ rfl
      obtain ⟨u2, y2, c2, t2⟩ := hf 2 _ rfl
      obtain ⟨z0, e0, _, w0⟩ := DataW.trod_int Try.underlying3 t0
      simp only [List.cons.injEq, and_true] at e0
      subst e0
      obtain ⟨z1, e1, _, w1⟩ := DataW.trod_int Try.underlying47 t1
      simp only [List.cons.injEq, and_true] at e1
      obtain ⟨a1, rfl, b1⟩ := u64_nat w1
      subst e1
      obtain ⟨zA, zn, zc, zl, rfl, s1, s2, s3, s4⟩ := open_ints' t2
      exact ⟨⟨z0, a1, zA, zn, zc, zl⟩, c0, c1, c2, ⟨⟨s3, s4⟩, s1, s2, i64_bd w0, b1⟩⟩)
    refine ⟨M, hv, hnc, hc, hM, fun _ => ⟨b, off, rfl, hlt, fun j hj => ⟨(hz j hj).1, (hz j hj).2.1, (hz j hj).2.2.1⟩⟩, fun z hz' => ?_⟩
    obtain ⟨j, hj, rfl⟩ := List.mem_iff_getElem.1 hz'
    exact (hz j hj).2.2.2
  · obtain rfl : n = 0 := by omega
    exact ⟨[], hv, hnc, hc, BkSeg.nil _ _ _⟩
set_option maxRecDepth 100000 in
theorem open_cat {b0 : Nat} {v : Value} {d : DataW H} {p : List MemPlace} (h : DataW.Trod enc Try.prog W base spare held 68 v d p) (k : Value.okWide Try.prog W .any b0 68 v) :
    ∃ c : Cat, v = c.val ∧ CatOk W W.heap.size c := by
  obtain ⟨v0, v1, v2, v3, v4, v5, v6, v7, v8, y0, y1, y2, y3, y4, y5, y6, y7, y8, n, rfl, t0, t1, t2, t3, t4, t5, t6, t7, t8⟩ := open_agg9 Try.underlying68 (by kernel_rfl) (by kernel_rfl) k h
  obtain ⟨z0, e0, _, w0⟩ := DataW.trod_int Try.underlying3 t0
  obtain ⟨z1, e1, _, w1⟩ := DataW.trod_int Try.underlying3 t1
  obtain ⟨z2, e2, _, w2⟩ := DataW.trod_int Try.underlying3 t2
  obtain ⟨z3, e3, _, w3⟩ := DataW.trod_int Try.underlying47 t3
  simp only [List.cons.injEq, and_true] at e0 e1 e2 e3
  obtain ⟨a3, rfl, b3⟩ := u64_nat w3
  obtain ⟨vA, vn, vc, vl, rfl, v1', v2', v3'⟩ := open_vols t4
  obtain ⟨gA, gn, gc, gl, rfl, g1, g2, g3⟩ := open_grps t5
  obtain ⟨bA, bn, bc, bl, rfl, b1, b2, b3'⟩ := open_bks t6
  obtain ⟨kA, kn, kc, kl, rfl, k1, k2, k3, k4⟩ := open_us t7
  obtain ⟨tA, tn, tc, tl, rfl, m1, m2, m3⟩ := open_mks t8
  subst e0 e1 e2 e3
  exact ⟨⟨z0, z1, z2, a3, vA, vn, vc, vl, gA, gn, gc, gl, bA, bn, bc, bl, kA, kn, kc, kl, tA, tn, tc, tl⟩, rfl, i64_bd w0, i64_bd w1, i64_bd w2, b3, v3', g3, b3', k3, k4, m3, ⟨v1', v2'⟩, ⟨g1, g2⟩, ⟨b1, b2⟩, ⟨k1, k2⟩, ⟨m1, m2⟩⟩
set_option maxRecDepth 100000 in
/-- The law CatalogPuts, of what comes in. -/
theorem puts_main (W : World) {b0 : Nat} {v : Value} {d : DataW H} {p : List MemPlace} (h : DataW.Trod enc Try.prog W base spare held 68 v d p) (k : Value.okWide Try.prog W .any b0 68 v) :
    Calls Try.prog 9 #[v] W fun e w' => e = .returned (.bool true) ∧ Below W.heap.size W w' := by
  obtain ⟨c, rfl, hc⟩ := open_cat h k
  exact puts_walk hc
end
end Go.Proofs.Ytaagfmaboggbhaa.cat
