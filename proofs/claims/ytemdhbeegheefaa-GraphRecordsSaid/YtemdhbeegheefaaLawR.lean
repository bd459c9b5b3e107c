
/- An argument that is a list of records, opened. No condition. -/
import Derived.Test.YtemdhbeegheefaaLawG
import Derived.Test.YtemdhbeegheefaaGrRec
import Derived.Deep.Strs
import Derived.Deep.SlicePairs
namespace Go.Proofs.Ytemdhbeegheefaa
open Go.ChangeShapes Go.WideShapes Go.ChangeAt Go.RowKit Go.ChangeMaps

section
variable {H : Type} {enc : TypeId × Value → H} {P : Program} {W : World}

/-- A list, by its cells: each of its elements is k cells. -/
theorem open_rows {α : Type} [Inhabited α] {k : Nat} (f : α → List Value) (hfl : ∀ x, (f x).length = k) (p : α → Prop) (hk : 0 < k) {t e : TypeId} {cs : List Value} {x : DataW H × List MemPlace} {fuel : Nat} (ht : P.underlying t = some (.slice e)) (ce : P.cellsOf e = k)
    (hel : ∀ (n : Nat) (cs' : List Value) (y : DataW H × List MemPlace), cs'.length = k → DataW.trod enc P W 0 (fun _ => true) true n e cs' = some y → (∀ z ∈ y.2, z.block < W.heap.size) → ∃ x : α, cs' = f x ∧ p x)
    (hf : DataW.trod enc P W 0 (fun _ => true) true fuel t cs = some x) (hlt : ∀ y ∈ x.2, y.block < W.heap.size) :
    ∃ (v : Value) (l : List α), cs = [v] ∧ Rd W k v l.length (l.flatMap f) ∧ l.length ≤ 9223372036854775807 ∧ ∀ x ∈ l, p x := by
  rcases Go.Deep.open_slice ht hf with ⟨rfl, _⟩ | ⟨a, len, cap, m, n, D, Pl, rfl, _, hl, hm, hmm, hx, hall⟩
  · exact ⟨_, [], rfl, ⟨by simp, .inl ⟨.inl rfl, rfl⟩⟩, by simp, by simp⟩
  · simp only [if_true] at hmm
    subst hmm
    have key : ∀ i, i < m → ∃ q : α, (∀ j u, (f q)[j]? = some u → W.cell? (a.add (i * k + j)) = some u) ∧ p q := fun i hi => by
      obtain ⟨cs', h1, h2⟩ := hall i hi
      rw [ce] at h1
      obtain ⟨_, hlen, hcell⟩ := World.cells?_some h1
      obtain ⟨q, hq, hp⟩ := hel n cs' _ hlen h2 (fun y hy => hlt y (by
        rw [hx]
        exact List.mem_append_right _ (List.mem_flatMap.2 ⟨i, List.mem_range.2 hi, hy⟩)))
      subst hq
      refine ⟨q, fun j u hj => ?_, hp⟩
      have hjk := (List.getElem?_eq_some_iff.1 hj).1
      have := hcell j (by omega)
      rw [Go.Deep.add_add] at this
      rw [this]
      obtain ⟨h9, rfl⟩ := List.getElem?_eq_some_iff.1 hj
      simp [h9]
    have key2 : ∃ g : Nat → α, ∀ i, i < m → (∀ j u, (f (g i))[j]? = some u → W.cell? (a.add (i * k + j)) = some u) ∧ p (g i) := by
      refine ⟨fun i => if h : i < m then (key i h).choose else default, fun i hi => ?_⟩
      simp only [hi, dite_true]
      exact (key i hi).choose_spec
    obtain ⟨g, hg⟩ := key2
    have hlen : ((List.range len).map g).length = len := by simp
    refine ⟨_, (List.range len).map g, rfl, ⟨flatk f hfl _, ?_⟩, by rw [hlen]; unfold maxLen at hm; omega, ?_⟩
    · rw [hlen]
      by_cases h0 : len = 0
      · subst h0
        exact .inl ⟨.inr ⟨_, _, rfl⟩, rfl⟩
      · obtain ⟨b, o, spot⟩ := a
        have hspot : spot = none := by
          have h1 := (hg 0 (by omega)).1 0 _ (List.getElem?_eq_getElem (by rw [hfl]; exact hk))
          simpa [Addr.add] using World.cell?_spot h1
        subst hspot
        refine .inr ⟨b, o, m, rfl, fun _ => ?_, fun j u hj => ?_, by omega⟩
        · exact hlt (.cell b o) (by
            rw [hx, ce]
            exact List.mem_append_left _ (MemPlace.mem_row.2 ⟨0, Nat.mul_pos (by omega) hk, by simp⟩))
        · have hj2 : j < len * k := by
            have := (List.getElem?_eq_some_iff.1 hj).1
            rw [flatk f hfl, hlen] at this
            exact this
          have hdm : j / k * k + j % k = j := by rw [Nat.mul_comm]; exact Nat.div_add_mod j k
          have hd : j / k < len := Nat.div_lt_of_lt_mul (by rw [Nat.mul_comm]; exact hj2)
          have h1 := flatk_at f hfl ((List.range len).map g) (j / k) (by rw [hlen]; exact hd) (j % k) (Nat.mod_lt _ hk)
          rw [hdm] at h1
          rw [h1] at hj
          rw [List.getElem_map, List.getElem_range] at hj
          have h2 := (hg (j / k) (by omega)).1 _ _ hj
          rw [addr_add, hdm] at h2
          exact h2
    · intro x hx2
      obtain ⟨i, hi, rfl⟩ := List.mem_map.1 hx2
      exact (hg i (by have := List.mem_range.1 hi; omega)).2

/-- A list of records. -/
theorem open_recs {r : Reach} {b0 : Nat} {t e a c : TypeId} {g0 g1 g2 h0 h1 h2 f0 f1 : Field} {v : Value} {D : DataW H} {ps : List MemPlace} (ht : P.underlying t = some (.slice e)) (hval : Value.okWide P W r b0 t v) (he : P.underlying e = some (.struct #[g0, g1, g2])) (cE : P.cellsOf e = 3)
    (r0 : g0.offset = 0) (r1 : g1.offset = 1) (r2 : g2.offset = 2) (d0 : P.cellsOf g0.type = 1) (d1 : P.cellsOf g1.type = 1) (d2 : P.cellsOf g2.type = 1) (v0 : P.underlying g0.type = some .string)
    (ha : P.underlying g1.type = some (.slice a)) (hb : P.underlying a = some (.struct #[h0, h1, h2])) (cA : P.cellsOf a = 3) (s0 : h0.offset = 0) (s1 : h1.offset = 1) (s2 : h2.offset = 2) (i0 : P.cellsOf h0.type = 1) (i1 : P.cellsOf h1.type = 1) (i2 : P.cellsOf h2.type = 1) (j0 : P.underlying h0.type = some .string) (j1 : P.underlying h1.type = some .bool) (j2 : P.underlying h2.type = some .string)
    (hc : P.underlying g2.type = some (.slice c)) (hd : P.underlying c = some (.struct #[f0, f1])) (cC : P.cellsOf c = 2) (o0 : f0.offset = 0) (o1 : f1.offset = 1) (c0 : P.cellsOf f0.type = 1) (c1 : P.cellsOf f1.type = 1) (u0 : P.underlying f0.type = some .string) (u1 : P.underlying f1.type = some .string)
    (hD : DataW.Trod enc P W 0 (fun _ => true) true t v D ps) (hlt : ∀ x ∈ ps, x.block < W.heap.size) :
    ∃ l : List Rcd, Rr W v l ∧ l.length ≤ 9223372036854775807 ∧ ∀ x ∈ l, x.1.length ≤ 9223372036854775807 ∧ x.2.1.length ≤ 9223372036854775807 ∧ x.2.2.length ≤ 9223372036854775807 ∧ (∀ s ∈ x.2.1, s.1.length ≤ 9223372036854775807 ∧ s.2.2.length ≤ 9223372036854775807) ∧ ∀ f ∈ x.2.2, f.1.length ≤ 9223372036854775807 ∧ f.2.length ≤ 9223372036854775807 := by
  obtain ⟨a', len', cap', rfl⟩ := okWide_slice ht hval
  obtain ⟨fuel, hf⟩ := hD
  have hsn : ∀ (n : Nat) (cs' : List Value) (y : DataW H × List MemPlace), cs'.length = 3 → DataW.trod enc P W 0 (fun _ => true) true n a cs' = some y → (∀ z ∈ y.2, z.block < W.heap.size) → ∃ x : Sn, cs' = sc x ∧ (x.1.length ≤ 9223372036854775807 ∧ x.2.2.length ≤ 9223372036854775807) := fun n cs' y hl h2 _ => by
    obtain ⟨y0, y1, y2, k, hxy, _, t0, t1, t2⟩ := Go.Deep.trod_struct3 hb h2
    match cs', hl with
    | [w0, w1, w2], _ =>
      simp only [s0, s1, s2, i0, i1, i2, List.drop_zero, List.take_succ_cons, List.take_zero, List.drop_succ_cons] at t0 t1 t2
      obtain ⟨s, q3, _, q4⟩ := DataW.trod_string j0 t0
      obtain ⟨z, q5, _⟩ := DataW.trod_bool j1 t1
      obtain ⟨s', q6, _, q7⟩ := DataW.trod_string j2 t2
      simp only [List.cons.injEq, and_true] at q3 q5 q6
      subst q3 q5 q6
      exact ⟨(s.data.toList, z, s'.data.toList), rfl, data_le q4, data_le q7⟩
  have hfz : ∀ (n : Nat) (cs' : List Value) (y : DataW H × List MemPlace), cs'.length = 2 → DataW.trod enc P W 0 (fun _ => true) true n c cs' = some y → (∀ z ∈ y.2, z.block < W.heap.size) → ∃ x : Fz, cs' = fzc x ∧ (x.1.length ≤ 9223372036854775807 ∧ x.2.length ≤ 9223372036854775807) := fun n cs' y hl h2 _ => by
    match cs', hl with
    | [w0, w1], _ =>
      obtain ⟨y0, y1, n, _, _, t0, t1⟩ := trod_struct2 hd h2
      rw [o0, c0] at t0
      rw [o1, c1] at t1
      obtain ⟨s, q3, _, q4⟩ := DataW.trod_string u0 t0
      obtain ⟨s', q6, _, q7⟩ := DataW.trod_string u1 t1
      simp at q3 q6
      subst q3 q6
      exact ⟨(s.data.toList, s'.data.toList), rfl, data_le q4, data_le q7⟩
  obtain ⟨v', l, hv, hr, hl, hp⟩ := open_rows (α := Rcd × Value × Value) rc (fun _ => rfl) (fun q => (Rsn W q.2.1 q.1.2.1 ∧ Rfz W q.2.2 q.1.2.2) ∧ q.1.1.length ≤ 9223372036854775807 ∧ q.1.2.1.length ≤ 9223372036854775807 ∧ q.1.2.2.length ≤ 9223372036854775807 ∧ (∀ s ∈ q.1.2.1, s.1.length ≤ 9223372036854775807 ∧ s.2.2.length ≤ 9223372036854775807) ∧ ∀ f ∈ q.1.2.2, f.1.length ≤ 9223372036854775807 ∧ f.2.length ≤ 9223372036854775807) (by decide) ht cE (fun n cs' y hl h2 hy => by
    obtain ⟨y0, y1, y2, k, hxy, _, t0, t1, t2⟩ := Go.Deep.trod_struct3 he h2
    match cs', hl with
    | [w0, w1, w2], _ =>
      simp only [r0, r1, r2, d0, d1, d2, List.drop_zero, List.take_succ_cons, List.take_zero, List.drop_succ_cons] at t0 t1 t2
      rw [hxy] at hy
      obtain ⟨s, q3, _, q4⟩ := DataW.trod_string v0 t0
      obtain ⟨x1, l1, q5, k1, k2, k3⟩ := open_rows sc (fun _ => rfl) _ (by decide) ha cA hsn t1 (fun z hz => hy z (List.mem_append_right _ (List.mem_append_left _ hz)))
      obtain ⟨x2, l2, q6, m1, m2, m3⟩ := open_rows fzc (fun _ => rfl) _ (by decide) hc cC hfz t2 (fun z hz => hy z (List.mem_append_right _ (List.mem_append_right _ hz)))
      simp only [List.cons.injEq, and_true] at q3 q5 q6
      subst q3 q5 q6
      exact ⟨((s.data.toList, l1, l2), w1, w2), rfl, ⟨k1, m1⟩, data_le q4, k2, m2, k3, m3⟩) hf hlt
  simp [Value.cells] at hv
  subst hv
  refine ⟨l.map (·.1), ⟨l, rfl, hr, fun p hp' => (hp p hp').1⟩, by rw [List.length_map]; exact hl, fun x hx => ?_⟩
  obtain ⟨q, hq, rfl⟩ := List.mem_map.1 hx
  exact (hp q hq).2
end
end Go.Proofs.Ytemdhbeegheefaa
