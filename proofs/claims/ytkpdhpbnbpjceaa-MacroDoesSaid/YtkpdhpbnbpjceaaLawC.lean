
/- Arguments that are lists of texts, or lists of lists of tokens, opened. No condition. -/
import Derived.Test.YtkpdhpbnbpjceaaLaw
import Derived.Test.YtkpdhpbnbpjceaaOwn
import Derived.Deep.Strs
namespace Go.Proofs.Ytkpdhpbnbpjceaa
open Go.ChangeShapes Go.WideShapes Go.ChangeAt Go.RowKit Go.ChangeMaps

section
variable {H : Type} {enc : TypeId × Value → H} {P : Program} {W : World}

/-- A list of structs of a number and a text, by its cells. -/
theorem toks_at {t e : TypeId} {f0 f1 : Field} {cs : List Value} {x : DataW H × List MemPlace} {fuel : Nat} (ht : P.underlying t = some (.slice e)) (he : P.underlying e = some (.struct #[f0, f1]))
    (ce : P.cellsOf e = 2) (o0 : f0.offset = 0) (o1 : f1.offset = 1) (c0 : P.cellsOf f0.type = 1) (c1 : P.cellsOf f1.type = 1) (u0 : P.underlying f0.type = some (.int .i64)) (u1 : P.underlying f1.type = some .string)
    (hf : DataW.trod enc P W 0 (fun _ => true) true fuel t cs = some x) (hlt : ∀ y ∈ x.2, y.block < W.heap.size) :
    ∃ v l, cs = [v] ∧ Rt W v l ∧ l.length ≤ 9223372036854775807 ∧ (∀ x ∈ l, x.2.length ≤ 9223372036854775807) := by
  rcases Go.Deep.open_slice_pairs ht he ce o0 o1 c0 c1 hf with ⟨rfl, _⟩ | ⟨a, len, cap, m, k, V0, V1, D0, D1, P0, P1, rfl, _, hl, hm, hmm, hx, hall⟩
  · exact ⟨_, [], rfl, ⟨rfl, .inl ⟨.inl rfl, rfl⟩⟩, by simp, by simp⟩
  · simp only [if_true] at hmm
    obtain ⟨len', hlen'⟩ : ∃ len', len' = len := ⟨_, rfl⟩
    subst hlen'
    subst hmm
    have key : ∀ i, i < m → ∃ (z : Int) (s : List UInt8), V0 i = .int .i64 z ∧ V1 i = .string (S s) ∧ s.length ≤ 9223372036854775807 ∧ (Lit.int .i64 z).wf = true := fun i hi => by
      obtain ⟨z, h1, _, h3⟩ := DataW.trod_int u0 (hall i hi).2.2.1
      obtain ⟨s, h4, _, h5⟩ := DataW.trod_string u1 (hall i hi).2.2.2
      simp only [List.cons.injEq, and_true] at h1 h4
      exact ⟨z, s.data.toList, h1, by rw [h4]; rfl, data_le h5, h3⟩
    have key2 : ∃ g : Nat → Int × List UInt8, ∀ i, i < m → V0 i = .int .i64 (g i).1 ∧ V1 i = .string (S (g i).2) ∧ (g i).2.length ≤ 9223372036854775807 ∧ (Lit.int .i64 (g i).1).wf = true := by
      refine ⟨fun i => if h : i < m then ((key i h).choose, (key i h).choose_spec.choose) else (0, []), fun i hi => ?_⟩
      simp only [hi, dite_true]
      exact (key i hi).choose_spec.choose_spec
    obtain ⟨g, hg⟩ := key2
    have hlen : ((List.range len').map g).length = len' := by simp
    refine ⟨_, (List.range len').map g, rfl, ⟨tcs_length _, ?_⟩, by rw [hlen]; unfold maxLen at hm; omega, ?_⟩
    · rw [hlen]
      by_cases h0 : len' = 0
      · subst h0
        exact .inl ⟨.inr ⟨_, _, rfl⟩, rfl⟩
      · obtain ⟨b, o, spot⟩ := a
        have hspot : spot = none := by simpa [Addr.add] using World.cell?_spot (hall 0 (by omega)).1
        subst hspot
        refine .inr ⟨b, o, m, rfl, fun _ => ?_, fun j u hj => ?_, by omega⟩
        · exact hlt (.cell b o) (by
            rw [hx]
            exact List.mem_append_left _ (MemPlace.mem_row.2 ⟨0, by omega, by simp⟩))
        · have hj2 : j < len' * 2 := by
            have := (List.getElem?_eq_some_iff.1 hj).1
            rw [tcs_length, hlen] at this
            exact this
          obtain ⟨i, hi, rfl | rfl⟩ : ∃ i, i < len' ∧ (j = i * 2 ∨ j = i * 2 + 1) := ⟨j / 2, by omega, by omega⟩
          · have h1 := (tcs_at ((List.range len').map g) i (by rw [hlen]; exact hi)).1
            rw [h1] at hj
            cases hj
            have h2 := (hall i (by omega)).1
            rw [addr_add] at h2
            rw [h2, (hg i (by omega)).1]
            simp
          · have h1 := (tcs_at ((List.range len').map g) i (by rw [hlen]; exact hi)).2
            rw [h1] at hj
            cases hj
            have h2 := (hall i (by omega)).2.1
            rw [addr_add] at h2
            rw [show o + (i * 2 + 1) = o + (i * 2 + 1) from rfl, h2, (hg i (by omega)).2.1]
            simp
    · intro x hx2
      obtain ⟨i, hi, rfl⟩ := List.mem_map.1 hx2
      exact (hg i (by have := List.mem_range.1 hi; omega)).2.2.1

/-- A list of lists of tokens. -/
theorem open_tokss {r : Reach} {b0 : Nat} {t e q : TypeId} {f0 f1 : Field} {v : Value} {d : DataW H} {ps : List MemPlace} (ht : P.underlying t = some (.slice e)) (hval : Value.okWide P W r b0 t v) (he : P.underlying e = some (.slice q)) (cE : P.cellsOf e = 1) (hq : P.underlying q = some (.struct #[f0, f1]))
    (ce : P.cellsOf q = 2) (o0 : f0.offset = 0) (o1 : f1.offset = 1) (c0 : P.cellsOf f0.type = 1) (c1 : P.cellsOf f1.type = 1) (u0 : P.underlying f0.type = some (.int .i64)) (u1 : P.underlying f1.type = some .string)
    (hd : DataW.Trod enc P W 0 (fun _ => true) true t v d ps) (hlt : ∀ x ∈ ps, x.block < W.heap.size) :
    ∃ ls : List (List (Int × List UInt8)), Rts W v ls ∧ ls.length ≤ 9223372036854775807 ∧ ∀ l ∈ ls, ∀ x ∈ l, x.2.length ≤ 9223372036854775807 := by
  obtain ⟨a', len', cap', rfl⟩ := okWide_slice ht hval
  obtain ⟨fuel, hf⟩ := hd
  rcases Go.Deep.open_slice1 ht cE hf with ⟨hc, _⟩ | ⟨a, len, cap, m, n, V, D, Pl, hc, _, hl, hm, hmm, hx, hall⟩
  · simp [Value.cells] at hc
    obtain ⟨rfl, rfl, rfl⟩ := hc
    exact ⟨[], ⟨[], ⟨rfl, .inl ⟨.inl rfl, rfl⟩⟩, by simp⟩, by simp, by simp⟩
  · simp [Value.cells] at hc
    obtain ⟨rfl, rfl, rfl⟩ := hc
    simp only [if_true] at hmm
    subst hmm
    have hps : ps = MemPlace.row a m ++ (List.range m).flatMap Pl := by simp only [Prod.mk.injEq] at hx; exact hx.2
    have key : ∀ i, i < m → ∃ l : List (Int × List UInt8), Rt W (V i) l ∧ ∀ x ∈ l, x.2.length ≤ 9223372036854775807 := fun i hi => by
      obtain ⟨v, l, h1, h2, _, h3⟩ := toks_at he hq ce o0 o1 c0 c1 u0 u1 (hall i hi).2 (fun y hy => hlt y (by
        rw [hps]
        exact List.mem_append_right _ (List.mem_flatMap.2 ⟨i, List.mem_range.2 hi, hy⟩)))
      simp only [List.cons.injEq, and_true] at h1
      subst h1
      exact ⟨l, h2, h3⟩
    have key2 : ∃ g : Nat → List (Int × List UInt8), ∀ i, i < m → Rt W (V i) (g i) ∧ ∀ x ∈ g i, x.2.length ≤ 9223372036854775807 := by
      refine ⟨fun i => if h : i < m then (key i h).choose else [], fun i hi => ?_⟩
      simp only [hi, dite_true]
      exact (key i hi).choose_spec
    obtain ⟨g, hg⟩ := key2
    have hlen : ((List.range len').map g).length = len' := by simp
    refine ⟨(List.range len').map g, ⟨(List.range len').map V, ?_, ?_⟩, by rw [hlen]; unfold maxLen at hm; omega, ?_⟩
    · rw [hlen]
      refine ⟨by simp, ?_⟩
      by_cases h0 : len' = 0
      · subst h0
        exact .inl ⟨.inr ⟨_, _, rfl⟩, rfl⟩
      · obtain ⟨b, o, spot⟩ := a
        have hspot : spot = none := by simpa [Addr.add] using World.cell?_spot (hall 0 (by omega)).1
        subst hspot
        refine .inr ⟨b, o, m, rfl, fun _ => ?_, fun j u hj => ?_, by omega⟩
        · exact hlt (.cell b o) (by
            rw [hps]
            exact List.mem_append_left _ (MemPlace.mem_row.2 ⟨0, by omega, by simp⟩))
        · have hj2 : j < len' := by
            have := (List.getElem?_eq_some_iff.1 hj).1
            simpa using this
          rw [List.getElem?_map, List.getElem?_range hj2] at hj
          simp at hj
          subst hj
          have h2 := (hall j (by omega)).1
          rwa [addr_add] at h2
    · intro i u l hu hl2
      have hi : i < len' := by
        have := (List.getElem?_eq_some_iff.1 hu).1
        simpa using this
      rw [List.getElem?_map, List.getElem?_range hi] at hu hl2
      simp at hu hl2
      subst hu
      subst hl2
      exact (hg i (by omega)).1
    · intro l hl2
      obtain ⟨i, hi, rfl⟩ := List.mem_map.1 hl2
      exact (hg i (by have := List.mem_range.1 hi; omega)).2

/-- A list of texts. -/
theorem open_texts {r : Reach} {b0 : Nat} {t e : TypeId} {v : Value} {d : DataW H} {ps : List MemPlace} (ht : P.underlying t = some (.slice e)) (hval : Value.okWide P W r b0 t v) (he : P.underlying e = some .string) (ce : P.cellsOf e = 1)
    (hd : DataW.Trod enc P W 0 (fun _ => true) true t v d ps) (hlt : ∀ x ∈ ps, x.block < W.heap.size) :
    ∃ ls : List (List UInt8), Rd W 1 v ls.length (ls.map fun s => Value.string (S s)) ∧ ls.length ≤ 9223372036854775807 ∧ ∀ l ∈ ls, l.length ≤ 9223372036854775807 := by
  obtain ⟨a', len', cap', rfl⟩ := okWide_slice ht hval
  obtain ⟨fuel, hf⟩ := hd
  rcases Go.Deep.open_strs ht he ce hf with ⟨hc, _⟩ | ⟨a, len, cap, m, Sx, hc, _, hl, hm, hmm, hx, hall⟩
  · simp [Value.cells] at hc
    obtain ⟨rfl, rfl, rfl⟩ := hc
    exact ⟨[], ⟨rfl, .inl ⟨.inl rfl, rfl⟩⟩, by simp, by simp⟩
  · simp [Value.cells] at hc
    obtain ⟨rfl, rfl, rfl⟩ := hc
    simp only [if_true] at hmm
    subst hmm
    have hps : ps = MemPlace.row a m := by simp only [Prod.mk.injEq] at hx; exact hx.2
    have hlen : ((List.range len').map fun i => (Sx i).data.toList).length = len' := by simp
    refine ⟨(List.range len').map fun i => (Sx i).data.toList, ⟨by simp, ?_⟩, by rw [hlen]; unfold maxLen at hm; omega, ?_⟩
    · rw [hlen]
      by_cases h0 : len' = 0
      · subst h0
        exact .inl ⟨.inr ⟨_, _, rfl⟩, rfl⟩
      · obtain ⟨b, o, spot⟩ := a
        have hspot : spot = none := by simpa [Addr.add] using World.cell?_spot (hall 0 (by omega)).1
        subst hspot
        refine .inr ⟨b, o, m, rfl, fun _ => ?_, fun j u hj => ?_, by omega⟩
        · exact hlt (.cell b o) (by
            rw [hps]
            exact MemPlace.mem_row.2 ⟨0, by omega, by simp⟩)
        · have hj2 : j < len' := by
            have := (List.getElem?_eq_some_iff.1 hj).1
            simpa using this
          rw [List.getElem?_map, List.getElem?_map, List.getElem?_range hj2] at hj
          simp at hj
          subst hj
          have h2 := (hall j (by omega)).1
          rw [addr_add] at h2
          rw [h2]; rfl
    · intro l hl2
      obtain ⟨i, hi, rfl⟩ := List.mem_map.1 hl2
      exact data_le (hall i (by have := List.mem_range.1 hi; omega)).2
end

end Go.Proofs.Ytkpdhpbnbpjceaa
