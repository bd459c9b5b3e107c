
/- Arguments that are lists of numbers, and lists of these, opened. No condition. -/
import Derived.Test.YtemdhbeegheefaaLaw
import Derived.Test.YtemdhbeegheefaaGrMem
import Derived.Deep.Grids
namespace Go.Proofs.Ytemdhbeegheefaa
open Go.ChangeShapes Go.WideShapes Go.ChangeAt Go.RowKit Go.ChangeMaps

theorem u8_range {z : Int} (h : (Lit.int .u8 z).wf = true) : 0 ≤ z ∧ z ≤ 255 := by
  simp [Lit.wf, IntKind.min, IntKind.max, IntKind.signed, IntKind.bits] at h
  exact h

section
variable {H : Type} {enc : TypeId × Value → H} {P : Program} {W : World}

/-- A list of numbers, by its cells. -/
theorem ints_at' {t e : TypeId} {cs : List Value} {x : DataW H × List MemPlace} {fuel : Nat} (ht : P.underlying t = some (.slice e)) (he : P.underlying e = some (.int .i64)) (ce : P.cellsOf e = 1)
    (hf : DataW.trod enc P W 0 (fun _ => true) true fuel t cs = some x) (hlt : ∀ y ∈ x.2, y.block < W.heap.size) :
    ∃ v l, cs = [v] ∧ Ri W v l ∧ l.length ≤ 9223372036854775807 := by
  rcases Go.ChangeShapes.open_ints ht he ce hf with ⟨rfl, _⟩ | ⟨a, len, cap, zs, rfl, _, hl, hm, hz, hx, hcell, hwf⟩
  · exact ⟨_, [], rfl, ri_nil W, by simp⟩
  · simp only [if_true] at hz
    have hlen : (zs.take len).length = len := by simp; omega
    refine ⟨_, zs.take len, rfl, ⟨by simp [ints], ?_⟩, by rw [hlen]; unfold maxLen at hm; omega⟩
    rw [hlen]
    by_cases h0 : len = 0
    · subst h0
      exact .inl ⟨.inr ⟨_, _, rfl⟩, rfl⟩
    · obtain ⟨b, o, spot⟩ := a
      have hspot : spot = none := by simpa [Addr.add] using World.cell?_spot (hcell 0 (by omega))
      subst hspot
      refine .inr ⟨b, o, cap, rfl, fun _ => ?_, fun j u hj => ?_, by omega⟩
      · exact hlt (.cell b o) (by
          rw [hx]
          exact MemPlace.mem_row.2 ⟨0, by omega, by simp⟩)
      · have hj2 : j < len := by
          have := (List.getElem?_eq_some_iff.1 hj).1
          rw [ints_length, hlen] at this
          exact this
        have h2 := hcell j (by omega)
        rw [addr_add] at h2
        rw [h2]
        have h3 : (ints (zs.take len))[j]? = some (.int .i64 (zs[j]'(by omega))) := by
          simp only [ints, List.getElem?_map]
          rw [List.getElem?_take_of_lt hj2, List.getElem?_eq_getElem (by omega)]
          rfl
        rw [h3] at hj
        rw [← hj]
        simp [List.getD_eq_getElem?_getD, List.getElem?_eq_getElem (show j < zs.length by omega)]
/-- A list of numbers. -/
theorem open_intsR {r : Reach} {b0 : Nat} {t e : TypeId} {v : Value} {d : DataW H} {ps : List MemPlace} (_hval : Value.okWide P W r b0 t v) (ht : P.underlying t = some (.slice e)) (he : P.underlying e = some (.int .i64)) (ce : P.cellsOf e = 1)
    (hd : DataW.Trod enc P W 0 (fun _ => true) true t v d ps) (hlt : ∀ x ∈ ps, x.block < W.heap.size) : ∃ l : List Int, Ri W v l ∧ l.length ≤ 9223372036854775807 := by
  obtain ⟨a', len', cap', rfl⟩ := okWide_slice ht _hval
  obtain ⟨fuel, hf⟩ := hd
  obtain ⟨v, l, h1, h2, h3⟩ := ints_at' ht he ce hf hlt
  simp [Value.cells] at h1
  subst h1
  exact ⟨l, h2, h3⟩
/-- A list of lists of numbers. -/
theorem open_grid {r : Reach} {b0 : Nat} {t e q : TypeId} {v : Value} {d : DataW H} {ps : List MemPlace} (ht : P.underlying t = some (.slice e)) (hval : Value.okWide P W r b0 t v) (he : P.underlying e = some (.slice q)) (cE : P.cellsOf e = 1) (hq : P.underlying q = some (.int .i64)) (cq : P.cellsOf q = 1)
    (hd : DataW.Trod enc P W 0 (fun _ => true) true t v d ps) (hlt : ∀ x ∈ ps, x.block < W.heap.size) :
    ∃ ls : List (List Int), Rg W v ls ∧ ls.length ≤ 9223372036854775807 ∧ ∀ l ∈ ls, l.length ≤ 9223372036854775807 := by
  obtain ⟨a', len', cap', rfl⟩ := okWide_slice ht hval
  obtain ⟨fuel, hf⟩ := hd
  rcases Go.Deep.open_slice1 ht cE hf with ⟨hc, _⟩ | ⟨a, len, cap, m, n, V, D, Pl, hc, _, hl, hm, hmm, hx, hall⟩
  · simp [Value.cells] at hc
    obtain ⟨rfl, rfl, rfl⟩ := hc
    exact ⟨[], ⟨[], ⟨rfl, .inl ⟨.inl rfl, rfl⟩⟩, by simp⟩, by simp, by simp⟩
  · simp [Value.cells] at hc
    obtain ⟨rfl, rfl, rfl⟩ := hc
    simp only [if_true] at hmm
    subst hmm
    have hps : ps = MemPlace.row a m ++ (List.range m).flatMap Pl := by simp only [Prod.mk.injEq] at hx; exact hx.2
    have key : ∀ i, i < m → ∃ l : List Int, Ri W (V i) l ∧ l.length ≤ 9223372036854775807 := fun i hi => by
      obtain ⟨v, l, h1, h2, h3⟩ := ints_at' he hq cq (hall i hi).2 (fun y hy => hlt y (by
        rw [hps]
        exact List.mem_append_right _ (List.mem_flatMap.2 ⟨i, List.mem_range.2 hi, hy⟩)))
      simp only [List.cons.injEq, and_true] at h1
      subst h1
      exact ⟨l, h2, h3⟩
    have key2 : ∃ g : Nat → List Int, ∀ i, i < m → Ri W (V i) (g i) ∧ (g i).length ≤ 9223372036854775807 := by
      refine ⟨fun i => if h : i < m then (key i h).choose else [], fun i hi => ?_⟩
      simp only [hi, dite_true]
      exact (key i hi).choose_spec
    obtain ⟨g, hg⟩ := key2
    have hlen : ((List.range len').map g).length = len' := by simp
    refine ⟨(List.range len').map g, ⟨(List.range len').map V, ?_, ?_⟩, by rw [hlen]; unfold maxLen at hm; omega, ?_⟩
    · rw [hlen]
      refine ⟨by simp, ?_⟩
      by_cases h0 : len' = 0
      · subst h0
        exact .inl ⟨.inr ⟨_, _, rfl⟩, rfl⟩
      · obtain ⟨b, o, spot⟩ := a
        have hspot : spot = none := by simpa [Addr.add] using World.cell?_spot (hall 0 (by omega)).1
        subst hspot
        refine .inr ⟨b, o, m, rfl, fun _ => ?_, fun j u hj => ?_, by omega⟩
        · exact hlt (.cell b o) (by
            rw [hps]
            exact List.mem_append_left _ (MemPlace.mem_row.2 ⟨0, by omega, by simp⟩))
        · have hj2 : j < len' := by
            have := (List.getElem?_eq_some_iff.1 hj).1
            simpa using this
          rw [List.getElem?_map, List.getElem?_range hj2] at hj
          simp at hj
          subst hj
          have h2 := (hall j (by omega)).1
          rwa [addr_add] at h2
    · intro i u l hu hl2
      have hi : i < len' := by
        have := (List.getElem?_eq_some_iff.1 hu).1
        simpa using this
      rw [List.getElem?_map, List.getElem?_range hi] at hu hl2
      simp at hu hl2
      subst hu
      subst hl2
      exact (hg i (by omega)).1
    · intro l hl2
      obtain ⟨i, hi, rfl⟩ := List.mem_map.1 hl2
      exact (hg i (by have := List.mem_range.1 hi; omega)).2
end
end Go.Proofs.Ytemdhbeegheefaa
