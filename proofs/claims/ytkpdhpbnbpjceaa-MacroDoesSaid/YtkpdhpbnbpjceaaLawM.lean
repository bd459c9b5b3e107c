
/- Arguments that are lists of macros, or of truth values, opened. No condition. -/
import Derived.Test.YtkpdhpbnbpjceaaLawC
import Derived.Test.YtkpdhpbnbpjceaaMacDrop
import Derived.Deep.Grids
namespace Go.Proofs.Ytkpdhpbnbpjceaa
open Go.ChangeShapes Go.WideShapes Go.ChangeAt Go.RowKit Go.ChangeMaps

section
variable {H : Type} {enc : TypeId × Value → H} {P : Program} {W : World}

/-- A list of macros. -/
theorem open_macs {r : Reach} {b0 : Nat} {t e b q : TypeId} {g0 g1 g2 f0 f1 : Field} {v : Value} {d : DataW H} {ps : List MemPlace} (ht : P.underlying t = some (.slice e)) (hval : Value.okWide P W r b0 t v) (he : P.underlying e = some (.struct #[g0, g1, g2])) (cE : P.cellsOf e = 3)
    (r0 : g0.offset = 0) (r1 : g1.offset = 1) (r2 : g2.offset = 2) (d0 : P.cellsOf g0.type = 1) (d1 : P.cellsOf g1.type = 1) (d2 : P.cellsOf g2.type = 1) (v0 : P.underlying g0.type = some .string) (v1 : P.underlying g1.type = some (.int .i64)) (hb : g2.type = b) (hb2 : P.underlying b = some (.slice q)) (hq : P.underlying q = some (.struct #[f0, f1]))
    (ce : P.cellsOf q = 2) (o0 : f0.offset = 0) (o1 : f1.offset = 1) (c0 : P.cellsOf f0.type = 1) (c1 : P.cellsOf f1.type = 1) (u0 : P.underlying f0.type = some (.int .i64)) (u1 : P.underlying f1.type = some .string)
    (hd : DataW.Trod enc P W 0 (fun _ => true) true t v d ps) (hlt : ∀ x ∈ ps, x.block < W.heap.size) :
    ∃ l : List (Mac × Value), Rd W 3 v l.length (mcs l) ∧ l.length ≤ 9223372036854775807 ∧ ∀ p ∈ l, Rt W p.2 p.1.2.2 ∧ p.1.1.length ≤ 9223372036854775807 ∧ ∀ x ∈ p.1.2.2, x.2.length ≤ 9223372036854775807 := by
  subst hb
  obtain ⟨a', len', cap', rfl⟩ := okWide_slice ht hval
  obtain ⟨fuel, hf⟩ := hd
  rcases Go.Deep.open_slice ht hf with ⟨hc, _⟩ | ⟨a, len, cap, m, n, D, Pl, hc, _, hl, hm, hmm, hx, hall⟩
  · simp [Value.cells] at hc
    obtain ⟨rfl, rfl, rfl⟩ := hc
    exact ⟨[], ⟨rfl, .inl ⟨.inl rfl, rfl⟩⟩, by simp, by simp⟩
  · simp [Value.cells] at hc
    obtain ⟨rfl, rfl, rfl⟩ := hc
    simp only [if_true] at hmm
    subst hmm
    have hps : ps = MemPlace.row a (m * P.cellsOf e) ++ (List.range m).flatMap Pl := by simp only [Prod.mk.injEq] at hx; exact hx.2
    have key : ∀ i, i < m → ∃ p : Mac × Value, W.cell? (a.add (i * 3)) = some (.string (S p.1.1)) ∧ W.cell? (a.add (i * 3 + 1)) = some (.int .i64 p.1.2.1) ∧ W.cell? (a.add (i * 3 + 2)) = some p.2 ∧ Rt W p.2 p.1.2.2 ∧ p.1.1.length ≤ 9223372036854775807 ∧ ∀ x ∈ p.1.2.2, x.2.length ≤ 9223372036854775807 := fun i hi => by
      obtain ⟨cs', h1, h2⟩ := hall i hi
      rw [cE] at h1
      obtain ⟨_, hlen, hcell⟩ := World.cells?_some h1
      obtain ⟨y0, y1, y2, k, hxy, _, t0, t1, t2⟩ := Go.Deep.trod_struct3 he h2
      match cs', hlen with
      | [w0, w1, w2], _ =>
        simp only [r0, r1, r2, d0, d1, d2, List.drop_zero, List.take_succ_cons, List.take_zero, List.drop_succ_cons] at t0 t1 t2
        have e0 := hcell 0 (by omega)
        have e1 := hcell 1 (by omega)
        have e2 := hcell 2 (by omega)
        rw [Go.Deep.add_add] at e0 e1 e2
        obtain ⟨s, h3, _, h4⟩ := DataW.trod_string v0 t0
        obtain ⟨z, h5, _, _⟩ := DataW.trod_int v1 t1
        simp only [Prod.mk.injEq] at hxy
        obtain ⟨x, l, h7, h8, _, h9⟩ := toks_at hb2 hq ce o0 o1 c0 c1 u0 u1 t2 (fun y hy => hlt y (by
          rw [hps]
          refine List.mem_append_right _ (List.mem_flatMap.2 ⟨i, List.mem_range.2 hi, ?_⟩)
          rw [hxy.2]
          exact List.mem_append_right _ (List.mem_append_right _ hy)))
        simp only [List.cons.injEq, and_true] at h3 h5 h7
        subst h3 h5 h7
        exact ⟨((s.data.toList, z, l), w2), e0, e1, e2, h8, data_le h4, h9⟩
    have key2 : ∃ g : Nat → Mac × Value, ∀ i, i < m → W.cell? (a.add (i * 3)) = some (.string (S (g i).1.1)) ∧ W.cell? (a.add (i * 3 + 1)) = some (.int .i64 (g i).1.2.1) ∧ W.cell? (a.add (i * 3 + 2)) = some (g i).2 ∧ Rt W (g i).2 (g i).1.2.2 ∧ (g i).1.1.length ≤ 9223372036854775807 ∧ ∀ x ∈ (g i).1.2.2, x.2.length ≤ 9223372036854775807 := by
      refine ⟨fun i => if h : i < m then (key i h).choose else (([], 0, []), .slice none 0 0), fun i hi => ?_⟩
      simp only [hi, dite_true]
      exact (key i hi).choose_spec
    obtain ⟨g, hg⟩ := key2
    have hlen : ((List.range len').map g).length = len' := by simp
    refine ⟨(List.range len').map g, ⟨mcs_length _, ?_⟩, by rw [hlen]; unfold maxLen at hm; omega, ?_⟩
    · rw [hlen]
      by_cases h0 : len' = 0
      · subst h0
        exact .inl ⟨.inr ⟨_, _, rfl⟩, rfl⟩
      · obtain ⟨b, o, spot⟩ := a
        have hspot : spot = none := by simpa [Addr.add] using World.cell?_spot (hg 0 (by omega)).1
        subst hspot
        refine .inr ⟨b, o, m, rfl, fun _ => ?_, fun j u hj => ?_, by omega⟩
        · exact hlt (.cell b o) (by
            rw [hps, cE]
            exact List.mem_append_left _ (MemPlace.mem_row.2 ⟨0, by omega, by simp⟩))
        · have hj2 : j < len' * 3 := by
            have := (List.getElem?_eq_some_iff.1 hj).1
            rw [mcs_length, hlen] at this
            exact this
          have hgi : ∀ (i : Nat) (hi : i < ((List.range len').map g).length), ((List.range len').map g)[i] = g i := by intro i hi; simp
          obtain ⟨i, hi, rfl | rfl | rfl⟩ : ∃ i, i < len' ∧ (j = i * 3 ∨ j = i * 3 + 1 ∨ j = i * 3 + 2) := ⟨j / 3, by omega, by omega⟩
          · have h1 := (mcs_at ((List.range len').map g) i (by rw [hlen]; exact hi)).1
            rw [h1, hgi] at hj
            cases hj
            have h2 := (hg i (by omega)).1
            rwa [addr_add] at h2
          · have h1 := (mcs_at ((List.range len').map g) i (by rw [hlen]; exact hi)).2.1
            rw [h1, hgi] at hj
            cases hj
            have h2 := (hg i (by omega)).2.1
            rwa [addr_add] at h2
          · have h1 := (mcs_at ((List.range len').map g) i (by rw [hlen]; exact hi)).2.2
            rw [h1, hgi] at hj
            cases hj
            have h2 := (hg i (by omega)).2.2.1
            rwa [addr_add] at h2
    · intro x hx2
      obtain ⟨i, hi, rfl⟩ := List.mem_map.1 hx2
      exact (hg i (by have := List.mem_range.1 hi; omega)).2.2.2

/-- A list of truth values. -/
theorem open_boolsR {r : Reach} {b0 : Nat} {t e : TypeId} {v : Value} {d : DataW H} {ps : List MemPlace} (ht : P.underlying t = some (.slice e)) (hval : Value.okWide P W r b0 t v) (he : P.underlying e = some .bool) (ce : P.cellsOf e = 1)
    (hd : DataW.Trod enc P W 0 (fun _ => true) true t v d ps) (hlt : ∀ x ∈ ps, x.block < W.heap.size) :
    ∃ bs : List Bool, Rd W 1 v bs.length (bs.map Value.bool) ∧ bs.length ≤ 9223372036854775807 := by
  obtain ⟨a', len', cap', rfl⟩ := okWide_slice ht hval
  obtain ⟨fuel, hf⟩ := hd
  rcases Go.Deep.open_bools ht he ce hf with ⟨hc, _⟩ | ⟨a, len, cap, B, hc, _, hl, hm, hx, hall⟩
  · simp [Value.cells] at hc
    obtain ⟨rfl, rfl, rfl⟩ := hc
    exact ⟨[], ⟨rfl, .inl ⟨.inl rfl, rfl⟩⟩, by simp⟩
  · simp [Value.cells] at hc
    obtain ⟨rfl, rfl, rfl⟩ := hc
    have hps : ps = MemPlace.row a cap' := by simp only [Prod.mk.injEq] at hx; exact hx.2
    have hlen : ((List.range len').map B).length = len' := by simp
    refine ⟨(List.range len').map B, ⟨by simp, ?_⟩, by rw [hlen]; unfold maxLen at hm; omega⟩
    rw [hlen]
    by_cases h0 : len' = 0
    · subst h0
      exact .inl ⟨.inr ⟨_, _, rfl⟩, rfl⟩
    · obtain ⟨b, o, spot⟩ := a
      have hspot : spot = none := by simpa [Addr.add] using World.cell?_spot (hall 0 (by omega))
      subst hspot
      refine .inr ⟨b, o, cap', rfl, fun _ => ?_, fun j u hj => ?_, by omega⟩
      · exact hlt (.cell b o) (by
          rw [hps]
          exact MemPlace.mem_row.2 ⟨0, by omega, by simp⟩)
      · have hj2 : j < len' := by
          have := (List.getElem?_eq_some_iff.1 hj).1
          simpa using this
        rw [List.getElem?_map, List.getElem?_map, List.getElem?_range hj2] at hj
        simp at hj
        subst hj
        have h2 := hall j (by omega)
        rw [addr_add] at h2
        exact h2
end

end Go.Proofs.Ytkpdhpbnbpjceaa
