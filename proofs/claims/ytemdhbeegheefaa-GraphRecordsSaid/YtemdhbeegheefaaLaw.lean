
/- What every row of a law leans on, of no program: arguments opened, and read again behind the call. No condition. -/
import Derived.Test.YtemdhbeegheefaaKit
import Derived.ProofKit
import Derived.Deep.SlicePairs
namespace Go.Proofs.Ytemdhbeegheefaa
open Go.ChangeShapes Go.WideShapes Go.ChangeAt Go.RowKit Go.ChangeMaps

section
variable {H : Type} {enc : TypeId × Value → H} {P : Program} {W : World}

/-- ARGS, all at once: below the heap's old size nothing has turned. -/
theorem Below.trodAll (hl : laidOutB P = true) {W' : World} (hb : Below W.heap.size W W') : ∀ {ts : List TypeId} {vs : List Value} {ds : List (DataW H)} {ps : List MemPlace}, (∀ t ∈ ts, P.readableRec t = true ∧ t < P.types.size) →
    DataW.TrodAll enc P W 0 (fun _ => true) true ts vs ds ps → (∀ x ∈ ps, x.block < W.heap.size) → DataW.TrodAll enc P W' 0 (fun b => decide (b < W.heap.size)) true ts vs ds ps
  | [], [], [], _, _, h, _ => h
  | _ :: _, _ :: _, _ :: _, _, ht, ⟨p, q, h1, h2, e⟩, hlt =>
    ⟨p, q, h1.elim fun n hn => Below.trod hl (ht _ (by simp)).1 (ht _ (by simp)).2 ⟨n, hn⟩ hb (fun x hx => hlt x (by rw [e]; exact List.mem_append_left _ hx)),
      Below.trodAll hl hb (fun t h => ht t (by simp [h])) h2 (fun x hx => hlt x (by rw [e]; exact List.mem_append_right _ hx)), e⟩

/-- POST of a law: true; the arguments as they were. -/
theorem law_post (hl : laidOutB P = true) {f : Func} {s : ChangeSpec} {W' : World} {args : Array Value} {ds gs : List (DataW H)} {before : List MemPlace} {tb : TypeId}
    (hts : ∀ t ∈ f.params.toList, P.readableRec t = true ∧ t < P.types.size) (hres : f.resultTypes = #[tb]) (hbt : P.underlying tb = some .bool) (hsv : s.vars = [])
    (hW : DataW.Whole enc P f.params.toList s.vars false W args.toList ds gs before) (hfn : s.fn H (ds ++ gs) = { results := [.lit (.bool true)], args := ds }) (hb : Below W.heap.size W W') :
    s.post enc P f false true false false W args (.bool true) W' := by
  have hlt := hW.lt
  have hW' := hW
  obtain ⟨p, q, hA, hV, rfl, _, _⟩ := hW
  rw [hsv] at hV
  obtain ⟨rfl, rfl⟩ := trodVars_none hV
  refine ⟨ds, [], p ++ [], [], p, [], hW', ?_, ?_, ?_, hb.frame _, fun h => by cases h⟩
  · rw [hfn, hres]
    exact trodAll_mk1 (shut_bool hbt true)
  · rw [hfn]
    exact Below.trodAll hl hb hts hA (fun x hx => by simpa using hlt x (by simpa using hx))
  · rw [hfn, hsv]
    rfl

theorem data_le {s : ByteArray} (h : s.size ≤ maxLen) : s.data.toList.length ≤ 9223372036854775807 := by
  have e : s.data.toList.length = s.size := rfl
  rw [e]; unfold maxLen at h; omega

/-- A text. -/
theorem open_str {r : Reach} {b0 : Nat} {t : TypeId} {v : Value} {d : DataW H} {ps : List MemPlace} (ht : P.underlying t = some .string) (hval : Value.okWide P W r b0 t v) (hd : DataW.Trod enc P W 0 (fun _ => true) true t v d ps) : ∃ l : List UInt8, v = .string (S l) ∧ l.length ≤ 9223372036854775807 := by
  obtain ⟨s, rfl, _, _, hs⟩ := open_string ht hval hd
  exact ⟨s.data.toList, rfl, data_le hs⟩

/-- A list of structs of a number and a text. -/
theorem open_toks {r : Reach} {b0 : Nat} {t e : TypeId} {f0 f1 : Field} {v : Value} {d : DataW H} {ps : List MemPlace} (ht : P.underlying t = some (.slice e)) (hval : Value.okWide P W r b0 t v) (he : P.underlying e = some (.struct #[f0, f1]))
    (ce : P.cellsOf e = 2) (o0 : f0.offset = 0) (o1 : f1.offset = 1) (c0 : P.cellsOf f0.type = 1) (c1 : P.cellsOf f1.type = 1) (u0 : P.underlying f0.type = some (.int .i64)) (u1 : P.underlying f1.type = some .string)
    (hd : DataW.Trod enc P W 0 (fun _ => true) true t v d ps) (hlt : ∀ x ∈ ps, x.block < W.heap.size) :
    ∃ l : List (Int × List UInt8), Rt W v l ∧ l.length ≤ 9223372036854775807 ∧ (∀ x ∈ l, x.2.length ≤ 9223372036854775807) ∧ ∀ x ∈ l, -9223372036854775808 ≤ x.1 ∧ x.1 ≤ 9223372036854775807 := by
  obtain ⟨a', len', cap', rfl⟩ := okWide_slice ht hval
  obtain ⟨fuel, hf⟩ := hd
  rcases Go.Deep.open_slice_pairs ht he ce o0 o1 c0 c1 hf with ⟨hc, _⟩ | ⟨a, len, cap, m, k, V0, V1, D0, D1, P0, P1, hc, _, hl, hm, hmm, hx, hall⟩
  · simp [Value.cells] at hc
    obtain ⟨rfl, rfl, rfl⟩ := hc
    exact ⟨[], ⟨rfl, .inl ⟨.inl rfl, rfl⟩⟩, by simp, by simp, by simp⟩
  · simp [Value.cells] at hc
    obtain ⟨rfl, rfl, rfl⟩ := hc
    simp only [if_true] at hmm
    subst hmm
    have key : ∀ i, i < m → ∃ (z : Int) (s : List UInt8), V0 i = .int .i64 z ∧ V1 i = .string (S s) ∧ s.length ≤ 9223372036854775807 ∧ (Lit.int .i64 z).wf = true := fun i hi => by
      obtain ⟨z, h1, _, h3⟩ := DataW.trod_int u0 (hall i hi).2.2.1
      obtain ⟨s, h4, _, h5⟩ := DataW.trod_string u1 (hall i hi).2.2.2
      simp only [List.cons.injEq, and_true] at h1 h4
      exact ⟨z, s.data.toList, h1, by rw [h4]; rfl, data_le h5, h3⟩
    have key2 : ∃ g : Nat → Int × List UInt8, ∀ i, i < m → V0 i = .int .i64 (g i).1 ∧ V1 i = .string (S (g i).2) ∧ (g i).2.length ≤ 9223372036854775807 ∧ (Lit.int .i64 (g i).1).wf = true := by
      refine ⟨fun i => if h : i < m then ((key i h).choose, (key i h).choose_spec.choose) else (0, []), fun i hi => ?_⟩
      simp only [hi, dite_true]
      exact (key i hi).choose_spec.choose_spec
    obtain ⟨g, hg⟩ := key2
    have hlen : ((List.range len').map g).length = len' := by simp
    refine ⟨(List.range len').map g, ⟨tcs_length _, ?_⟩, by rw [hlen]; unfold maxLen at hm; omega, ?_, ?_⟩
    · rw [hlen]
      by_cases h0 : len' = 0
      · subst h0
        exact .inl ⟨.inr ⟨_, _, rfl⟩, rfl⟩
      · obtain ⟨b, o, spot⟩ := a
        have hspot : spot = none := by simpa [Addr.add] using World.cell?_spot (hall 0 (by omega)).1
        subst hspot
        refine .inr ⟨b, o, m, rfl, fun _ => ?_, fun j u hj => ?_, by omega⟩
        · exact hlt (.cell b o) (by
            simp only [Prod.mk.injEq] at hx
            rw [hx.2]
            exact List.mem_append_left _ (MemPlace.mem_row.2 ⟨0, by omega, by simp⟩))
        · have hj2 : j < len' * 2 := by
            have := (List.getElem?_eq_some_iff.1 hj).1
            rw [tcs_length, hlen] at this
            exact this
          obtain ⟨i, hi, rfl | rfl⟩ : ∃ i, i < len' ∧ (j = i * 2 ∨ j = i * 2 + 1) := ⟨j / 2, by omega, by omega⟩
          · have h1 := (tcs_at ((List.range len').map g) i (by rw [hlen]; exact hi)).1
            rw [h1] at hj
            cases hj
            have h2 := (hall i (by omega)).1
            rw [addr_add] at h2
            rw [h2, (hg i (by omega)).1]
            simp
          · have h1 := (tcs_at ((List.range len').map g) i (by rw [hlen]; exact hi)).2
            rw [h1] at hj
            cases hj
            have h2 := (hall i (by omega)).2.1
            rw [addr_add] at h2
            rw [show o + (i * 2 + 1) = o + (i * 2 + 1) from rfl, h2, (hg i (by omega)).2.1]
            simp
    · intro x hx2
      obtain ⟨i, hi, rfl⟩ := List.mem_map.1 hx2
      exact (hg i (by have := List.mem_range.1 hi; omega)).2.2.1
    · intro x hx2
      obtain ⟨i, hi, rfl⟩ := List.mem_map.1 hx2
      have := (hg i (by have := List.mem_range.1 hi; omega)).2.2.2
      simp [Lit.wf, IntKind.min, IntKind.max, IntKind.signed, IntKind.bits] at this
      exact this
end

end Go.Proofs.Ytemdhbeegheefaa
