/- 'ExpandTells' holds; its tied card. -/
import Derived.Test.YtjfikkjaifdkiaaGreatDoorTe11
import Derived.Test.YtjfikkjaifdkiaaGreatDoorRows
import Derived.ChangeSame
import Derived.ChangeVars
import Derived.JoinedOf
import Derived.RowKit
import Derived.RowKitTokens
import Derived.LaidLaws
import Derived.LaidHandle
import Derived.Stop.Joined
import Derived.ProofKit
import Derived.Deep.SlicePairs
import Derived.Deep.Grids
import Derived.OpenShut
import Derived.Test.YtjfikkjaifdkiaaGreatDoorCards
import Derived.Test.YtjfikkjaifdkiaaGreatDoorTie
import Derived.Test.YtjfikkjaifdkiaaGreatDoorChecked
import Derived.SevenTiedAt
namespace Go.Proofs.YtjfikkjaifdkiaaGreatDoor
open Go.ChangeShapes Go.WideShapes Go.RowKit

theorem own : ownKnob Tryz.prog.godebug = none := by kernel_rfl
theorem laidOut : laidOutB Tryz.prog = true := by kernel_rfl
theorem et8 : Tryz.prog.globalNamed "errors.errorType" = some 0 := by kernel_rfl
theorem rt8 : (Tryz.prog.cutTypes.find? (·.1 == "internal/reflectlite.rtype")).map (·.2) = some 171 := by kernel_rfl
theorem oneRow8 : ((List.range 237).filter fun t => Tryz.prog.rowNamed t [101, 114, 114, 111, 114]) = [87] := by kernel_rfl
theorem size8 : Tryz.prog.types.size = 237 := by kernel_rfl

/-- What the condition gives a walk: the variable's one cell. -/
theorem gl_of_laid {W : World} (h : laidMetH Tryz.prog [("errors.errorType", Rows.laid_errors_errorType)] W) : Gl W := by
  have h' : laidMet Tryz.prog [] W ∧ handlesMet Tryz.prog [("errors.errorType", Rows.laid_errors_errorType)] W := h
  obtain ⟨name, u, ty, e1, e2, e3, e4, e5⟩ := h'.2 _ (List.mem_singleton.2 rfl)
  have en : name = [101, 114, 114, 111, 114] := (Option.some.inj e1).symm
  subst en
  obtain rfl := Option.some.inj (rt8.symm.trans e2)
  have hm : ty ∈ (List.range 237).filter fun t => Tryz.prog.rowNamed t [101, 114, 114, 111, 114] := List.mem_filter.2 ⟨List.mem_range.2 (by rw [← size8]; exact e3), e4⟩
  rw [oneRow8] at hm
  obtain rfl := List.mem_singleton.1 hm
  have hh : typeHandle Tryz.prog 87 = .pointer (some ⟨2, 87, none⟩) := by kernel_rfl
  rw [hh] at e5
  have h9 := World.var?_cell et8 e5 0
  unfold Gl
  simpa using h9
theorem gl_pos {W : World} (h : Gl W) : 0 < W.heap.size := by
  rcases Nat.eq_zero_or_pos W.heap.size with h0 | h9
  · simp [Gl, World.cell?, h0] at h
  · exact h9

/-- A world that meets the condition: the settled one, the variable's cell laid. -/
noncomputable def laidWorld (os : Os) : World :=
  let w0 := World.holding Tryz.prog os ⟨#[], #[], []⟩
  { w0 with heap := w0.heap.modify 0 fun
      | .cells _ t frozen => .cells #[.iface 171 (.agg #[.pointer (some ⟨2, 87, none⟩)])] t frozen
      | o => o }
theorem laidWorld_met (os : Os) (args : Array Value) : laidMetH Tryz.prog [("errors.errorType", Rows.laid_errors_errorType)] ((laidWorld os).forCall (fun _ _ => 0) ⟨#[], args, []⟩).memory :=
  laidMetH_of_parts (laidMet_nil _ _) (by kernel_rfl)
end Go.Proofs.YtjfikkjaifdkiaaGreatDoor

namespace Go.Proofs.YtjfikkjaifdkiaaGreatDoor
open Go.ChangeShapes Go.WideShapes Go.ChangeAt Go.RowKit Go.ChangeMaps

section
variable {H : Type} {enc : TypeId × Value → H} {P : Program} {W : World}

/-- ARGS, all at once: below the heap's old size nothing has turned. -/
theorem Below.trodAll (hl : laidOutB P = true) {W' : World} (hb : Below W.heap.size W W') : ∀ {ts : List TypeId} {vs : List Value} {ds : List (DataW H)} {ps : List MemPlace}, (∀ t ∈ ts, P.readableRec t = true ∧ t < P.types.size) →
    DataW.TrodAll enc P W 0 (fun _ => true) true ts vs ds ps → (∀ x ∈ ps, x.block < W.heap.size) → DataW.TrodAll enc P W' 0 (fun b => decide (b < W.heap.size)) true ts vs ds ps
  | [], [], [], _, _, h, _ => h
  | _ :: _, _ :: _, _ :: _, _, ht, ⟨p, q, h1, h2, e⟩, hlt =>
    ⟨p, q, h1.elim fun n hn => Below.trod hl (ht _ (by simp)).1 (ht _ (by simp)).2 ⟨n, hn⟩ hb (fun x hx => hlt x (by rw [e]; exact List.mem_append_left _ hx)),
      Below.trodAll hl hb (fun t h => ht t (by simp [h])) h2 (fun x hx => hlt x (by rw [e]; exact List.mem_append_right _ hx)), e⟩

/-- POST of a law: true; the arguments as they were. -/
theorem law_post (hl : laidOutB P = true) {f : Func} {s : ChangeSpec} {W' : World} {args : Array Value} {ds gs : List (DataW H)} {before : List MemPlace} {tb : TypeId}
    (hts : ∀ t ∈ f.params.toList, P.readableRec t = true ∧ t < P.types.size) (hres : f.resultTypes = #[tb]) (hbt : P.underlying tb = some .bool) (hsv : s.vars = [])
    (hW : DataW.Whole enc P f.params.toList s.vars false W args.toList ds gs before) (hfn : s.fn H (ds ++ gs) = { results := [.lit (.bool true)], args := ds }) (hb : Below W.heap.size W W') :
    s.post enc P f false true false false W args (.bool true) W' := by
  have hlt := hW.lt
  have hW' := hW
  obtain ⟨p, q, hA, hV, rfl, _, _⟩ := hW
  rw [hsv] at hV
  obtain ⟨rfl, rfl⟩ := trodVars_none hV
  refine ⟨ds, [], p ++ [], [], p, [], hW', ?_, ?_, ?_, hb.frame _, fun h => by cases h⟩
  · rw [hfn, hres]
    exact trodAll_mk1 (shut_bool hbt true)
  · rw [hfn]
    exact Below.trodAll hl hb hts hA (fun x hx => by simpa using hlt x (by simpa using hx))
  · rw [hfn, hsv]
    rfl

theorem data_le {s : ByteArray} (h : s.size ≤ maxLen) : s.data.toList.length ≤ 9223372036854775807 := by
  have e : s.data.toList.length = s.size := rfl
  rw [e]; unfold maxLen at h; omega

/-- A text. -/
theorem open_str {r : Reach} {b0 : Nat} {t : TypeId} {v : Value} {d : DataW H} {ps : List MemPlace} (ht : P.underlying t = some .string) (hval : Value.okWide P W r b0 t v) (hd : DataW.Trod enc P W 0 (fun _ => true) true t v d ps) : ∃ l : List UInt8, v = .string (S l) ∧ l.length ≤ 9223372036854775807 := by
  obtain ⟨s, rfl, _, _, hs⟩ := open_string ht hval hd
  exact ⟨s.data.toList, rfl, data_le hs⟩

/-- A list of structs of a number and a text. -/
theorem open_toks {r : Reach} {b0 : Nat} {t e : TypeId} {f0 f1 : Field} {v : Value} {d : DataW H} {ps : List MemPlace} (ht : P.underlying t = some (.slice e)) (hval : Value.okWide P W r b0 t v) (he : P.underlying e = some (.struct #[f0, f1]))
    (ce : P.cellsOf e = 2) (o0 : f0.offset = 0) (o1 : f1.offset = 1) (c0 : P.cellsOf f0.type = 1) (c1 : P.cellsOf f1.type = 1) (u0 : P.underlying f0.type = some (.int .i64)) (u1 : P.underlying f1.type = some .string)
    (hd : DataW.Trod enc P W 0 (fun _ => true) true t v d ps) (hlt : ∀ x ∈ ps, x.block < W.heap.size) :
    ∃ l : List (Int × List UInt8), Rt W v l ∧ l.length ≤ 9223372036854775807 ∧ (∀ x ∈ l, x.2.length ≤ 9223372036854775807) ∧ ∀ x ∈ l, -9223372036854775808 ≤ x.1 ∧ x.1 ≤ 9223372036854775807 := by
  obtain ⟨a', len', cap', rfl⟩ := okWide_slice ht hval
  obtain ⟨fuel, hf⟩ := hd
  rcases Go.Deep.open_slice_pairs ht he ce o0 o1 c0 c1 hf with ⟨hc, _⟩ | ⟨a, len, cap, m, k, V0, V1, D0, D1, P0, P1, hc, _, hl, hm, hmm, hx, hall⟩
  · simp [Value.cells] at hc
    obtain ⟨rfl, rfl, rfl⟩ := hc
    exact ⟨[], ⟨rfl, .inl ⟨.inl rfl, rfl⟩⟩, by simp, by simp, by simp⟩
  · simp [Value.cells] at hc
    obtain ⟨rfl, rfl, rfl⟩ := hc
    simp only [if_true] at hmm
    subst hmm
    have key : ∀ i, i < m → ∃ (z : Int) (s : List UInt8), V0 i = .int .i64 z ∧ V1 i = .string (S s) ∧ s.length ≤ 9223372036854775807 ∧ (Lit.int .i64 z).wf = true := fun i hi => by
      obtain ⟨z, h1, _, h3⟩ := DataW.trod_int u0 (hall i hi).2.2.1
      obtain ⟨s, h4, _, h5⟩ := DataW.trod_string u1 (hall i hi).2.2.2
      simp only [List.cons.injEq, and_true] at h1 h4
      exact ⟨z, s.data.toList, h1, by rw [h4]; rfl, data_le h5, h3⟩
    have key2 : ∃ g : Nat → Int × List UInt8, ∀ i, i < m → V0 i = .int .i64 (g i).1 ∧ V1 i = .string (S (g i).2) ∧ (g i).2.length ≤ 9223372036854775807 ∧ (Lit.int .i64 (g i).1).wf = true := by
      refine ⟨fun i => if h : i < m then ((key i h).choose, (key i h).choose_spec.choose) else (0, []), fun i hi => ?_⟩
      simp only [hi, dite_true]
      exact (key i hi).choose_spec.choose_spec
    obtain ⟨g, hg⟩ := key2
    have hlen : ((List.range len').map g).length = len' := by simp
    refine ⟨(List.range len').map g, ⟨tcs_length _, ?_⟩, by rw [hlen]; unfold maxLen at hm; omega, ?_, ?_⟩
    · rw [hlen]
      by_cases h0 : len' = 0
      · subst h0
        exact .inl ⟨.inr ⟨_, _, rfl⟩, rfl⟩
      · obtain ⟨b, o, spot⟩ := a
        have hspot : spot = none := by simpa [Addr.add] using World.cell?_spot (hall 0 (by omega)).1
        subst hspot
        refine .inr ⟨b, o, m, rfl, fun _ => ?_, fun j u hj => ?_, by omega⟩
        · exact hlt (.cell b o) (by
            simp only [Prod.mk.injEq] at hx
            rw [hx.2]
            exact List.mem_append_left _ (MemPlace.mem_row.2 ⟨0, by omega, by simp⟩))
        · have hj2 : j < len' * 2 := by
            have := (List.getElem?_eq_some_iff.1 hj).1
            rw [tcs_length, hlen] at this
            exact this
          obtain ⟨i, hi, rfl | rfl⟩ : ∃ i, i < len' ∧ (j = i * 2 ∨ j = i * 2 + 1) := ⟨j / 2, by omega, by omega⟩
          · have h1 := (tcs_at ((List.range len').map g) i (by rw [hlen]; exact hi)).1
            rw [h1] at hj
            cases hj
            have h2 := (hall i (by omega)).1
            rw [addr_add] at h2
            rw [h2, (hg i (by omega)).1]
            simp
          · have h1 := (tcs_at ((List.range len').map g) i (by rw [hlen]; exact hi)).2
            rw [h1] at hj
            cases hj
            have h2 := (hall i (by omega)).2.1
            rw [addr_add] at h2
            rw [show o + (i * 2 + 1) = o + (i * 2 + 1) from rfl, h2, (hg i (by omega)).2.1]
            simp
    · intro x hx2
      obtain ⟨i, hi, rfl⟩ := List.mem_map.1 hx2
      exact (hg i (by have := List.mem_range.1 hi; omega)).2.2.1
    · intro x hx2
      obtain ⟨i, hi, rfl⟩ := List.mem_map.1 hx2
      have := (hg i (by have := List.mem_range.1 hi; omega)).2.2.2
      simp [Lit.wf, IntKind.min, IntKind.max, IntKind.signed, IntKind.bits] at this
      exact this
end

end Go.Proofs.YtjfikkjaifdkiaaGreatDoor

namespace Go.Proofs.YtjfikkjaifdkiaaGreatDoor
open Go.ChangeShapes Go.WideShapes Go.ChangeAt Go.RowKit Go.ChangeMaps

section
variable {H : Type} {enc : TypeId × Value → H} {P : Program} {W : World}

/-- A list of structs of two texts. -/
theorem open_files {r : Reach} {b0 : Nat} {t e : TypeId} {f0 f1 : Field} {v : Value} {d : DataW H} {ps : List MemPlace} (ht : P.underlying t = some (.slice e)) (hval : Value.okWide P W r b0 t v) (he : P.underlying e = some (.struct #[f0, f1]))
    (ce : P.cellsOf e = 2) (o0 : f0.offset = 0) (o1 : f1.offset = 1) (c0 : P.cellsOf f0.type = 1) (c1 : P.cellsOf f1.type = 1) (u0 : P.underlying f0.type = some .string) (u1 : P.underlying f1.type = some .string)
    (hd : DataW.Trod enc P W 0 (fun _ => true) true t v d ps) (hlt : ∀ x ∈ ps, x.block < W.heap.size) :
    ∃ l : List Fl, Rf W v l ∧ l.length ≤ 9223372036854775807 ∧ ∀ x ∈ l, x.1.length ≤ 9223372036854775807 ∧ x.2.length ≤ 9223372036854775807 := by
  obtain ⟨a', len', cap', rfl⟩ := okWide_slice ht hval
  obtain ⟨fuel, hf⟩ := hd
  rcases Go.Deep.open_slice_pairs ht he ce o0 o1 c0 c1 hf with ⟨hc, _⟩ | ⟨a, len, cap, m, k, V0, V1, D0, D1, P0, P1, hc, _, hl, hm, hmm, hx, hall⟩
  · simp [Value.cells] at hc
    obtain ⟨rfl, rfl, rfl⟩ := hc
    exact ⟨[], ⟨rfl, .inl ⟨.inl rfl, rfl⟩⟩, by simp, by simp⟩
  · simp [Value.cells] at hc
    obtain ⟨rfl, rfl, rfl⟩ := hc
    simp only [if_true] at hmm
    subst hmm
    have key : ∀ i, i < m → ∃ (z s : List UInt8), V0 i = .string (S z) ∧ V1 i = .string (S s) ∧ s.length ≤ 9223372036854775807 ∧ z.length ≤ 9223372036854775807 := fun i hi => by
      obtain ⟨z, h1, _, h3⟩ := DataW.trod_string u0 (hall i hi).2.2.1
      obtain ⟨s, h4, _, h5⟩ := DataW.trod_string u1 (hall i hi).2.2.2
      simp only [List.cons.injEq, and_true] at h1 h4
      exact ⟨z.data.toList, s.data.toList, by rw [h1]; rfl, by rw [h4]; rfl, data_le h5, data_le h3⟩
    have key2 : ∃ g : Nat → Fl, ∀ i, i < m → V0 i = .string (S (g i).1) ∧ V1 i = .string (S (g i).2) ∧ (g i).2.length ≤ 9223372036854775807 ∧ (g i).1.length ≤ 9223372036854775807 := by
      refine ⟨fun i => if h : i < m then ((key i h).choose, (key i h).choose_spec.choose) else ([], []), fun i hi => ?_⟩
      simp only [hi, dite_true]
      exact (key i hi).choose_spec.choose_spec
    obtain ⟨g, hg⟩ := key2
    have hlen : ((List.range len').map g).length = len' := by simp
    refine ⟨(List.range len').map g, ⟨fcs_length _, ?_⟩, by rw [hlen]; unfold maxLen at hm; omega, ?_⟩
    · rw [hlen]
      by_cases h0 : len' = 0
      · subst h0
        exact .inl ⟨.inr ⟨_, _, rfl⟩, rfl⟩
      · obtain ⟨b, o, spot⟩ := a
        have hspot : spot = none := by simpa [Addr.add] using World.cell?_spot (hall 0 (by omega)).1
        subst hspot
        refine .inr ⟨b, o, m, rfl, fun _ => ?_, fun j u hj => ?_, by omega⟩
        · exact hlt (.cell b o) (by
            simp only [Prod.mk.injEq] at hx
            rw [hx.2]
            exact List.mem_append_left _ (MemPlace.mem_row.2 ⟨0, by omega, by simp⟩))
        · have hj2 : j < len' * 2 := by
            have := (List.getElem?_eq_some_iff.1 hj).1
            rw [fcs_length, hlen] at this
            exact this
          obtain ⟨i, hi, rfl | rfl⟩ : ∃ i, i < len' ∧ (j = i * 2 ∨ j = i * 2 + 1) := ⟨j / 2, by omega, by omega⟩
          · have h1 := (fcs_at ((List.range len').map g) i (by rw [hlen]; exact hi)).1
            rw [h1] at hj
            cases hj
            have h2 := (hall i (by omega)).1
            rw [addr_add] at h2
            rw [h2, (hg i (by omega)).1]
            simp
          · have h1 := (fcs_at ((List.range len').map g) i (by rw [hlen]; exact hi)).2
            rw [h1] at hj
            cases hj
            have h2 := (hall i (by omega)).2.1
            rw [addr_add] at h2
            rw [show o + (i * 2 + 1) = o + (i * 2 + 1) from rfl, h2, (hg i (by omega)).2.1]
            simp
    · intro x hx2
      obtain ⟨i, hi, rfl⟩ := List.mem_map.1 hx2
      have := hg i (by have := List.mem_range.1 hi; omega)
      exact ⟨this.2.2.2, this.2.2.1⟩

/-- A file. -/
theorem open_file {r : Reach} {b0 : Nat} {t : TypeId} {f0 f1 : Field} {v : Value} {d : DataW H} {ps : List MemPlace} (ht : P.underlying t = some (.struct #[f0, f1])) (hval : Value.okWide P W r b0 t v)
    (ce : P.cellsOf t = 2) (o0 : f0.offset = 0) (o1 : f1.offset = 1) (c0 : P.cellsOf f0.type = 1) (c1 : P.cellsOf f1.type = 1) (u0 : P.underlying f0.type = some .string) (u1 : P.underlying f1.type = some .string)
    (hd : DataW.Trod enc P W 0 (fun _ => true) true t v d ps) :
    ∃ f : Fl, v = .agg #[.string (S f.1), .string (S f.2)] ∧ f.1.length ≤ 9223372036854775807 ∧ f.2.length ≤ 9223372036854775807 := by
  have h1 : ∃ cs, v = .agg cs ∧ cs.size = P.cellsOf t ∧ Row.okWide P W r b0 t cs := by
    unfold Value.okWide at hval
    rw [ht] at hval
    exact hval
  obtain ⟨cs, rfl, hsz, _⟩ := h1
  rw [ce] at hsz
  obtain ⟨cl⟩ := cs
  match cl, hsz with
  | [a, b], _ =>
    obtain ⟨fuel, hf⟩ := hd
    have hf : DataW.trod enc P W 0 (fun _ => true) true fuel t [a, b] = some (d, ps) := by simpa [Value.cells] using hf
    obtain ⟨y0, y1, n, _, _, h0, h1⟩ := trod_struct2 ht hf
    rw [o0, c0] at h0
    rw [o1, c1] at h1
    obtain ⟨z, e0, _, l0⟩ := DataW.trod_string u0 h0
    obtain ⟨s, e1, _, l1⟩ := DataW.trod_string u1 h1
    simp at e0 e1
    subst e0 e1
    exact ⟨(z.data.toList, s.data.toList), rfl, data_le l0, data_le l1⟩

/-- A list of truth values. -/
theorem open_boolsR {r : Reach} {b0 : Nat} {t e : TypeId} {v : Value} {d : DataW H} {ps : List MemPlace} (ht : P.underlying t = some (.slice e)) (hval : Value.okWide P W r b0 t v) (he : P.underlying e = some .bool) (ce : P.cellsOf e = 1)
    (hd : DataW.Trod enc P W 0 (fun _ => true) true t v d ps) (hlt : ∀ x ∈ ps, x.block < W.heap.size) :
    ∃ bs : List Bool, Rd W 1 v bs.length (bs.map Value.bool) ∧ bs.length ≤ 9223372036854775807 := by
  obtain ⟨a', len', cap', rfl⟩ := okWide_slice ht hval
  obtain ⟨fuel, hf⟩ := hd
  rcases Go.Deep.open_bools ht he ce hf with ⟨hc, _⟩ | ⟨a, len, cap, B, hc, _, hl, hm, hx, hall⟩
  · simp [Value.cells] at hc
    obtain ⟨rfl, rfl, rfl⟩ := hc
    exact ⟨[], ⟨rfl, .inl ⟨.inl rfl, rfl⟩⟩, by simp⟩
  · simp [Value.cells] at hc
    obtain ⟨rfl, rfl, rfl⟩ := hc
    have hps : ps = MemPlace.row a cap' := by simp only [Prod.mk.injEq] at hx; exact hx.2
    have hlen : ((List.range len').map B).length = len' := by simp
    refine ⟨(List.range len').map B, ⟨by simp, ?_⟩, by rw [hlen]; unfold maxLen at hm; omega⟩
    rw [hlen]
    by_cases h0 : len' = 0
    · subst h0
      exact .inl ⟨.inr ⟨_, _, rfl⟩, rfl⟩
    · obtain ⟨b, o, spot⟩ := a
      have hspot : spot = none := by simpa [Addr.add] using World.cell?_spot (hall 0 (by omega))
      subst hspot
      refine .inr ⟨b, o, cap', rfl, fun _ => ?_, fun j u hj => ?_, by omega⟩
      · exact hlt (.cell b o) (by
          rw [hps]
          exact MemPlace.mem_row.2 ⟨0, by omega, by simp⟩)
      · have hj2 : j < len' := by
          have := (List.getElem?_eq_some_iff.1 hj).1
          simpa using this
        rw [List.getElem?_map, List.getElem?_map, List.getElem?_range hj2] at hj
        simp at hj
        subst hj
        have h2 := hall j (by omega)
        rw [addr_add] at h2
        exact h2
end

end Go.Proofs.YtjfikkjaifdkiaaGreatDoor

namespace Go.Proofs.YtjfikkjaifdkiaaGreatDoor
open Go.ChangeShapes Go.WideShapes Go.ChangeAt Go.RowKit Go.ChangeMaps

theorem u8_rangeX {z : Int} (h : (Lit.int .u8 z).wf = true) : 0 ≤ z ∧ z ≤ 255 := by
  simp [Lit.wf, IntKind.min, IntKind.max, IntKind.signed, IntKind.bits] at h
  exact h
section
variable {H : Type} {enc : TypeId × Value → H} {P : Program} {W : World}

/-- Two numbers. -/
theorem open_ints2 {r : Reach} {b0 : Nat} {t e : TypeId} {k : IntKind} {v : Value} {d : DataW H} {ps : List MemPlace} (ht : P.underlying t = some (.array 2 e)) (ct : P.cellsOf t = 2) (hval : Value.okWide P W r b0 t v) (he : P.underlying e = some (.int k)) (cE : P.cellsOf e = 1)
    (hd : DataW.Trod enc P W 0 (fun _ => true) true t v d ps) :
    ∃ y z, v = .agg #[.int k y, .int k z] ∧ (Lit.int k y).wf = true ∧ (Lit.int k z).wf = true := by
  have h1 : ∃ cs, v = .agg cs ∧ cs.size = P.cellsOf t ∧ Row.okWide P W r b0 t cs := by
    unfold Value.okWide at hval
    rw [ht] at hval
    exact hval
  obtain ⟨cs, rfl, hsz, _⟩ := h1
  rw [ct] at hsz
  obtain ⟨cl⟩ := cs
  match cl, hsz with
  | [a, b], _ =>
    obtain ⟨fuel, hf⟩ := hd
    have hf : DataW.trod enc P W 0 (fun _ => true) true fuel t [a, b] = some (d, ps) := by simpa [Value.cells] using hf
    obtain ⟨xs, m, _, hx, _, hl, hall⟩ := DataW.trod_array ht hf
    have key : ∀ (i : Nat) (hi : i < 2) (u : Value), (([a, b] : List Value).drop (i * 1)).take 1 = [u] → ∃ z, u = .int k z ∧ (Lit.int k z).wf = true := fun i hi u hu => by
      have h := hall i hi
      rw [cE, hu, List.getElem?_eq_getElem (by omega)] at h
      obtain ⟨z, h1, _, h3⟩ := DataW.trod_int he h
      simp only [List.cons.injEq, and_true] at h1
      exact ⟨z, h1, h3⟩
    obtain ⟨y, rfl, h3⟩ := key 0 (by omega) a rfl
    obtain ⟨z, rfl, h5⟩ := key 1 (by omega) b rfl
    exact ⟨y, z, rfl, h3, h5⟩

/-- Two texts. -/
theorem open_strs2 {r : Reach} {b0 : Nat} {t e : TypeId} {v : Value} {d : DataW H} {ps : List MemPlace} (ht : P.underlying t = some (.array 2 e)) (ct : P.cellsOf t = 2) (hval : Value.okWide P W r b0 t v) (he : P.underlying e = some .string) (cE : P.cellsOf e = 1)
    (hd : DataW.Trod enc P W 0 (fun _ => true) true t v d ps) :
    ∃ x y : List UInt8, v = .agg #[.string (S x), .string (S y)] ∧ x.length ≤ 9223372036854775807 ∧ y.length ≤ 9223372036854775807 := by
  have h1 : ∃ cs, v = .agg cs ∧ cs.size = P.cellsOf t ∧ Row.okWide P W r b0 t cs := by
    unfold Value.okWide at hval
    rw [ht] at hval
    exact hval
  obtain ⟨cs, rfl, hsz, _⟩ := h1
  rw [ct] at hsz
  obtain ⟨cl⟩ := cs
  match cl, hsz with
  | [a, b], _ =>
    obtain ⟨fuel, hf⟩ := hd
    have hf : DataW.trod enc P W 0 (fun _ => true) true fuel t [a, b] = some (d, ps) := by simpa [Value.cells] using hf
    obtain ⟨xs, m, _, hx, _, hl, hall⟩ := DataW.trod_array ht hf
    have key : ∀ (i : Nat) (hi : i < 2) (u : Value), (([a, b] : List Value).drop (i * 1)).take 1 = [u] → ∃ z : List UInt8, u = .string (S z) ∧ z.length ≤ 9223372036854775807 := fun i hi u hu => by
      have h := hall i hi
      rw [cE, hu, List.getElem?_eq_getElem (by omega)] at h
      obtain ⟨z, h1, _, h3⟩ := DataW.trod_string he h
      simp only [List.cons.injEq, and_true] at h1
      exact ⟨z.data.toList, by rw [h1]; rfl, data_le h3⟩
    obtain ⟨y, rfl, h3⟩ := key 0 (by omega) a rfl
    obtain ⟨z, rfl, h5⟩ := key 1 (by omega) b rfl
    exact ⟨y, z, rfl, h3, h5⟩
end
end Go.Proofs.YtjfikkjaifdkiaaGreatDoor

namespace Go.Proofs.YtjfikkjaifdkiaaGreatDoor
open Go.ChangeShapes Go.WideShapes Go.ChangeAt Go.RowKit

set_option maxRecDepth 100000 in
theorem expandTells_lifted (os : Os) (started : os.Started) (H : Type) (enc : TypeId × Value → H) :
    ReturnsInHanded {} Tryz.checked os 3 .any (fun w args => (Rows.expandTellsSpec.pre enc Tryz.prog Tryz.f3 [] false w args ∧ laidMetH Tryz.prog [("errors.errorType", Rows.laid_errors_errorType)] w) ∧ sizedMet enc Tryz.prog Tryz.f3 (OpenSpec.ofChange Rows.expandTellsSpec) false w args)
      (Rows.expandTellsSpec.post enc Tryz.prog Tryz.f3 false true false false) := by
  refine returnsInHanded_of_change_and (C := Tryz.checked) (X := fun w _ => laidMetH Tryz.prog [("errors.errorType", Rows.laid_errors_errorType)] w) (fun _ _ _ hh h => h.of_heap hh) own started (by kernel_rfl) Tryz.func3
    (ChangeSpec.witness_at (enc := enc) (C := Tryz.checked) (os := os) (X := fun w _ => laidMetH Tryz.prog [("errors.errorType", Rows.laid_errors_errorType)] w) false (laidWorld os) #[.slice none 0 0, .string ⟨#[]⟩, .agg #[.int .i64 0, .int .i64 0]] 8 rfl (by kernel_rfl) (by kernel_rfl) (by kernel_rfl) (by kernel_rfl) (by kernel_rfl) (laidWorld_met os _)) ?_
  intro W base args ds gs before hval0 hW _ _ hL _
  have hval : ∀ (j : Nat) t v, Tryz.f3.params[j]? = some t → args[j]? = some v → Value.okWide Tryz.prog W .any base t v := hval0
  clear hval0
  have hg := gl_of_laid hL
  have hg0 := gl_pos hg
  have hW' := hW
  have hlt := hW.lt
  obtain ⟨p, q, hA0, hV, rfl, _, _⟩ := hW'
  have hA : DataW.TrodAll enc Tryz.prog W 0 (fun _ => true) true Tryz.f3.params.toList args.toList ds p := hA0
  rw [Tryz.params3] at hA hval
  obtain ⟨v0, v1, v2, d0, d1, d2, p0, p1, p2, rfl, rfl, rfl, h0, h1, h2⟩ := trodAll_three hA
  obtain ⟨rfl, rfl⟩ := trodVars_none hV
  obtain ⟨l0, hl0, _, hle0⟩ := open_files Tryz.underlying22 (hval 0 22 v0 rfl rfl) Tryz.underlying45 (by kernel_rfl) rfl rfl (by kernel_rfl) (by kernel_rfl) Tryz.underlying9 Tryz.underlying9 h0 (fun x hx => hlt x (by simp [hx]))
  obtain ⟨s1, rfl, hs1⟩ := open_str Tryz.underlying9 (hval 1 9 v1 rfl rfl) h1
  obtain ⟨y2, z2, rfl, hy2, hz2⟩ := open_ints2 Tryz.underlying23 (by kernel_rfl) (hval 2 23 v2 rfl rfl) Tryz.underlying3 (by kernel_rfl) h2
  refine (expandTells_any v0 l0 s1 y2 z2 W hl0 hle0 hg hg0).mono fun e W' ⟨he, hb⟩ => ?_
  subst he
  exact ⟨_, rfl, law_post laidOut (by rw [Tryz.params3]; decide +kernel) rfl Tryz.underlying4 rfl hW rfl hb⟩

/-- 'ExpandTells': WHATEVER THE INPUT: true. -/
theorem expandTells_holds : Rows.ExpandTellsSaid :=
  OpenClaim.holds_of_wide 3 Tryz.f3 rfl rfl rfl rfl rfl rfl rfl ⟨rfl, rfl, rfl, rfl, rfl⟩ rfl rfl rfl rfl rfl (by kernel_rfl) Tryz.func3 (by kernel_rfl)
    (of_decide_eq_true (by kernel_rfl)) (by unfold Func.isWrapper; rw [if_neg (of_decide_eq_false (by kernel_rfl))]; exact ⟨rfl, rfl⟩)
    (fun os started H enc _ => expandTells_lifted os started H enc)

/-- THE TIED CARD of 'ExpandTells'. -/
theorem expandTells_card : Rows.ExpandTellsCardSaid :=
  Claim7.holds_tied_plain_at .later [] [.handle] true (true, "0982722b522cb2d7f01081fac0bf8b5533fae7a56b1907291b85583075b1f3cb") true
    expandTells_holds (fun _ h => by cases h) (by kernel_rfl) (fun _ h => by cases h) expandTells_row_tie rfl ⟨rfl, rfl⟩ (by kernel_rfl) rfl
    (fun f fn hf hfn => by
      obtain rfl : f = 3 := Option.some.inj ((show Tryz.prog.funcNamed "stet/stetlaw08.ExpandTells" = some 3 by kernel_rfl).symm.trans hf) |>.symm
      obtain rfl : fn = Tryz.f3 := (Option.some.inj (Tryz.func3.symm.trans hfn)).symm
      exact ⟨by kernel_rfl, fun j t ht => by
        rw [Tryz.params3] at ht
        rcases j with _ | _ | _ | j
        · obtain rfl : t = 22 := by simpa using ht.symm
          exact (show Tryz.prog.wantsStandIn 22 = false by kernel_rfl)
        · obtain rfl : t = 9 := by simpa using ht.symm
          exact (show Tryz.prog.wantsStandIn 9 = false by kernel_rfl)
        · obtain rfl : t = 23 := by simpa using ht.symm
          exact (show Tryz.prog.wantsStandIn 23 = false by kernel_rfl)
        · simp at ht⟩)
    (by kernel_rfl)

end Go.Proofs.YtjfikkjaifdkiaaGreatDoor
