
/- An argument that is a list of bytes, opened. No condition. -/
import Derived.Test.YtkbdfckmmjkghaaLaw
namespace Go.Proofs.Ytkbdfckmmjkghaa
open Go.ChangeShapes Go.WideShapes Go.ChangeAt Go.RowKit Go.ChangeMaps

/-- A list of bytes. -/
theorem open_bytes {H : Type} {enc : TypeId × Value → H} {P : Program} {W : World} {r : Reach} {b0 : Nat} {t e : TypeId} {v : Value} {d : DataW H} {ps : List MemPlace} (ht : P.underlying t = some (.slice e)) (hval : Value.okWide P W r b0 t v) (he : P.underlying e = some (.int .u8))
    (ce : P.cellsOf e = 1) (hd : DataW.Trod enc P W 0 (fun _ => true) true t v d ps) (hlt : ∀ x ∈ ps, x.block < W.heap.size) :
    ∃ l : List UInt8, Rd W 1 v l.length (Lib.byteCells l) ∧ l.length ≤ 9223372036854775807 := by
  obtain ⟨a', len', cap', rfl⟩ := okWide_slice ht hval
  obtain ⟨fuel, hf⟩ := hd
  rcases Go.ChangeShapes.open_ints ht he ce hf with ⟨hc, _⟩ | ⟨a, len, cap, zs, hc, _, hl, hm, hz, hx, hcell, hwf⟩
  · simp [Value.cells] at hc
    obtain ⟨rfl, rfl, rfl⟩ := hc
    exact ⟨[], ⟨rfl, .inl ⟨.inl rfl, rfl⟩⟩, by simp⟩
  · simp [Value.cells] at hc
    obtain ⟨rfl, rfl, rfl⟩ := hc
    simp only [if_true] at hz
    have hlen : ((zs.take len').map fun z => UInt8.ofNat z.toNat).length = len' := by simp; omega
    refine ⟨(zs.take len').map fun z => UInt8.ofNat z.toNat, ⟨by simp [Lib.byteCells], ?_⟩, by rw [hlen]; unfold maxLen at hm; omega⟩
    rw [hlen]
    by_cases h0 : len' = 0
    · subst h0
      exact .inl ⟨.inr ⟨_, _, rfl⟩, rfl⟩
    · obtain ⟨b, o, spot⟩ := a
      have hspot : spot = none := by simpa [Addr.add] using World.cell?_spot (hcell 0 (by omega))
      subst hspot
      refine .inr ⟨b, o, cap', rfl, fun _ => ?_, fun j u hj => ?_⟩
      · exact hlt (.cell b o) (by
          simp only [Prod.mk.injEq] at hx
          rw [hx.2]
          exact MemPlace.mem_row.2 ⟨0, by omega, by simp⟩)
      · have hj2 : j < len' := by
          have := (List.getElem?_eq_some_iff.1 hj).1
          simp [Lib.byteCells] at this
          omega
        have h2 := hcell j (by omega)
        rw [addr_add] at h2
        rw [h2]
        have hz2 : zs.getD j 0 = zs[j]'(by omega) := by simp [List.getD, show j < zs.length by omega]
        have hw := hwf _ (List.getElem_mem (show j < zs.length by omega))
        simp [Lit.wf, IntKind.min, IntKind.max, IntKind.signed, IntKind.bits] at hw
        simp only [Lib.byteCells, List.getElem?_map, List.getElem?_take, hj2, if_true, List.getElem?_eq_getElem (show j < zs.length by omega), Option.map_some, Option.some.injEq] at hj
        rw [hz2, ← hj]
        have e : (UInt8.ofNat (zs[j]'(by omega)).toNat).toNat = (zs[j]'(by omega)).toNat := by
          simp; omega
        rw [e]
        congr 2
        omega

end Go.Proofs.Ytkbdfckmmjkghaa
