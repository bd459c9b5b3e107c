
/- An argument that is an array of two lists of tokens, opened. No condition. -/
import Derived.Test.YtkpdhpbnbpjceaaLawC
import Derived.OpenShut
namespace Go.Proofs.Ytkpdhpbnbpjceaa
open Go.ChangeShapes Go.WideShapes Go.ChangeAt Go.RowKit Go.ChangeMaps

section
variable {H : Type} {enc : TypeId × Value → H} {P : Program} {W : World}

/-- Two lists of tokens. -/
theorem open_two {r : Reach} {b0 : Nat} {t e q : TypeId} {f0 f1 : Field} {v : Value} {d : DataW H} {ps : List MemPlace} (ht : P.underlying t = some (.array 2 e)) (ct : P.cellsOf t = 2) (hval : Value.okWide P W r b0 t v) (he : P.underlying e = some (.slice q)) (cE : P.cellsOf e = 1) (hq : P.underlying q = some (.struct #[f0, f1]))
    (ce : P.cellsOf q = 2) (o0 : f0.offset = 0) (o1 : f1.offset = 1) (c0 : P.cellsOf f0.type = 1) (c1 : P.cellsOf f1.type = 1) (u0 : P.underlying f0.type = some (.int .i64)) (u1 : P.underlying f1.type = some .string)
    (hd : DataW.Trod enc P W 0 (fun _ => true) true t v d ps) (hlt : ∀ x ∈ ps, x.block < W.heap.size) :
    ∃ a b l k, v = .agg #[a, b] ∧ Rt W a l ∧ Rt W b k ∧ (∀ x ∈ l, x.2.length ≤ 9223372036854775807) ∧ ∀ x ∈ k, x.2.length ≤ 9223372036854775807 := by
  have h1 : ∃ cs, v = .agg cs ∧ cs.size = P.cellsOf t ∧ Row.okWide P W r b0 t cs := by
    unfold Value.okWide at hval
    rw [ht] at hval
    exact hval
  obtain ⟨cs, rfl, hsz, _⟩ := h1
  rw [ct] at hsz
  obtain ⟨cl⟩ := cs
  match cl, hsz with
  | [a, b], _ =>
    obtain ⟨fuel, hf⟩ := hd
    have hf : DataW.trod enc P W 0 (fun _ => true) true fuel t [a, b] = some (d, ps) := by simpa [Value.cells] using hf
    obtain ⟨xs, m, _, hx, _, hl, hall⟩ := DataW.trod_array ht hf
    have hps : ps = xs.flatMap (·.2) := by simp only [Prod.mk.injEq] at hx; exact hx.2
    have key : ∀ (i : Nat) (hi : i < 2) (u : Value), (([a, b] : List Value).drop (i * 1)).take 1 = [u] → ∃ l : List (Int × List UInt8), Rt W u l ∧ ∀ x ∈ l, x.2.length ≤ 9223372036854775807 := fun i hi u hu => by
      have h := hall i hi
      rw [cE, hu, List.getElem?_eq_getElem (by omega)] at h
      obtain ⟨v, l, h1, h2, _, h3⟩ := toks_at he hq ce o0 o1 c0 c1 u0 u1 h (fun y hy => hlt y (by
        rw [hps]
        exact List.mem_flatMap.2 ⟨_, List.getElem_mem (by omega), hy⟩))
      simp only [List.cons.injEq, and_true] at h1
      subst h1
      exact ⟨l, h2, h3⟩
    obtain ⟨l, h2, h3⟩ := key 0 (by omega) a rfl
    obtain ⟨k, h4, h5⟩ := key 1 (by omega) b rfl
    exact ⟨a, b, l, k, rfl, h2, h4, h3, h5⟩
end

end Go.Proofs.Ytkpdhpbnbpjceaa
