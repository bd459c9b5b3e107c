
/- Append at a step of a region that draws its order. Of no program. No condition. -/
import Derived.Test.YtemdhbeegheefaaGrHeap
import Derived.Deep.AppendLies
import Derived.Deep.RegionHeld3
namespace Go.Proofs.Ytemdhbeegheefaa
open Go.RowKit

/-- 'v = append(v, x)' at a step: x lies in a block of its own. -/
theorem step_grow {P : Program} {ops : Array Oper} {o : Oper} {a : Act} {K : Act → World → Prop} {Q : Exit → Act → World → Prop} {E : Prop} {w0 W : World} {t e k bytes : Nat} {v : Value} {n : Nat} {xs news : List Value} (T : SlTy P t e k bytes) (hgd : o.guard = none) (s x : Operand)
    (ho : o.op = .call { callee := .builtin .append, args := #[s, x], argTypes := #[t, t] }) (B : Nat) (hown : w0.ownsRow B e k v n xs) (hs : a.eval s = v) {g : Nat} (hx : a.eval x = .slice (some ⟨g, 0, none⟩) 1 1) (hg : g = w0.heap.size)
    (hW : W = w0.alloc (.cells news.toArray e)) (hn : news.length = k) (h1 : ∀ u ∈ news, u.oneCell' = true) (hlen : (n + 1) * bytes ≤ 140737488355328) (hlen2 : n ≤ 1000000000000000) (hB : B ≤ w0.heap.size)
    (h : ∀ gg cap w', w'.ownsRow B e k (.slice (some ⟨gg, 0, none⟩) (n + 1) cap) (n + 1) (xs ++ news) → w0.grownBy w' v.ownBlock → Near w0 v (.slice (some ⟨gg, 0, none⟩) (n + 1) cap) → Below B w0 w' → K (a.put o.dst (.slice (some ⟨gg, 0, none⟩) (n + 1) cap)) w') :
    if Region.wanted o (yielded ops a.tmps) = true then Oper.wp P o a W K Q else E := by
  subst hg
  subst hW
  obtain ⟨i, z, hi, hz, hsz, hby, hzs⟩ := T.hi
  refine step_append_lies _ hgd s x t ho B e i z k bytes T.ht hi hz hsz hby hzs T.hk v n xs hs (hown.alloc _) ⟨w0.heap.size, 0, none⟩ 1 1 news hx (by omega) (fun j u hj => ?_) h1 (by omega) (by unfold maxLen; omega) hlen (by simp; omega) (w0.heap.size + 1) (by simp) ?_
  · show (w0.alloc (.cells news.toArray e)).cell? _ = _
    rw [addr_add, cell_of_row _ w0.heap.size _ news.toArray e (0, 0) (heap_alloc_new w0 _)]
    simpa using hj
  · intro gg cap w' h2 h3 h4 _
    have hg2 : w0.grownBy w' v.ownBlock := grownBy_trans (World.grownBy_alloc w0 (.cells news.toArray e) v.ownBlock) h3
    refine h gg cap w' h2 hg2 ?_ ((Below.refl B w0).grown hg2 hB (fun j hj => (hown.lt j hj).1))
    rcases h4 with h | h
    · exact .inl h.symm
    · exact .inr ⟨gg, rfl, by omega⟩

/-! ### By hand: a region whose operations are listed -/
section
variable {P : Program} {Q : Exit → Act → World → Prop} {md : Region.Mode} {S : World → Prop}
theorem ops_at {l rest : List Oper} {i : Nat} {oi : Oper} (hd : l.drop i = oi :: rest) : l.toArray[i]? = some oi := by
  have := congrArg (fun k : List Oper => k[0]?) hd
  simpa using this
/-- Operation i is taken first. -/
theorem takeL {l rest : List Oper} (i : Nat) {oi : Oper} {v : Value} {fuel : Nat} {listed : Array Bool} {a : Act} {w : World} (hd : l.drop i = oi :: rest)
    (hs : Region.noSelect l.toArray = true) (hf : Region.free md l.toArray listed i = true) (hr : (Region.ready md l.toArray listed).contains i = true)
    (hQ : ∀ c a w, Q (.panic c) (a.put oi.dst v) w → Q (.panic c) a w) (hS : S w) (hw : Region.wanted oi (yielded l.toArray a.tmps) = true) (hy : ∀ w, S w → (execOp a.eval oi).run P w = .ok (.value v) w)
    (h : wpAnyH P md l.toArray Q S fuel (listed.setIfInBounds i true) (a.put oi.dst v) w) : wpAnyH P md l.toArray Q S (fuel + 1) listed a w :=
  wpAnyH_take (ops_at hd) hs hf hr hQ (.inl ⟨hw, hy⟩) hS h
/-- One of those that may come up comes up. -/
theorem consL {l more : List Oper} {fuel : Nat} {listed : Array Bool} {a : Act} {w : World} {i : Nat} {o : Oper} {rs : List Nat} (ho : l.drop i = o :: more)
    (h : ∀ K' : Act → World → Prop, Shut (∀ a w, S w → (S w → wpAnyH P md l.toArray Q S fuel (listed.setIfInBounds i true) a w) → K' a w) → if Region.wanted o (yielded l.toArray a.tmps) = true then Oper.wp P o a w K' Q else K' (a.put o.dst undef) w)
    (hs : AllReadyH P md l.toArray Q S fuel listed a w rs) : AllReadyH P md l.toArray Q S fuel listed a w (i :: rs) := AllReadyH.cons (ops_at ho) h hs
end
end Go.Proofs.Ytemdhbeegheefaa
