
/- An append at a step of a region that draws its order. Of no program. No condition. -/
import Derived.Test.YtcdclkgfgieppaaKit
import Derived.Deep.RegionLaw
import Derived.BigQuiet
namespace Go.Proofs.Ytcdclkgfgieppaa
open Go.RowKit

section
variable {P : Program} {ops : Array Oper} {o : Oper} {a : Act} {K : Act → World → Prop} {Q : Exit → Act → World → Prop} {E : Prop} {w1 : World}
/-- 'v = append(v, x)', x in a block of its own. -/
theorem step_app {t e k bytes : Nat} {v : Value} {n : Nat} {xs news : List Value} (T : SlTy P t e k bytes) (hgd : o.guard = none) (s x : Operand) (ho : o.op = .call { callee := .builtin .append, args := #[s, x], argTypes := #[t, t] })
    (B : Nat) (hown : w1.ownsRow B e k v n xs) (hs : a.eval s = v) {g : Nat} (hx : a.eval x = .slice (some ⟨g, 0, none⟩) 1 1) {f : Nat × Nat} (hblk : w1.heap[g]? = some (.cells news.toArray e f))
    (hn : news.length = k) (h1 : ∀ u ∈ news, u.oneCell' = true) (hlen : (n + 1) * bytes ≤ 140737488355328) (hlen2 : n ≤ 1000000000000000) (hB : B ≤ w1.heap.size)
    (h : ∀ v' w', w'.ownsRow B e k v' (n + 1) (xs ++ news) → Below B w1 w' → w1.grownBy w' v.ownBlock → K (a.put o.dst v') w') :
    if Region.wanted o (yielded ops a.tmps) = true then Oper.wp P o a w1 K Q else E := by
  have hw : Region.wanted o (yielded ops a.tmps) = true := by simp [Region.wanted, hgd]
  rw [if_pos hw]
  obtain ⟨i, z, hi, hz, hsz, hby, hzs⟩ := T.hi
  subst hsz
  subst hby
  have hnews : ∀ j u, news[j]? = some u → w1.cell? ((⟨g, 0, none⟩ : Addr).add j) = some u := by
    intro j u hj
    rw [addr_add, cell_of_row w1 g _ news.toArray e f hblk]
    simpa using hj
  obtain ⟨v', w', hr, h2, h3, _⟩ := run_append_own (P := P) w1 B t o.type e i z i.size i.bytes T.ht hi hz rfl rfl hzs T.hk v n xs hown ⟨g, 0, none⟩ 1 1 news (by omega) hnews h1 (by unfold maxLen; omega) hlen hB
  have hfin := h v' w' h2 ((Below.refl B w1).grown h3 hB (fun j hj => (hown.lt j hj).1)) h3
  unfold Oper.wp execOp
  simp only [ho, resolve, invoke, builtin, Sem.run_bind, Sem.run_pure, Result.andThen_ok, List.map_toArray, List.map_cons, List.map_nil, hs, hx, hr]
  exact hfin
end

end Go.Proofs.Ytcdclkgfgieppaa
