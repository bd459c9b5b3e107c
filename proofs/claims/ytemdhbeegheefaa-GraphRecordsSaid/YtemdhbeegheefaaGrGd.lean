
/- What the search keeps, at its state in memory. No program in sight. No condition. -/
import Derived.Test.YtemdhbeegheefaaGrFind
namespace Go.Proofs.Ytemdhbeegheefaa
open Gr
namespace Gr

abbrev Iv (g : G) (s : St) (path : List (Nat × Nat)) : Prop := Inv g (fun x => s.idx.getD x 0) (fun x => s.low.getD x 0) (fun x => s.grp.getD x 0) (fun x => s.on.getD x false) s.stack s.cnt s.many path
/-- A state of the search that is as it ought to be. -/
structure Gd (g : G) (s : St) (path : List (Nat × Nat)) : Prop where
  iv : Iv g s path
  cn : s.idx.countP (· != 0) = s.cnt
  mn : s.many + s.stack.length ≤ s.cnt
  li : s.idx.length = g.length
  ll : s.low.length = g.length
  lo : s.on.length = g.length
  lg : s.grp.length = g.length

theorem rising_len : ∀ (l : List Nat) (m M : Nat), l.Pairwise (· < ·) → (∀ x ∈ l, m ≤ x ∧ x < M) → l.length ≤ M - m
  | [], _, _, _, _ => Nat.zero_le _
  | a :: l, m, M, h, hb => by
    have h1 := List.pairwise_cons.1 h
    have := rising_len l (a + 1) M h1.2 fun x hx => ⟨h1.1 x hx, (hb x (by simp [hx])).2⟩
    have h2 := hb a (by simp)
    rw [List.length_cons]; omega
theorem Gd.cntLe {g : G} {s : St} {path : List (Nat × Nat)} (h : Gd g s path) : s.cnt ≤ g.length := by
  rw [← h.cn, ← h.li]; exact List.countP_le_length
theorem Gd.cntLt {g : G} {s : St} {path : List (Nat × Nat)} (h : Gd g s path) {k : Nat} (hk : k < g.length) (h0 : s.idx.getD k 0 = 0) : s.cnt < g.length := by
  have hkl : k < s.idx.length := by rw [h.li]; exact hk
  have e : s.idx[k] = 0 := by simpa [List.getD_eq_getElem?_getD, hkl] using h0
  have h1 := List.countP_set (p := (· != 0)) (l := s.idx) (a := 1) hkl
  have h2 := List.countP_le_length (p := (· != 0)) (l := s.idx.set k 1)
  rw [List.length_set, h.li] at h2
  rw [e] at h1
  simp at h1
  rw [h1, h.cn] at h2
  omega
theorem Gd.pathLen {g : G} {s : St} {path : List (Nat × Nat)} (h : Gd g s path) : path.length ≤ s.cnt := by
  have := rising_len (path.map fun f => s.idx.getD f.1 0) 1 (s.cnt + 1) (by rw [List.pairwise_map]; exact h.iv.up) (fun x hx => by
    obtain ⟨f, hf, rfl⟩ := List.mem_map.1 hx
    have h1 := h.iv.seen f.1 (h.iv.grey f hf)
    have h2 := h.iv.le f.1
    exact ⟨h1, by omega⟩)
  simpa using this
theorem Gd.lt {g : G} {s : St} {path : List (Nat × Nat)} (h : Gd g s path) : ∀ x ∈ s.stack, x < g.length := fun x hx => h.iv.lt x (by have := h.iv.seen x hx; omega)

theorem Gd.enter {g : G} {s : St} {path : List (Nat × Nat)} (h : Gd g s path) {k : Nat} (hk : k < g.length) (h0 : s.idx.getD k 0 = 0) (hto : ∀ x ∈ s.stack, R g x k) : Gd g (stEnter s k) (path ++ [(k, 0)]) := by
  have hi := h.iv.enter hk h0 hto
  have e1 : (fun x => (s.idx.set k (s.cnt + 1)).getD x 0) = fun x => if x = k then s.cnt + 1 else s.idx.getD x 0 := funext fun x => getD_set9 _ _ _ _ (by rw [h.li]; exact hk) x
  have e2 : (fun x => (s.low.set k (s.cnt + 1)).getD x 0) = fun x => if x = k then s.cnt + 1 else s.low.getD x 0 := funext fun x => getD_set9 _ _ _ _ (by rw [h.ll]; exact hk) x
  have e3 : (fun x => (s.on.set k true).getD x false) = fun x => if x = k then true else s.on.getD x false := funext fun x => getD_set9 _ _ _ _ (by rw [h.lo]; exact hk) x
  refine ⟨?_, ?_, ?_, by simp [stEnter, h.li], by simp [stEnter, h.ll], by simp [stEnter, h.lo], h.lg⟩
  · show Inv g (fun x => (s.idx.set k (s.cnt + 1)).getD x 0) (fun x => (s.low.set k (s.cnt + 1)).getD x 0) (fun x => s.grp.getD x 0) (fun x => (s.on.set k true).getD x false) (s.stack ++ [k]) (s.cnt + 1) s.many (path ++ [(k, 0)])
    rw [e1, e2, e3]
    exact hi
  · show (s.idx.set k (s.cnt + 1)).countP (· != 0) = s.cnt + 1
    have hkl : k < s.idx.length := by rw [h.li]; exact hk
    have e : s.idx[k] = 0 := by simpa [List.getD_eq_getElem?_getD, hkl] using h0
    rw [List.countP_set hkl, e, h.cn]
    simp
  · show s.many + (s.stack ++ [k]).length ≤ s.cnt + 1
    have := h.mn
    simp; omega

/-- An edge to no node, or to one that is ended. -/
theorem Gd.skip {g : G} {s : St} {path : List (Nat × Nat)} {v e : Nat} (h : Gd g s (path ++ [(v, e)])) {k : Int} (hk : (g.getD v [])[e]? = some k) (hs : ∀ t : Nat, (t : Int) = k → t < g.length → s.idx.getD t 0 ≠ 0 ∧ s.on.getD t false = false) : Gd g s (path ++ [(v, e + 1)]) := by
  have hv : v ∈ s.stack := h.iv.grey (v, e) (by simp)
  refine ⟨h.iv.edge k hk (fun t ht he => (hs t ht he.2.1).1) (fun _ _ => rfl) (Nat.le_refl _) (fun t ht he hm => ?_) (h.iv.wit v hv), h.cn, h.mn, h.li, h.ll, h.lo, h.lg⟩
  have := (h.iv.on t).2 hm
  rw [(hs t ht he.2.1).2] at this
  cases this
/-- An edge to a node that did not come yet. -/
theorem Gd.go {g : G} {s : St} {path : List (Nat × Nat)} {v e k : Nat} (h : Gd g s (path ++ [(v, e)])) (hk : (g.getD v [])[e]? = some (k : Int)) (hkn : k < g.length) (h0 : s.idx.getD k 0 = 0) : Gd g (stEnter s k) (path ++ [(v, e + 1)] ++ [(k, 0)]) := by
  have hv : v ∈ s.stack := h.iv.grey (v, e) (by simp)
  have hE : E g v k := ⟨h.lt v hv, hkn, List.mem_of_getElem? hk⟩
  have h1 := h.enter hkn h0 fun x hx => (h.iv.toTop x hx).tail hE
  -- the edge is seen by now: the node has come
  have hv1 : v ≠ k := fun e' => by
    have := h.iv.seen v hv
    rw [e'] at this; omega
  have hI := h1.iv
  have hlen : k < s.idx.length := by rw [h.li]; exact hkn
  have hlow : k < s.low.length := by rw [h.ll]; exact hkn
  have hix : (stEnter s k).idx.getD k 0 = s.cnt + 1 := by show (s.idx.set k (s.cnt + 1)).getD k 0 = _; rw [getD_set9 _ _ _ _ hlen, if_pos rfl]
  refine ⟨?_, h1.cn, h1.mn, h1.li, h1.ll, h1.lo, h1.lg⟩
  have mem : ∀ f ∈ path ++ [(v, e + 1)] ++ [(k, 0)], ∃ f' ∈ path ++ [(v, e)] ++ [(k, 0)], f'.1 = f.1 := fun f hf => by
    simp only [List.mem_append, List.mem_singleton] at hf
    rcases hf with (hf | rfl) | rfl
    · exact ⟨f, by simp [hf], rfl⟩
    · exact ⟨(v, e), by simp, rfl⟩
    · exact ⟨(k, 0), by simp, rfl⟩
  have mem' : ∀ f ∈ path ++ [(v, e)] ++ [(k, 0)], ∃ f' ∈ path ++ [(v, e + 1)] ++ [(k, 0)], f'.1 = f.1 := fun f hf => by
    simp only [List.mem_append, List.mem_singleton] at hf
    rcases hf with (hf | rfl) | rfl
    · exact ⟨f, by simp [hf], rfl⟩
    · exact ⟨(v, e + 1), by simp, rfl⟩
    · exact ⟨(k, 0), by simp, rfl⟩
  have key : ∀ x t, E g x t → (∀ f ∈ path ++ [(v, e + 1)] ++ [(k, 0)], f.1 = x → ∃ j, j < f.2 ∧ (g.getD x [])[j]? = some (t : Int)) → (x = v ∧ t = k) ∨ (∀ f ∈ path ++ [(v, e)] ++ [(k, 0)], f.1 = x → ∃ j, j < f.2 ∧ (g.getD x [])[j]? = some (t : Int)) := by
    intro x t _ hp
    by_cases hx : x = v
    · obtain ⟨j, hj, hg⟩ := hp (v, e + 1) (by simp) hx.symm
      by_cases hje : j = e
      · left
        refine ⟨hx, ?_⟩
        rw [hx, hje, hk] at hg
        have := Option.some.inj hg
        omega
      · right
        intro f hf hfx
        simp only [List.mem_append, List.mem_singleton] at hf
        rcases hf with (hf | rfl) | rfl
        · exact absurd (hfx.trans hx) (h.iv.notTop f hf)
        · exact ⟨j, by simp only at hj ⊢; omega, hg⟩
        · exact absurd (hfx.trans hx).symm hv1
    · right
      intro f hf hfx
      simp only [List.mem_append, List.mem_singleton] at hf
      rcases hf with (hf | rfl) | rfl
      · exact hp f (by simp [hf]) hfx
      · exact absurd hfx.symm hx
      · exact hp (k, 0) (by simp) hfx
  have hup : (path ++ [(v, e + 1)] ++ [(k, 0)]).Pairwise fun (a b : Nat × Nat) => (stEnter s k).idx.getD a.1 0 < (stEnter s k).idx.getD b.1 0 := by
    have h2 : ((path ++ [(v, e)] ++ [(k, 0)]).map Prod.fst).Pairwise fun a b => (stEnter s k).idx.getD a 0 < (stEnter s k).idx.getD b 0 := by rw [List.pairwise_map]; exact hI.up
    have h3 : (path ++ [(v, e + 1)] ++ [(k, 0)]).map Prod.fst = (path ++ [(v, e)] ++ [(k, 0)]).map Prod.fst := by simp
    rw [← h3, List.pairwise_map] at h2
    exact h2
  refine ⟨hI.lt, hI.on, hI.sorted, hI.seen, hI.le, fun f hf => ?_, hup, hI.to, fun y hy => ?_, hI.lo, hI.wit, fun x t hx he hp => ?_, fun f hf x t hx ht h2 h3 he hp => ?_, hI.shut, hI.num, hI.onto, hI.same⟩
  · obtain ⟨f', hf', e'⟩ := mem f hf
    rw [← e']; exact hI.grey f' hf'
  · obtain ⟨f, hf, h2, h3⟩ := hI.back y hy
    obtain ⟨f', hf', e'⟩ := mem' f hf
    exact ⟨f', hf', by rw [e']; exact h2, by rw [e']; exact h3⟩
  · rcases key x t he hp with ⟨rfl, rfl⟩ | hp'
    · show (stEnter s t).idx.getD t 0 ≠ 0
      rw [hix]; omega
    · exact hI.gone x t hx he hp'
  · obtain ⟨f', hf', e'⟩ := mem f hf
    rcases key x t he hp with ⟨rfl, rfl⟩ | hp'
    · have a := hI.lo f.1 (e' ▸ hI.grey f' hf')
      have b := hI.le f.1
      show (stEnter s t).low.getD f.1 0 ≤ (stEnter s t).idx.getD t 0
      rw [hix]
      have b' : (stEnter s t).idx.getD f.1 0 ≤ s.cnt + 1 := b
      exact Nat.le_trans a b'
    · have := hI.low f' hf' x t hx ht (by rw [e']; exact h2) (fun f2 hf2 h4 => by
        obtain ⟨f3, hf3, e3⟩ := mem' f2 hf2
        rw [e', ← e3]
        exact h3 f3 hf3 (by rw [e3]; exact h4)) he hp'
      rw [e'] at this
      exact this
/-- An edge to a node on the stack. -/
theorem Gd.low {g : G} {s : St} {path : List (Nat × Nat)} {v e k : Nat} (h : Gd g s (path ++ [(v, e)])) (hk : (g.getD v [])[e]? = some (k : Int)) (hkn : k < g.length) (hon : s.on.getD k false = true) : Gd g { s with low := s.low.set v (min (s.low.getD v 0) (s.idx.getD k 0)) } (path ++ [(v, e + 1)]) := by
  have hv : v ∈ s.stack := h.iv.grey (v, e) (by simp)
  have hkS : k ∈ s.stack := (h.iv.on k).1 hon
  have hvl : v < s.low.length := by rw [h.ll]; exact h.lt v hv
  have hE : E g v k := ⟨h.lt v hv, hkn, List.mem_of_getElem? hk⟩
  have e1 : ∀ x, (s.low.set v (min (s.low.getD v 0) (s.idx.getD k 0))).getD x 0 = if x = v then min (s.low.getD v 0) (s.idx.getD k 0) else s.low.getD x 0 := fun x => getD_set9 _ _ _ _ hvl x
  refine ⟨?_, h.cn, h.mn, h.li, by simp [h.ll], h.lo, h.lg⟩
  refine Inv.edge (lw := fun x => s.low.getD x 0) h.iv (k : Int) hk (fun t ht _ => ?_) (fun x hx => ?_) ?_ (fun t ht _ _ => ?_) ?_
  · obtain rfl : t = k := by omega
    have := h.iv.seen t hkS
    show s.idx.getD t 0 ≠ 0
    have h2 : 0 < s.idx.getD t 0 := this
    omega
  · show (s.low.set v _).getD x 0 = _
    rw [e1, if_neg hx]
  · show (s.low.set v _).getD v 0 ≤ _
    rw [e1, if_pos rfl]; exact Nat.min_le_left _ _
  · obtain rfl : t = k := by omega
    show (s.low.set v _).getD v 0 ≤ _
    rw [e1, if_pos rfl]; exact Nat.min_le_right _ _
  · show ∃ y ∈ s.stack, s.idx.getD y 0 = (s.low.set v _).getD v 0 ∧ R g v y
    rw [e1, if_pos rfl]
    by_cases hm : s.low.getD v 0 ≤ s.idx.getD k 0
    · rw [Nat.min_eq_left hm]; exact h.iv.wit v hv
    · rw [Nat.min_eq_right (by omega)]; exact ⟨k, hkS, rfl, .one hE⟩
/-- A group is ended. -/
theorem Gd.pop {g : G} {s s' : St} {path : List (Nat × Nat)} {v e : Nat} {a b : List Nat} (h : Gd g s (path ++ [(v, e)])) (hst : s.stack = a ++ v :: b) (hall : (g.getD v []).length ≤ e) (hl : s.low.getD v 0 = s.idx.getD v 0) (hp : Pp s s' (v :: b)) (lo : s'.on.length = g.length) (lg : s'.grp.length = g.length) :
    Gd g { s' with stack := a, many := s.many + 1 } path := by
  have hi := h.iv
  unfold Iv at hi
  rw [hst] at hi
  have h1 := hi.pop hall hl
  refine ⟨?_, ?_, ?_, by rw [← h.li, hp.idx], by rw [← h.ll, hp.low], lo, lg⟩
  · show Inv g (fun x => s'.idx.getD x 0) (fun x => s'.low.getD x 0) (fun x => s'.grp.getD x 0) (fun x => s'.on.getD x false) a s'.cnt (s.many + 1) path
    rw [hp.idx, hp.low, hp.cnt, funext hp.grp, funext hp.on]
    exact h1
  · show s'.idx.countP (· != 0) = s'.cnt
    rw [hp.idx, hp.cnt, h.cn]
  · show s.many + 1 + a.length ≤ s'.cnt
    have := h.mn
    rw [hst] at this
    rw [hp.cnt]
    simp at this; omega
/-- No group is ended. -/
theorem Gd.stay {g : G} {s : St} {path : List (Nat × Nat)} {u eu v e : Nat} (h : Gd g s ((path ++ [(u, eu)]) ++ [(v, e)])) (hall : (g.getD v []).length ≤ e) (hl : s.low.getD v 0 ≠ s.idx.getD v 0) : Gd g { s with low := s.low.set u (min (s.low.getD u 0) (s.low.getD v 0)) } (path ++ [(u, eu)]) := by
  have hu : u ∈ s.stack := h.iv.grey (u, eu) (by simp)
  have hul : u < s.low.length := by rw [h.ll]; exact h.lt u hu
  have h1 := h.iv.stay hall hl
  refine ⟨?_, h.cn, h.mn, h.li, by simp [h.ll], h.lo, h.lg⟩
  show Inv g (fun x => s.idx.getD x 0) (fun x => (s.low.set u (min (s.low.getD u 0) (s.low.getD v 0))).getD x 0) (fun x => s.grp.getD x 0) (fun x => s.on.getD x false) s.stack s.cnt s.many (path ++ [(u, eu)])
  rw [show (fun x => (s.low.set u (min (s.low.getD u 0) (s.low.getD v 0))).getD x 0) = fun x => if x = u then min (s.low.getD u 0) (s.low.getD v 0) else s.low.getD x 0 from funext fun x => getD_set9 _ _ _ _ hul x]
  exact h1
end Gr
end Go.Proofs.Ytemdhbeegheefaa
