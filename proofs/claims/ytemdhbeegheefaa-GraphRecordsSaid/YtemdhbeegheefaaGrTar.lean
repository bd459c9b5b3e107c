
/- Graphs: ways; groups by going deep first (what 'from', 'enter', 'leave' keep). No program in sight. No condition. -/
import Derived.Test.YtemdhbeegheefaaKit
namespace Go.Proofs.Ytemdhbeegheefaa
namespace Gr

/-- A graph: each node's edges. -/
abbrev G := List (List Int)
/-- An edge leads from a node to another one. -/
def E (g : G) (i k : Nat) : Prop := i < g.length ∧ k < g.length ∧ (k : Int) ∈ g.getD i []
instance (g : G) (i k : Nat) : Decidable (E g i k) := inferInstanceAs (Decidable (_ ∧ _ ∧ _))
/-- A way, of no edge too. -/
inductive R (g : G) : Nat → Nat → Prop
  | refl (a : Nat) : R g a a
  | tail {a b c : Nat} : R g a b → E g b c → R g a c
theorem R.trans {g : G} {a b c : Nat} (h : R g a b) (k : R g b c) : R g a c := by
  induction k with
  | refl => exact h
  | tail _ e ih => exact .tail ih e
theorem R.one {g : G} {a b : Nat} (h : E g a b) : R g a b := .tail (.refl a) h
theorem R.head {g : G} {a b c : Nat} (h : E g a b) (k : R g b c) : R g a c := (R.one h).trans k

/-- What is known of a state of the search: when nodes came, what is low, groups, what is on the stack, how many came, how many groups; the way that is gone. -/
structure Inv (g : G) (ix lw gp : Nat → Nat) (on : Nat → Bool) (S : List Nat) (cnt many : Nat) (path : List (Nat × Nat)) : Prop where
  lt : ∀ v, ix v ≠ 0 → v < g.length
  on : ∀ v, on v = true ↔ v ∈ S
  sorted : S.Pairwise fun a b => ix a < ix b
  seen : ∀ v ∈ S, 0 < ix v
  le : ∀ v, ix v ≤ cnt
  grey : ∀ f ∈ path, f.1 ∈ S
  up : path.Pairwise fun a b => ix a.1 < ix b.1
  to : ∀ x ∈ S, ∀ y ∈ S, ix x ≤ ix y → R g x y
  back : ∀ y ∈ S, ∃ f ∈ path, ix f.1 ≤ ix y ∧ R g y f.1
  lo : ∀ v ∈ S, lw v ≤ ix v
  wit : ∀ v ∈ S, ∃ y ∈ S, ix y = lw v ∧ R g v y
  gone : ∀ x t, x ∈ S → E g x t → (∀ f ∈ path, f.1 = x → ∃ j, j < f.2 ∧ (g.getD x [])[j]? = some (t : Int)) → ix t ≠ 0
  low : ∀ f ∈ path, ∀ x t, x ∈ S → t ∈ S → ix f.1 ≤ ix x → (∀ f' ∈ path, ix f'.1 ≤ ix x → ix f'.1 ≤ ix f.1) → E g x t → (∀ f' ∈ path, f'.1 = x → ∃ j, j < f'.2 ∧ (g.getD x [])[j]? = some (t : Int)) → lw f.1 ≤ ix t
  shut : ∀ v t, ix v ≠ 0 → v ∉ S → E g v t → ix t ≠ 0 ∧ t ∉ S
  num : ∀ v, ix v ≠ 0 → v ∉ S → gp v < many
  onto : ∀ c, c < many → ∃ v, ix v ≠ 0 ∧ v ∉ S ∧ gp v = c
  same : ∀ a b, ix a ≠ 0 → a ∉ S → ix b ≠ 0 → b ∉ S → (gp a = gp b ↔ R g a b ∧ R g b a)

variable {g : G} {ix lw gp : Nat → Nat} {on : Nat → Bool} {S : List Nat} {cnt many : Nat}

/-- At the beginning. -/
theorem Inv.start (g : G) : Inv g (fun _ => 0) (fun _ => 0) (fun _ => 0) (fun _ => false) [] 0 0 [] where
  lt := by simp
  on := by simp
  sorted := List.Pairwise.nil
  seen := by simp
  le := by simp
  grey := by simp
  up := List.Pairwise.nil
  to := by simp
  back := by simp
  lo := by simp
  wit := by simp
  gone := by simp
  low := by simp
  shut := by simp
  num := by simp
  onto := by simp
  same := by simp

/-- Nothing is gone through: the stack is empty. -/
theorem Inv.idle (h : Inv g ix lw gp on S cnt many []) : S = [] := by
  cases S with
  | nil => rfl
  | cons a l =>
    obtain ⟨f, hf, _⟩ := h.back a (by simp)
    simp at hf

/-- From whatever is on the stack a way leads to the last node that is gone through. -/
theorem Inv.toTop {path : List (Nat × Nat)} {v e : Nat} (h : Inv g ix lw gp on S cnt many (path ++ [(v, e)])) : ∀ x ∈ S, R g x v := by
  intro x hx
  have hv : v ∈ S := h.grey (v, e) (by simp)
  by_cases hle : ix x ≤ ix v
  · exact h.to x hx v hv hle
  · obtain ⟨f, hf, h1, h2⟩ := h.back x hx
    refine h2.trans (h.to _ (h.grey f hf) v hv ?_)
    rcases List.mem_append.1 hf with hf | hf
    · have := (List.pairwise_append.1 h.up).2.2 f hf (v, e) (by simp)
      exact Nat.le_of_lt this
    · rw [List.mem_singleton.1 hf]; exact Nat.le_refl _

/-- The last node that is gone through came last of them. -/
theorem Inv.topMax {path : List (Nat × Nat)} {v e : Nat} (h : Inv g ix lw gp on S cnt many (path ++ [(v, e)])) : ∀ f ∈ path, ix f.1 < ix v :=
  fun f hf => (List.pairwise_append.1 h.up).2.2 f hf (v, e) (by simp)

theorem Inv.notTop {path : List (Nat × Nat)} {v e : Nat} (h : Inv g ix lw gp on S cnt many (path ++ [(v, e)])) : ∀ f ∈ path, f.1 ≠ v := fun f hf e' => by
  have := h.topMax f hf
  rw [e'] at this
  exact Nat.lt_irrefl _ this

/-- 'enter': a node that did not come yet, at which an edge of the last node leads; or the first one. -/
theorem Inv.enter {path : List (Nat × Nat)} {k : Nat} (h : Inv g ix lw gp on S cnt many path) (hk : k < g.length) (h0 : ix k = 0) (hto : ∀ x ∈ S, R g x k) :
    Inv g (fun x => if x = k then cnt + 1 else ix x) (fun x => if x = k then cnt + 1 else lw x) gp (fun x => if x = k then true else on x) (S ++ [k]) (cnt + 1) many (path ++ [(k, 0)]) := by
  have hkS : k ∉ S := fun hm => by have := h.seen k hm; omega
  have hne : ∀ x ∈ S, x ≠ k := fun x hx e => hkS (e ▸ hx)
  have hnp : ∀ f ∈ path, f.1 ≠ k := fun f hf => hne _ (h.grey f hf)
  have ixo : ∀ x, x ≠ k → (if x = k then cnt + 1 else ix x) = ix x := fun x hx => if_neg hx
  have dn : ∀ x, (if x = k then cnt + 1 else ix x) ≠ 0 → x ∉ S ++ [k] → ix x ≠ 0 ∧ x ∉ S ∧ x ≠ k := fun x h1 h2 => by
    simp only [List.mem_append, List.mem_singleton, not_or] at h2
    rw [if_neg h2.2] at h1
    exact ⟨h1, h2.1, h2.2⟩
  refine ⟨?_, ?_, ?_, ?_, ?_, ?_, ?_, ?_, ?_, ?_, ?_, ?_, ?_, ?_, ?_, ?_, ?_⟩
  · intro v hv
    by_cases e : v = k
    · exact e ▸ hk
    · rw [if_neg e] at hv; exact h.lt v hv
  · intro v
    by_cases e : v = k
    · simp [e]
    · simp only [List.mem_append, List.mem_singleton, e, or_false]; exact h.on v
  · rw [List.pairwise_append]
    refine ⟨h.sorted.imp_of_mem fun {a b} ha hb hab => ?_, by simp, fun a ha b hb => ?_⟩
    · rw [if_neg (hne a ha), if_neg (hne b hb)]; exact hab
    · rw [List.mem_singleton.1 hb, if_pos rfl, if_neg (hne a ha)]
      have := h.le a; omega
  · intro v hv
    by_cases e : v = k
    · simp [e]
    · simp only [List.mem_append, List.mem_singleton, e, or_false] at hv
      rw [if_neg e]; exact h.seen v hv
  · intro v
    by_cases e : v = k
    · simp [e]
    · rw [if_neg e]; have := h.le v; omega
  · intro f hf
    rcases List.mem_append.1 hf with hf | hf
    · exact List.mem_append_left _ (h.grey f hf)
    · rw [List.mem_singleton.1 hf]; simp
  · rw [List.pairwise_append]
    refine ⟨h.up.imp_of_mem fun {a b} ha hb hab => ?_, by simp, fun a ha b hb => ?_⟩
    · rw [if_neg (hnp a ha), if_neg (hnp b hb)]; exact hab
    · rw [List.mem_singleton.1 hb, if_pos rfl, if_neg (hnp a ha)]
      have := h.le a.1; omega
  · intro x hx y hy hxy
    simp only [List.mem_append, List.mem_singleton] at hx hy
    rcases hx with hx | rfl
    · rcases hy with hy | rfl
      · rw [if_neg (hne x hx), if_neg (hne y hy)] at hxy; exact h.to x hx y hy hxy
      · exact hto x hx
    · rcases hy with hy | rfl
      · rw [if_pos rfl, if_neg (hne y hy)] at hxy; have := h.le y; omega
      · exact .refl _
  · intro y hy
    simp only [List.mem_append, List.mem_singleton] at hy
    rcases hy with hy | rfl
    · obtain ⟨f, hf, h1, h2⟩ := h.back y hy
      exact ⟨f, List.mem_append_left _ hf, by rw [if_neg (hnp f hf), if_neg (hne y hy)]; exact h1, h2⟩
    · exact ⟨(y, 0), by simp, Nat.le_refl _, .refl _⟩
  · intro v hv
    by_cases e : v = k
    · simp [e]
    · simp only [List.mem_append, List.mem_singleton, e, or_false] at hv
      rw [if_neg e, if_neg e]; exact h.lo v hv
  · intro v hv
    by_cases e : v = k
    · exact ⟨k, by simp, by simp [e], e ▸ .refl _⟩
    · simp only [List.mem_append, List.mem_singleton, e, or_false] at hv
      obtain ⟨y, hy, h1, h2⟩ := h.wit v hv
      exact ⟨y, List.mem_append_left _ hy, by rw [if_neg e, if_neg (hne y hy)]; exact h1, h2⟩
  · intro x t hx he hp
    by_cases et : t = k
    · rw [if_pos et]; omega
    · rw [if_neg et]
      simp only [List.mem_append, List.mem_singleton] at hx
      rcases hx with hx | rfl
      · exact h.gone x t hx he fun f hf => hp f (List.mem_append_left _ hf)
      · obtain ⟨j, hj, _⟩ := hp (x, 0) (by simp) rfl
        exact absurd hj (Nat.not_lt_zero _)
  · intro f hf x t hx ht h1 h2 he hp
    simp only [List.mem_append, List.mem_singleton] at hx ht
    rcases hx with hx | rfl
    · rw [if_neg (hne x hx)] at h1
      rcases List.mem_append.1 hf with hfp | hf
      · have hf := hfp
        rw [if_neg (hnp f hf)] at h1 ⊢
        rcases ht with ht | htk
        · rw [if_neg (hne t ht)]
          refine h.low f hf x t hx ht h1 (fun f' hf' h3 => ?_) he fun f' hf' => hp f' (List.mem_append_left _ hf')
          have := h2 f' (List.mem_append_left _ hf') (by rw [if_neg (hnp f' hf'), if_neg (hne x hx)]; exact h3)
          rw [if_neg (hnp f' hf'), if_neg (hnp f hf)] at this
          exact this
        · rw [if_pos htk]
          have a := h.lo f.1 (h.grey f hfp)
          have b := h.le f.1
          omega
      · rw [List.mem_singleton.1 hf] at h1
        simp only [if_pos] at h1
        have := h.le x
        omega
    · obtain ⟨j, hj, _⟩ := hp (x, 0) (by simp) rfl
      exact absurd hj (Nat.not_lt_zero _)
  · intro v t h1 h2 he
    obtain ⟨a, b, c⟩ := dn v h1 h2
    obtain ⟨d, e⟩ := h.shut v t a b he
    have ht : t ≠ k := fun e' => d (e' ▸ h0)
    refine ⟨by rw [if_neg ht]; exact d, ?_⟩
    simp only [List.mem_append, List.mem_singleton, not_or]
    exact ⟨e, ht⟩
  · intro v h1 h2
    obtain ⟨a, b, _⟩ := dn v h1 h2
    exact h.num v a b
  · intro c hc
    obtain ⟨v, h1, h2, h3⟩ := h.onto c hc
    have hv : v ≠ k := fun e' => h1 (e' ▸ h0)
    refine ⟨v, by rw [if_neg hv]; exact h1, ?_, h3⟩
    simp only [List.mem_append, List.mem_singleton, not_or]
    exact ⟨h2, hv⟩
  · intro a b h1 h2 h3 h4
    obtain ⟨a1, a2, _⟩ := dn a h1 h2
    obtain ⟨b1, b2, _⟩ := dn b h3 h4
    exact h.same a b a1 a2 b1 b2

/-- One more edge of the last node is seen: to no node, or to one that came; and what is low may fall. -/
theorem Inv.edge {path : List (Nat × Nat)} {v e : Nat} {lw' : Nat → Nat} (h : Inv g ix lw gp on S cnt many (path ++ [(v, e)])) (k : Int) (hk : (g.getD v [])[e]? = some k)
    (hseen : ∀ t : Nat, (t : Int) = k → E g v t → ix t ≠ 0) (hlw : ∀ x, x ≠ v → lw' x = lw x) (hle : lw' v ≤ lw v) (hon : ∀ t : Nat, (t : Int) = k → E g v t → t ∈ S → lw' v ≤ ix t)
    (hwit : ∃ y ∈ S, ix y = lw' v ∧ R g v y) : Inv g ix lw' gp on S cnt many (path ++ [(v, e + 1)]) := by
  have key : ∀ x t, E g x t → (∀ f ∈ path ++ [(v, e + 1)], f.1 = x → ∃ j, j < f.2 ∧ (g.getD x [])[j]? = some (t : Int)) → (x = v ∧ (t : Int) = k) ∨ (∀ f ∈ path ++ [(v, e)], f.1 = x → ∃ j, j < f.2 ∧ (g.getD x [])[j]? = some (t : Int)) := by
    intro x t he hp
    by_cases hx : x = v
    · obtain ⟨j, hj, hg⟩ := hp (v, e + 1) (by simp) hx.symm
      by_cases hje : j = e
      · left
        refine ⟨hx, ?_⟩
        rw [hx, hje, hk] at hg
        exact (Option.some.inj hg).symm
      · right
        intro f hf hfx
        rcases List.mem_append.1 hf with hf | hf
        · exact absurd (hfx.trans hx) (h.notTop f hf)
        · rw [List.mem_singleton.1 hf]
          exact ⟨j, by simp only at hj ⊢; omega, hg⟩
    · right
      intro f hf hfx
      rcases List.mem_append.1 hf with hf | hf
      · exact hp f (List.mem_append_left _ hf) hfx
      · rw [List.mem_singleton.1 hf] at hfx
        exact absurd hfx.symm hx
  have mem : ∀ f ∈ path ++ [(v, e + 1)], ∃ f' ∈ path ++ [(v, e)], f'.1 = f.1 := fun f hf => by
    rcases List.mem_append.1 hf with hf | hf
    · exact ⟨f, List.mem_append_left _ hf, rfl⟩
    · exact ⟨(v, e), by simp, by rw [List.mem_singleton.1 hf]⟩
  have mem' : ∀ f ∈ path ++ [(v, e)], ∃ f' ∈ path ++ [(v, e + 1)], f'.1 = f.1 := fun f hf => by
    rcases List.mem_append.1 hf with hf | hf
    · exact ⟨f, List.mem_append_left _ hf, rfl⟩
    · exact ⟨(v, e + 1), by simp, by rw [List.mem_singleton.1 hf]⟩
  have hll : ∀ x, lw' x ≤ lw x := fun x => by
    by_cases hx : x = v
    · rw [hx]; exact hle
    · rw [hlw x hx]; exact Nat.le_refl _
  refine ⟨h.lt, h.on, h.sorted, h.seen, h.le, ?_, ?_, h.to, ?_, ?_, ?_, ?_, ?_, h.shut, h.num, h.onto, h.same⟩
  · intro f hf
    obtain ⟨f', hf', e'⟩ := mem f hf
    rw [← e']; exact h.grey f' hf'
  · have hu := List.pairwise_append.1 h.up
    rw [List.pairwise_append]
    exact ⟨hu.1, by simp, fun a ha b hb => by rw [List.mem_singleton.1 hb]; exact hu.2.2 a ha (v, e) (by simp)⟩
  · intro y hy
    obtain ⟨f, hf, h1, h2⟩ := h.back y hy
    obtain ⟨f', hf', e'⟩ := mem' f hf
    exact ⟨f', hf', by rw [e']; exact h1, by rw [e']; exact h2⟩
  · intro x hx
    exact Nat.le_trans (hll x) (h.lo x hx)
  · intro x hx
    by_cases e' : x = v
    · subst e'; exact hwit
    · rw [hlw x e']; exact h.wit x hx
  · intro x t hx he hp
    rcases key x t he hp with ⟨rfl, ht⟩ | hp'
    · exact hseen t ht he
    · exact h.gone x t hx he hp'
  · intro f hf x t hx ht h1 h2 he hp
    obtain ⟨f', hf', e'⟩ := mem f hf
    rcases key x t he hp with ⟨rfl, htk⟩ | hp'
    · -- the owner of the last node is itself
      have hvf : ix f.1 = ix x := by
        have h3 := h2 (x, e + 1) (by simp) (Nat.le_refl _)
        simp only at h3
        omega
      have hfv : f.1 = x := by
        rcases List.mem_append.1 hf with hf | hf
        · have := h.topMax f hf; omega
        · rw [List.mem_singleton.1 hf]
      rw [hfv]
      exact hon t htk he ht
    · have := h.low f' hf' x t hx ht (by rw [e']; exact h1) (fun f2 hf2 h3 => by
        obtain ⟨f3, hf3, e3⟩ := mem' f2 hf2
        rw [e', ← e3]
        exact h2 f3 hf3 (by rw [e3]; exact h3)) he hp'
      rw [e'] at this
      exact Nat.le_trans (hll _) this

/-- Where no way leads out of what is ended. -/
theorem Inv.ended {path : List (Nat × Nat)} (h : Inv g ix lw gp on S cnt many path) {a b : Nat} (h1 : ix a ≠ 0) (h2 : a ∉ S) (hr : R g a b) : ix b ≠ 0 ∧ b ∉ S := by
  induction hr with
  | refl => exact ⟨h1, h2⟩
  | tail _ he ih => exact h.shut _ _ ih.1 ih.2 he

/-- Behind all edges of the last node, whatever is above it on the stack has had all its edges. -/
theorem Inv.hadAll {path : List (Nat × Nat)} {v e : Nat} (h : Inv g ix lw gp on S cnt many (path ++ [(v, e)])) (hall : (g.getD v []).length ≤ e) {x t : Nat} (hx : ix v ≤ ix x) (he : E g x t) :
    ∀ f ∈ path ++ [(v, e)], f.1 = x → ∃ j, j < f.2 ∧ (g.getD x [])[j]? = some (t : Int) := by
  intro f hf hfx
  rcases List.mem_append.1 hf with hf | hf
  · have := h.topMax f hf
    rw [hfx] at this; omega
  · rw [List.mem_singleton.1 hf] at hfx ⊢
    have hfx : v = x := hfx
    subst hfx
    obtain ⟨j, hj, hg⟩ := List.getElem_of_mem he.2.2
    exact ⟨j, by simp only; omega, by rw [List.getElem?_eq_getElem hj, hg]⟩

theorem Inv.own {path : List (Nat × Nat)} {v e : Nat} (h : Inv g ix lw gp on S cnt many (path ++ [(v, e)])) : ∀ x, ix v ≤ ix x → ∀ f' ∈ path ++ [(v, e)], ix f'.1 ≤ ix x → ix f'.1 ≤ ix v := by
  intro x _ f hf _
  rcases List.mem_append.1 hf with hf | hf
  · exact Nat.le_of_lt (h.topMax f hf)
  · rw [List.mem_singleton.1 hf]; exact Nat.le_refl _

/-- 'leave', where a group ends: what is above the node on the stack is it. -/
theorem Inv.pop {path : List (Nat × Nat)} {v e : Nat} {A B : List Nat} (h : Inv g ix lw gp on (A ++ v :: B) cnt many (path ++ [(v, e)])) (hall : (g.getD v []).length ≤ e) (hl : lw v = ix v) :
    Inv g ix lw (fun x => if x ∈ v :: B then many else gp x) (fun x => if x ∈ v :: B then false else on x) A cnt (many + 1) path := by
  have hs := List.pairwise_append.1 h.sorted
  have hA : ∀ x ∈ A, ix x < ix v := fun x hx => hs.2.2 x hx v (by simp)
  have hT : ∀ x ∈ v :: B, ix v ≤ ix x := fun x hx => by
    rcases List.mem_cons.1 hx with rfl | hx
    · exact Nat.le_refl _
    · exact Nat.le_of_lt ((List.pairwise_cons.1 hs.2.1).1 x hx)
  have hAT : ∀ x ∈ A, x ∉ v :: B := fun x hx hm => by have := hA x hx; have := hT x hm; omega
  have inS : ∀ x ∈ v :: B, x ∈ A ++ v :: B := fun x hx => List.mem_append_right _ hx
  have inA : ∀ x ∈ A, x ∈ A ++ v :: B := fun x hx => List.mem_append_left _ hx
  have cl : ∀ x ∈ v :: B, ∀ t, E g x t → ix t ≠ 0 ∧ t ∉ A := fun x hx t he => by
    have hp := h.hadAll hall (hT x hx) he
    refine ⟨h.gone x t (inS x hx) he hp, fun ht => ?_⟩
    have := h.low (v, e) (by simp) x t (inS x hx) (inA t ht) (hT x hx) (h.own x (hT x hx)) he hp
    simp only [hl] at this
    have := hA t ht
    omega
  have dn : ∀ x, ix x ≠ 0 → x ∉ A → x ∈ v :: B ∨ (x ∉ A ++ v :: B) := fun x _ h2 => by
    by_cases hx : x ∈ v :: B
    · exact .inl hx
    · exact .inr fun hm => (List.mem_append.1 hm).elim h2 hx
  have outT : ∀ x, x ∉ A ++ v :: B → x ∉ v :: B := fun x h1 h2 => h1 (inS x h2)
  have ext : ∀ x t, x ∈ A → (∀ f ∈ path, f.1 = x → ∃ j, j < f.2 ∧ (g.getD x [])[j]? = some (t : Int)) → ∀ f ∈ path ++ [(v, e)], f.1 = x → ∃ j, j < f.2 ∧ (g.getD x [])[j]? = some (t : Int) := fun x t hx hp f hf hfx => by
    rcases List.mem_append.1 hf with hf | hf
    · exact hp f hf hfx
    · rw [List.mem_singleton.1 hf] at hfx
      have := hA x hx
      rw [← hfx] at this
      exact absurd this (Nat.lt_irrefl _)
  refine ⟨h.lt, ?_, hs.1, fun x hx => h.seen x (inA x hx), h.le, ?_, (List.pairwise_append.1 h.up).1, fun x hx y hy => h.to x (inA x hx) y (inA y hy), ?_, fun x hx => h.lo x (inA x hx), ?_, ?_, ?_, ?_, ?_, ?_, ?_⟩
  · intro x
    by_cases hx : x ∈ v :: B
    · simp only [hx, if_true, Bool.false_eq_true, false_iff]
      exact fun hm => hAT x hm hx
    · simp only [hx, if_false]
      rw [h.on x]
      exact ⟨fun hm => (List.mem_append.1 hm).elim id fun h' => absurd h' hx, inA x⟩
  · intro f hf
    have := h.topMax f hf
    rcases List.mem_append.1 (h.grey f (List.mem_append_left _ hf)) with hm | hm
    · exact hm
    · have := hT _ hm; omega
  · intro y hy
    obtain ⟨f, hf, h1, h2⟩ := h.back y (inA y hy)
    rcases List.mem_append.1 hf with hf | hf
    · exact ⟨f, hf, h1, h2⟩
    · rw [List.mem_singleton.1 hf] at h1
      have h1 : ix v ≤ ix y := h1
      have := hA y hy; omega
  · intro x hx
    obtain ⟨y, hy, h1, h2⟩ := h.wit x (inA x hx)
    refine ⟨y, ?_, h1, h2⟩
    rcases List.mem_append.1 hy with hm | hm
    · exact hm
    · have a := hT y hm
      have b := h.lo x (inA x hx)
      have c := hA x hx
      omega
  · intro x t hx he hp
    exact h.gone x t (inA x hx) he (ext x t hx hp)
  · intro f hf x t hx ht h1 h2 he hp
    refine h.low f (List.mem_append_left _ hf) x t (inA x hx) (inA t ht) h1 (fun f' hf' h3 => ?_) he (ext x t hx hp)
    rcases List.mem_append.1 hf' with hf' | hf'
    · exact h2 f' hf' h3
    · rw [List.mem_singleton.1 hf'] at h3
      have h3 : ix v ≤ ix x := h3
      have := hA x hx; omega
  · intro x t h1 h2 he
    rcases dn x h1 h2 with hx | hx
    · exact cl x hx t he
    · obtain ⟨a, b⟩ := h.shut x t h1 hx he
      exact ⟨a, fun hm => b (inA t hm)⟩
  · intro x h1 h2
    rcases dn x h1 h2 with hx | hx
    · simp only [hx, if_true]; omega
    · simp only [outT x hx, if_false]
      have := h.num x h1 hx; omega
  · intro c hc
    by_cases e' : c = many
    · exact ⟨v, Nat.pos_iff_ne_zero.1 (h.seen v (by simp)), fun hm => hAT v hm (by simp), by simp [e']⟩
    · obtain ⟨x, h1, h2, h3⟩ := h.onto c (by omega)
      exact ⟨x, h1, fun hm => h2 (inA x hm), by simp only [outT x h2, if_false]; exact h3⟩
  · intro a b h1 h2 h3 h4
    rcases dn a h1 h2 with ha | ha
    · rcases dn b h3 h4 with hb | hb
      · simp only [ha, hb, if_true, true_iff]
        have hv : v ∈ A ++ v :: B := by simp
        exact ⟨(h.toTop a (inS a ha)).trans (h.to v hv b (inS b hb) (hT b hb)), (h.toTop b (inS b hb)).trans (h.to v hv a (inS a ha) (hT a ha))⟩
      · simp only [ha, outT b hb, if_true, if_false]
        constructor
        · intro e'
          have := h.num b h3 hb; omega
        · rintro ⟨_, h5⟩
          exact absurd (inS a ha) (h.ended h3 hb h5).2
    · rcases dn b h3 h4 with hb | hb
      · simp only [hb, outT a ha, if_true, if_false]
        constructor
        · intro e'
          have := h.num a h1 ha; omega
        · rintro ⟨h5, _⟩
          exact absurd (inS b hb) (h.ended h1 ha h5).2
      · simp only [outT a ha, outT b hb, if_false]
        exact h.same a b h1 ha h3 hb

/-- Where a group does not end, another node is gone through, and this one has edges. -/
theorem Inv.under {path : List (Nat × Nat)} {v e : Nat} (h : Inv g ix lw gp on S cnt many (path ++ [(v, e)])) (hl : lw v ≠ ix v) : path ≠ [] ∧ 0 < (g.getD v []).length := by
  have hv : v ∈ S := h.grey (v, e) (by simp)
  obtain ⟨y, hy, h1, h2⟩ := h.wit v hv
  have hlt := h.lo v hv
  constructor
  · rintro rfl
    obtain ⟨f, hf, h3, _⟩ := h.back y hy
    rw [List.nil_append, List.mem_singleton] at hf
    rw [hf] at h3
    have h3 : ix v ≤ ix y := h3
    omega
  · by_cases h0 : 0 < (g.getD v []).length
    · exact h0
    · exfalso
      have hnil : g.getD v [] = [] := List.eq_nil_of_length_eq_zero (by omega)
      have : ∀ b, R g v b → b = v := fun b hr => by
        induction hr with
        | refl => rfl
        | tail _ he ih =>
          rw [ih] at he
          have := he.2.2
          rw [hnil] at this
          simp at this
      rw [this y h2] at h1
      omega

/-- 'leave', where a group does not end: what is low is told to the node below. -/
theorem Inv.stay {path : List (Nat × Nat)} {u eu v e : Nat} (h : Inv g ix lw gp on S cnt many ((path ++ [(u, eu)]) ++ [(v, e)])) (hall : (g.getD v []).length ≤ e) (hl : lw v ≠ ix v) :
    Inv g ix (fun x => if x = u then min (lw u) (lw v) else lw x) gp on S cnt many (path ++ [(u, eu)]) := by
  have hv : v ∈ S := h.grey (v, e) (by simp)
  have hu : u ∈ S := h.grey (u, eu) (by simp)
  have huv : ix u < ix v := h.topMax (u, eu) (by simp)
  have hll : ∀ x, (if x = u then min (lw u) (lw v) else lw x) ≤ lw x := fun x => by
    by_cases hx : x = u
    · subst hx; rw [if_pos rfl]; exact Nat.min_le_left _ _
    · rw [if_neg hx]; exact Nat.le_refl _
  have hlv : lw v < ix v := Nat.lt_of_le_of_ne (h.lo v hv) hl
  have ext : ∀ x t, E g x t → (∀ f ∈ path ++ [(u, eu)], f.1 = x → ∃ j, j < f.2 ∧ (g.getD x [])[j]? = some (t : Int)) → ∀ f ∈ (path ++ [(u, eu)]) ++ [(v, e)], f.1 = x → ∃ j, j < f.2 ∧ (g.getD x [])[j]? = some (t : Int) := fun x t he hp f hf hfx => by
    rcases List.mem_append.1 hf with hf | hf
    · exact hp f hf hfx
    · have hf' := List.mem_singleton.1 hf
      rw [hf'] at hfx
      have hfx : v = x := hfx
      subst hfx
      exact h.hadAll hall (Nat.le_refl _) he f (List.mem_append_right _ hf) (by rw [hf'])
  have hup := (List.pairwise_append.1 h.up).1
  refine ⟨h.lt, h.on, h.sorted, h.seen, h.le, fun f hf => h.grey f (List.mem_append_left _ hf), hup, h.to, ?_, fun x hx => Nat.le_trans (hll x) (h.lo x hx), ?_, fun x t hx he hp => h.gone x t hx he (ext x t he hp), ?_, h.shut, h.num, h.onto, h.same⟩
  · intro y hy
    obtain ⟨f, hf, h1, h2⟩ := h.back y hy
    rcases List.mem_append.1 hf with hf | hf
    · exact ⟨f, hf, h1, h2⟩
    · rw [List.mem_singleton.1 hf] at h1 h2
      have h1 : ix v ≤ ix y := h1
      obtain ⟨z, hz, h3, h4⟩ := h.wit v hv
      obtain ⟨f2, hf2, h5, h6⟩ := h.back z hz
      rcases List.mem_append.1 hf2 with hf2 | hf2
      · exact ⟨f2, hf2, by omega, (h2.trans h4).trans h6⟩
      · rw [List.mem_singleton.1 hf2] at h5
        have h5 : ix v ≤ ix z := h5
        omega
  · intro x hx
    by_cases hxu : x = u
    · subst hxu
      rw [if_pos rfl]
      by_cases hm : lw x ≤ lw v
      · rw [Nat.min_eq_left hm]; exact h.wit x hx
      · rw [Nat.min_eq_right (by omega)]
        obtain ⟨z, hz, h3, h4⟩ := h.wit v hv
        exact ⟨z, hz, h3, (h.to x hx v hv (Nat.le_of_lt huv)).trans h4⟩
    · rw [if_neg hxu]; exact h.wit x hx
  · intro f hf x t hx ht h1 h2 he hp
    have hp' := ext x t he hp
    by_cases hxv : ix v ≤ ix x
    · have h3 := h.low (v, e) (by simp) x t hx ht hxv (h.own x hxv) he hp'
      have h3 : lw v ≤ ix t := h3
      have h4 := h2 (u, eu) (by simp) (by simp only; omega)
      have hfu : f.1 = u := by
        rcases List.mem_append.1 hf with hf | hf
        · have h5 := (List.pairwise_append.1 hup).2.2 f hf (u, eu) (by simp)
          simp only at h4 h5; omega
        · rw [List.mem_singleton.1 hf]
      simp only [hfu, if_true]
      exact Nat.le_trans (Nat.min_le_right _ _) h3
    · have h3 := h.low f (List.mem_append_left _ hf) x t hx ht h1 (fun f' hf' h4 => by
        rcases List.mem_append.1 hf' with hf' | hf'
        · exact h2 f' hf' h4
        · rw [List.mem_singleton.1 hf'] at h4
          exact absurd h4 hxv) he hp'
      exact Nat.le_trans (hll _) h3

/-- Where a group ended, what is low in the node below is not more than in it. -/
theorem Inv.lowUnder {path : List (Nat × Nat)} {u eu v e : Nat} (h : Inv g ix lw gp on S cnt many ((path ++ [(u, eu)]) ++ [(v, e)])) (hl : lw v = ix v) : lw u ≤ lw v := by
  have huv : ix u < ix v := h.topMax (u, eu) (by simp)
  have := h.lo u (h.grey (u, eu) (by simp))
  omega
end Gr
end Go.Proofs.Ytemdhbeegheefaa
