
/- Two lists of lists of numbers that grow by turns: neither lies in the other one's blocks. No condition. -/
import Derived.Test.YtemdhbeegheefaaGrHeap
namespace Go.Proofs.Ytemdhbeegheefaa
open Go.RowKit

/-- Own lists, none of which lies in the named block. -/
def Ox (w : World) (B : Nat) (T : TypeId) (v : Value) (ls : List (List Int)) (o : Option Nat) : Prop :=
  ∃ vs : List Value, w.ownsRow B T 1 v ls.length vs ∧ (∀ (i : Nat) (u : Value) (l : List Int), vs[i]? = some u → ls[i]? = some l → Ri w u l ∧ ∀ b, u.ownBlock = some b → b < w.heap.size ∧ v.ownBlock ≠ some b ∧ B ≤ b ∧ o ≠ some b) ∧ ∀ b, v.ownBlock = some b → o ≠ some b
theorem Ox.og {w : World} {B : Nat} {T : TypeId} {v : Value} {ls : List (List Int)} {o : Option Nat} (h : Ox w B T v ls o) : Og w B T v ls := by
  obtain ⟨vs, h1, h2, _⟩ := h
  exact ⟨vs, h1, fun i u l hu hl => ⟨(h2 i u l hu hl).1, fun b hb => ⟨((h2 i u l hu hl).2 b hb).1, ((h2 i u l hu hl).2 b hb).2.1, ((h2 i u l hu hl).2 b hb).2.2.1⟩⟩⟩
theorem Ox.below' {w w' : World} {B : Nat} {T : TypeId} {v : Value} {ls : List (List Int)} {o : Option Nat} (h : Ox w B T v ls o) (hb : Below w.heap.size w w') : Ox w' B T v ls o := by
  obtain ⟨vs, h1, h2, h3⟩ := h
  exact ⟨vs, own_below h1 (own_under h1) hb, fun i u l hu hl => ⟨(h2 i u l hu hl).1.below' hb, fun b hu' => ⟨Nat.lt_of_lt_of_le ((h2 i u l hu hl).2 b hu').1 hb.size, ((h2 i u l hu hl).2 b hu').2⟩⟩, h3⟩
/-- The named block turns; another one may be named: a new one. -/
theorem Ox.turn {w w' : World} {B : Nat} {T : TypeId} {v : Value} {ls : List (List Int)} {o o' : Option Nat} (h : Ox w B T v ls o) (hg : w.grownBy w' o) (ho : ∀ b, o' = some b → o = some b ∨ w.heap.size ≤ b) : Ox w' B T v ls o' := by
  obtain ⟨vs, h1, h2, h3⟩ := h
  refine ⟨vs, Kw.row h1 (Kw.of_grown hg) fun b hb e => h3 b hb e, fun i u l hu hl => ⟨Rd.grown (h2 i u l hu hl).1 hg fun b hb e => ((h2 i u l hu hl).2 b hb).2.2.2 e.symm, fun b hb => ?_⟩, fun b hb e => ?_⟩
  · obtain ⟨k1, k2, k3, k4⟩ := (h2 i u l hu hl).2 b hb
    refine ⟨Nat.lt_of_lt_of_le k1 hg.size, k2, k3, fun e => ?_⟩
    rcases ho b e with h | h
    · exact k4 h
    · omega
  · rcases ho b e with h | h
    · exact h3 b hb h
    · have := (h1.lt b hb).2; omega
/-- Both. -/
structure Pr (w : World) (B : Nat) (T : TypeId) (v : Value) (ls : List (List Int)) (v2 : Value) (ls2 : List (List Int)) : Prop where
  one : Ox w B T v ls v2.ownBlock
  two : Ox w B T v2 ls2 v.ownBlock
theorem Pr.swap {w : World} {B : Nat} {T : TypeId} {v v2 : Value} {ls ls2 : List (List Int)} (h : Pr w B T v ls v2 ls2) : Pr w B T v2 ls2 v ls := ⟨h.two, h.one⟩
theorem Pr.below' {w w' : World} {B : Nat} {T : TypeId} {v v2 : Value} {ls ls2 : List (List Int)} (h : Pr w B T v ls v2 ls2) (hb : Below w.heap.size w w') : Pr w' B T v ls v2 ls2 := ⟨h.one.below' hb, h.two.below' hb⟩
theorem Pr.made (w : World) (B : Nat) (T : TypeId) (hB : B ≤ w.heap.size) : Pr ((w.alloc (.cells #[] T)).alloc (.cells #[] T)) B T (.slice (some ⟨w.heap.size, 0, none⟩) 0 0) [] (.slice (some ⟨w.heap.size + 1, 0, none⟩) 0 0) [] := by
  have h1 := World.ownsRow_made (base := B) (e := T) (size := 1) w #[] 0 hB (by decide) rfl
  have h2 := World.ownsRow_made (base := B) (e := T) (size := 1) (w.alloc (.cells #[] T)) #[] 0 (by simp; omega) (by decide) rfl
  have h3 : Below w.heap.size w (w.alloc (.cells #[] T)) := (Below.refl _ _).alloc (Nat.le_refl _) _
  refine ⟨⟨[], own_below h1 (own_under h1) ((Below.refl _ _).alloc (Nat.le_refl _) _), by simp, fun b hb e => ?_⟩, ⟨[], by simpa using h2, by simp, fun b hb e => ?_⟩⟩
  · have hb1 : w.heap.size = b := by simpa [Value.ownBlock] using hb
    have hb2 : w.heap.size + 1 = b := by simpa [Value.ownBlock] using e
    omega
  · have hb1 : w.heap.size = b := by simpa [Value.ownBlock] using e
    have hb2 : w.heap.size + 1 = b := by simpa [Value.ownBlock] using hb
    omega

section
variable {P : Program} {ops : Array Oper} {rest : List Oper} {o : Oper} {a : Act} {Q : Exit → Act → World → Prop} {w1 : World}
/-- 'v = append(v, u)': the first one of both. -/
theorem wp_pr {t e bytes : Nat} {v u v2 : Value} {ls ls2 : List (List Int)} {l : List Int} (T : SlTy P t e 1 bytes) (hgd : o.guard = none) (s x : Operand) (ho : o.op = .call { callee := .builtin .append, args := #[s, x], argTypes := #[t, t] })
    (B : Nat) (hp : Pr w1 B e v ls v2 ls2) (hu : Ri w1 u l) (hsep : ∀ b, u.ownBlock = some b → b < w1.heap.size ∧ v.ownBlock ≠ some b ∧ B ≤ b ∧ v2.ownBlock ≠ some b) (hs : a.eval s = v) {g : Nat} (hx : a.eval x = .slice (some ⟨g, 0, none⟩) 1 1) (hg : g = w1.heap.size)
    (hone : u.oneCell' = true) (hlen : (ls.length + 1) * bytes ≤ 140737488355328) (hlen2 : ls.length ≤ 1000000000000000) (hB : B ≤ w1.heap.size)
    (h : ∀ v' w', Pr w' B e v' (ls ++ [l]) v2 ls2 → Below B w1 w' → wpList P ops Q rest (a.put o.dst v') w') :
    wpList P ops Q (o :: rest) a (w1.alloc (.cells #[u] e)) := by
  obtain ⟨⟨vs, h1, h2, h3⟩, h4⟩ := hp
  have hvl : vs.length = ls.length := by rw [h1.1, Nat.mul_one]
  have h5 : ∀ b, v2.ownBlock = some b → b < w1.heap.size := fun b hb => by
    obtain ⟨vs2, k1, _⟩ := h4
    exact (k1.lt b hb).2
  refine wp_app2 (news := [u]) T hgd s x ho B h1 hs hx hg rfl (by simpa using hone) hlen hlen2 hB fun v' w' hown' hbel hgr hnear => h v' w' ⟨⟨vs ++ [u], by simpa using hown', ?_, ?_⟩, ?_⟩ hbel
  · intro i u' l' hu' hl'
    have key : ∀ (u0 : Value) (l0 : List Int), Ri w1 u0 l0 → (∀ b, u0.ownBlock = some b → b < w1.heap.size ∧ v.ownBlock ≠ some b ∧ B ≤ b ∧ v2.ownBlock ≠ some b) → Ri w' u0 l0 ∧ ∀ b, u0.ownBlock = some b → b < w'.heap.size ∧ v'.ownBlock ≠ some b ∧ B ≤ b ∧ v2.ownBlock ≠ some b := by
      intro u0 l0 hr hs0
      refine ⟨Rd.grown hr hgr fun b hb e => (hs0 b hb).2.1 e.symm, fun b hb => ⟨Nat.lt_of_lt_of_le (hs0 b hb).1 hgr.size, ?_, (hs0 b hb).2.2⟩⟩
      rcases hnear with hv | ⟨g', hg', hle⟩
      · rw [hv]; exact (hs0 b hb).2.1
      · rw [hg']; intro e; cases e; have := (hs0 b hb).1; omega
    by_cases hi : i < vs.length
    · rw [List.getElem?_append_left hi] at hu'
      rw [List.getElem?_append_left (by omega)] at hl'
      exact key u' l' (h2 i u' l' hu' hl').1 (h2 i u' l' hu' hl').2
    · rw [List.getElem?_append_right (by omega)] at hu'
      rw [List.getElem?_append_right (by omega)] at hl'
      have e1 : i - vs.length = 0 := by
        have := (List.getElem?_eq_some_iff.1 hu').1
        simpa using this
      have e2 : i - ls.length = 0 := by omega
      rw [e1] at hu'
      rw [e2] at hl'
      simp at hu' hl'
      subst hu'
      subst hl'
      exact key u l hu hsep
  · intro b hb e
    rcases hnear with hv | ⟨g', hg', hle⟩
    · rw [hv] at hb; exact h3 b hb e
    · rw [hg'] at hb; injection hb with hb; have := h5 b e; omega
  · refine h4.turn hgr fun b hb => ?_
    rcases hnear with hv | ⟨g', hg', hle⟩
    · left; rw [← hv]; exact hb
    · right; rw [hg'] at hb; injection hb with hb; omega
end
end Go.Proofs.Ytemdhbeegheefaa
