
/- Rows of numbers that the call owns, in a row of its own. No condition. -/
import Derived.Test.YtemdhbeegheefaaGrFind
import Derived.Test.YtemdhbeegheefaaGrNd
namespace Go.Proofs.Ytemdhbeegheefaa
open Go.RowKit Gr

/-- What a fresh row of lists holds. -/
abbrev nilV : Value := .slice none 0 0
structure Gw (w : World) (B b : Nat) (vs : List Value) (ls : List (List Nat)) : Prop where
  out : Ro w b 23 vs
  len : vs.length = ls.length
  row : ∀ (i : Nat) (v : Value) (l : List Nat), vs[i]? = some v → ls[i]? = some l → w.ownsRow B 3 1 v l.length (ints (nn l))
  apart : ∀ (i j : Nat) (v u : Value), vs[i]? = some v → vs[j]? = some u → i ≠ j → ∀ x, v.ownBlock = some x → u.ownBlock ≠ some x
theorem Gw.made {w : World} {b n B : Nat} (h : Ro w b 23 (List.replicate n nilV)) : Gw w B b (List.replicate n nilV) (List.replicate n []) := by
  refine ⟨h, by simp, fun i v l hv hl => ?_, fun i j v u hv _ _ x hx => ?_⟩
  · have h1 := List.eq_of_mem_replicate (List.mem_of_getElem? hv)
    have h2 := List.eq_of_mem_replicate (List.mem_of_getElem? hl)
    subst h1 h2
    exact World.ownsRow_nil _ _ _ _
  · have h1 := List.eq_of_mem_replicate (List.mem_of_getElem? hv)
    subst h1
    cases hx
theorem Gw.get {w : World} {B b : Nat} {vs : List Value} {ls : List (List Nat)} (h : Gw w B b vs ls) {i : Nat} {l : List Nat} (hi : ls[i]? = some l) : ∃ v, vs[i]? = some v ∧ w.cell? ⟨b, i, none⟩ = some v ∧ w.ownsRow B 3 1 v l.length (ints (nn l)) := by
  have hl : i < vs.length := by rw [h.len]; exact (List.getElem?_eq_some_iff.1 hi).1
  exact ⟨vs[i], List.getElem?_eq_getElem hl, h.out.cell (List.getElem?_eq_getElem hl), h.row i _ l (List.getElem?_eq_getElem hl) hi⟩
theorem Gw.lt {w : World} {B b : Nat} {vs : List Value} {ls : List (List Nat)} (h : Gw w B b vs ls) {i : Nat} {v : Value} (hv : vs[i]? = some v) : ∀ x, v.ownBlock = some x → B ≤ x ∧ x < w.heap.size := by
  have hl : i < ls.length := by rw [← h.len]; exact (List.getElem?_eq_some_iff.1 hv).1
  exact fun x hx => (h.row i v _ hv (List.getElem?_eq_getElem hl)).lt x hx
theorem Gw.ne {w : World} {B b : Nat} {vs : List Value} {ls : List (List Nat)} (h : Gw w B b vs ls) {i : Nat} {v : Value} (hv : vs[i]? = some v) : v.ownBlock ≠ some b := by
  have hl : i < ls.length := by rw [← h.len]; exact (List.getElem?_eq_some_iff.1 hv).1
  exact h.out.ne_own (by decide) (h.row i v _ hv (List.getElem?_eq_getElem hl))
theorem Gw.kw {w w' : World} {p : Nat → Prop} {B b : Nat} {vs : List Value} {ls : List (List Nat)} (h : Gw w B b vs ls) (hk : Kw w w' p) (hb : ¬ p b) (hv : ∀ (i : Nat) (v : Value), vs[i]? = some v → ∀ x, v.ownBlock = some x → ¬ p x) : Gw w' B b vs ls :=
  ⟨h.out.kw hk hb, h.len, fun i v l h1 h2 => hk.row (h.row i v l h1 h2) (hv i v h1), h.apart⟩
/-- What turns lies above: the grid below stays. -/
theorem Gw.below {w w' : World} {B b : Nat} {vs : List Value} {ls : List (List Nat)} (h : Gw w B b vs ls) (hk : Below w.heap.size w w') : Gw w' B b vs ls :=
  h.kw (Kw.of_below hk) (by have := h.out.lt; omega) fun i v hv x hx => by have := (h.lt hv x hx).2; omega
/-- A row has grown: it is laid back. -/
theorem Gw.step {w w' : World} {B b : Nat} {vs : List Value} {ls : List (List Nat)} (h : Gw w B b vs ls) {i : Nat} {v v' : Value} {l l' : List Nat} (hv : vs[i]? = some v) (_hl : ls[i]? = some l) (hk : Kw w w' fun j => v.ownBlock = some j) (hn : Near w v v')
    (ho : w'.ownsRow B 3 1 v' l'.length (ints (nn l'))) : Gw (w'.setCell ⟨b, i, none⟩ v') B b (vs.set i v') (ls.set i l') := by
  have hb : Ro w' b 23 vs := h.out.kw hk (h.ne hv)
  have hset := Kw.set w' b i v'
  have hil : i < vs.length := (List.getElem?_eq_some_iff.1 hv).1
  have hv'b : v'.ownBlock ≠ some b := hb.ne_own (by decide) ho
  have hnew : ∀ (j : Nat) (u : Value), vs[j]? = some u → i ≠ j → ∀ x, v'.ownBlock = some x → u.ownBlock ≠ some x := fun j u hu hij x hx e => by
    rcases hn with h1 | ⟨g, h1, hle⟩
    · exact h.apart i j v u hv hu hij x (h1.symm.trans hx) e
    · rw [h1] at hx; injection hx with hx; subst hx
      have := (h.lt hu _ e).2; omega
  refine ⟨hb.set i v', by simp [h.len], fun j u l2 hu hl2 => ?_, fun j j2 u u2 hu hu2 hne x hx => ?_⟩
  · rw [List.getElem?_set] at hu hl2
    by_cases hij : i = j
    · subst hij
      rw [if_pos rfl, if_pos (by omega)] at hu
      rw [if_pos rfl, if_pos (by rw [← h.len]; omega)] at hl2
      injection hu with hu; injection hl2 with hl2; subst hu hl2
      exact hset.row ho fun x hx e => hv'b (e ▸ hx)
    · rw [if_neg hij] at hu hl2
      have h2 := hk.row (h.row j u l2 hu hl2) fun x hx e => h.apart i j v u hv hu hij x e hx
      exact hset.row h2 fun x hx e => h.ne hu (e ▸ hx)
  · rw [List.getElem?_set] at hu hu2
    by_cases hij : i = j
    · subst hij
      rw [if_pos rfl, if_pos hil] at hu
      injection hu with hu; subst hu
      rw [if_neg hne] at hu2
      exact hnew j2 u2 hu2 hne x hx
    · rw [if_neg hij] at hu
      by_cases hij2 : i = j2
      · subst hij2
        rw [if_pos rfl, if_pos hil] at hu2
        injection hu2 with hu2; subst hu2
        exact fun e => hnew j u hu hij x e hx
      · rw [if_neg hij2] at hu2
        exact h.apart j j2 u u2 hu hu2 hne x hx
/-- A row, read. -/
theorem Gw.ri {w : World} {B b : Nat} {vs : List Value} {ls : List (List Nat)} (h : Gw w B b vs ls) {i : Nat} {v : Value} {l : List Nat} (hv : vs[i]? = some v) (hl : ls[i]? = some l) : Ri w v (nn l) :=
  ri_own (by simpa using h.row i v l hv hl)
theorem Hp.kw {w w' : World} {p : Nat → Prop} {B b : Nat} {v : Value} {l : List Int} (h : Hp w B b v l) (hk : Kw w w' p) (hb : ¬ p b) (hr : ∀ g, v.ownBlock = some g → ¬ p g) : Hp w' B b v l :=
  ⟨(hk.block b h.box.lt hb).trans h.box, hk.row h.row hr⟩
/-- Rows of unlike elements lie apart. -/
theorem own_apart2 {w : World} {B B2 d e k k2 n n2 : Nat} {u v : Value} {xs ys : List Value} (h : w.ownsRow B d k u n xs) (h2 : w.ownsRow B2 e k2 v n2 ys) (hde : d ≠ e) : ∀ b, u.ownBlock = some b → v.ownBlock ≠ some b := by
  intro b hb e'
  rcases h2.2 with ⟨h0, _⟩ | ⟨g', cap, cur, hv, _, hg, _⟩
  · rw [h0] at e'; cases e'
  · subst hv
    injection e' with e'
    have e' : g' = b := e'
    subst e'
    exact (show Ro w g' e cur.toList by rw [Ro]; simpa using hg).ne_own (Ne.symm hde) h hb
/-- Rows of the grid, in a row of the call's own: what it reads as. -/
theorem Gw.rg {w : World} {B b many : Nat} {vs : List Value} {f : Nat → List Nat} (h : Gw w B b vs (tb many f)) {oc : List Nat} (hoc : ∀ c ∈ oc, c < many) {B2 T : Nat} {vo : Value} (ho : w.ownsRow B2 T 1 vo oc.length (oc.map fun c => vs.getD c nilV)) : Rg w vo ((oc.map f).map nn) := by
  refine ⟨_, by simpa using own_rd ho, fun i u l hu hl => ?_⟩
  rw [List.getElem?_map] at hu
  rw [List.map_map, List.getElem?_map] at hl
  cases hc : oc[i]? with
  | none => rw [hc] at hu; cases hu
  | some c =>
    rw [hc] at hu hl
    injection hu with hu
    injection hl with hl
    have hcm := hoc c (List.mem_of_getElem? hc)
    have hvl : c < vs.length := by rw [h.len, tb_len]; exact hcm
    have hv : vs[c]? = some u := by
      rw [← hu]
      show vs[c]? = some (vs[c]?.getD nilV)
      rw [List.getElem?_eq_getElem hvl]
      rfl
    rw [← hl]
    exact h.ri hv (tb_get hcm)
end Go.Proofs.Ytemdhbeegheefaa
