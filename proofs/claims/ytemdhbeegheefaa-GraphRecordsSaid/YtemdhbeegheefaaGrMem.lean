
/- Lists of numbers, and lists of these, in memory. Of no program. No condition. -/
import Derived.Test.YtemdhbeegheefaaOwn
import Derived.Test.YtemdhbeegheefaaRow
import Derived.Sort.OwnSorted
namespace Go.Proofs.Ytemdhbeegheefaa
open Go.RowKit

theorem own_free {w : World} {base e n g c k : Nat} {xs : List Value} (h : w.ownsRow base e k (.slice (some ⟨g, 0, none⟩) n c) n xs) (j : Nat) : w.frozen? ⟨g, j, none⟩ = false := by
  rcases h.2 with ⟨h2, _⟩ | ⟨g', cap, cur, hv, hb, hg, _⟩
  · cases h2
  · cases hv; exact row_free hg j
theorem own_at {w : World} {base e n g c k : Nat} {xs : List Value} (h : w.ownsRow base e k (.slice (some ⟨g, 0, none⟩) n c) n xs) {j : Nat} {u : Value} (hj : xs[j]? = some u) : w.cell? ⟨g, j, none⟩ = some u := by
  have := h.cells (g := g) rfl j u hj
  rwa [addr_add, Nat.zero_add] at this

/-- A cell of what the call owns, set: rows of k cells. -/
theorem own_setk {w : World} {base e n g c k : Nat} {xs : List Value} (h : w.ownsRow base e k (.slice (some ⟨g, 0, none⟩) n c) n xs) (j : Nat) (x : Value) :
    (w.setCell ⟨g, j, none⟩ x).ownsRow base e k (.slice (some ⟨g, 0, none⟩) n c) n (xs.set j x) := by
  refine ⟨by rw [List.length_set]; exact h.1, ?_⟩
  rcases h.2 with ⟨h2, _⟩ | ⟨g', cap, cur, hv, hb, hg, hn, hc, hs, ht⟩
  · cases h2
  · cases hv
    refine .inr ⟨g, c, cur.set! j x, rfl, hb, row_set hg j x, hn, hc, by simp [hs], ?_⟩
    rw [← ht]
    simp [List.take_set]

theorem setCell_grown (w : World) (p : Addr) (x : Value) : w.grownBy (w.setCell p x) (some p.block) := by
  refine ⟨rfl, rfl, rfl, by simp [World.setCell], fun k _ hne => ?_⟩
  simp only [World.setCell]
  rw [Array.getElem?_modify]
  rw [if_neg (fun e => hne (by rw [e]))]

/-- The cells of numbers. -/
def ints (l : List Int) : List Value := l.map (Value.int .i64)
theorem ints_length (l : List Int) : (ints l).length = l.length := by simp [ints]
theorem ints_append (a b : List Int) : ints (a ++ b) = ints a ++ ints b := by simp [ints]
theorem ints_snoc (a : List Int) (x : Int) : ints (a ++ [x]) = ints a ++ [.int .i64 x] := by simp [ints]
theorem ints_at (l : List Int) (i : Nat) (h : i < l.length) : (ints l)[i]? = some (.int .i64 l[i]) := by simp [ints, h]
theorem ints_set (l : List Int) (i : Nat) (x : Int) : (ints l).set i (.int .i64 x) = ints (l.set i x) := by simp [ints, List.map_set]
theorem ints_one {l : List Int} : ∀ u ∈ ints l, u.oneCell' = true := by
  intro u hu
  obtain ⟨x, _, rfl⟩ := List.mem_map.1 hu
  rfl
/-- v reads as these numbers. -/
def Ri (w : World) (v : Value) (l : List Int) : Prop := Rd w 1 v l.length (ints l)
theorem Ri.rd {w : World} {v : Value} {l : List Int} (h : Ri w v l) : Rd w 1 v l.length (ints l) := h
theorem Ri.below' {w w' : World} {v : Value} {l : List Int} (h : Ri w v l) (hb : Below w.heap.size w w') : Ri w' v l := Rd.below' h hb
theorem Ri.shape {w : World} {v : Value} {l : List Int} (h : Ri w v l) : ∃ a c, v = .slice a l.length c := Rd.shape h
theorem Ri.at {w : World} {a : Option Addr} {n c : Nat} {l : List Int} (h : Ri w (.slice a n c) l) {i : Nat} (hi : i < l.length) :
    ∃ b o, a = some ⟨b, o, none⟩ ∧ w.cell? ⟨b, o + i, none⟩ = some (.int .i64 l[i]) := by
  rcases h.2 with ⟨_, h2⟩ | ⟨b, o, cap, hv, hlt, hc, _⟩
  · omega
  · cases hv
    exact ⟨b, o, rfl, hc _ _ (ints_at l i hi)⟩
theorem ri_nil (w : World) : Ri w (.slice none 0 0) [] := ⟨rfl, .inl ⟨.inl rfl, rfl⟩⟩
theorem ri_own {w : World} {B T : Nat} {v : Value} {l : List Int} (h : w.ownsRow B T 1 v l.length (ints l)) : Ri w v l := own_rd h
/-- Node numbers as numbers. -/
abbrev nn (l : List Nat) : List Int := l.map fun x : Nat => (x : Int)

/-! ### lists of lists of numbers -/
/-- v reads as these lists. -/
def Rg (w : World) (v : Value) (ls : List (List Int)) : Prop :=
  ∃ vs : List Value, Rd w 1 v ls.length vs ∧ ∀ (i : Nat) (u : Value) (l : List Int), vs[i]? = some u → ls[i]? = some l → Ri w u l

/-- The call owns the row; what it holds reads as these lists, and lies elsewhere. -/
def Og (w : World) (B : Nat) (T : TypeId) (v : Value) (ls : List (List Int)) : Prop :=
  ∃ vs : List Value, w.ownsRow B T 1 v ls.length vs ∧ ∀ (i : Nat) (u : Value) (l : List Int), vs[i]? = some u → ls[i]? = some l → Ri w u l ∧ ∀ b, u.ownBlock = some b → b < w.heap.size ∧ v.ownBlock ≠ some b ∧ B ≤ b

theorem Rg.below' {w w' : World} {v : Value} {ls : List (List Int)} (h : Rg w v ls) (hb : Below w.heap.size w w') : Rg w' v ls := by
  obtain ⟨vs, h1, h2⟩ := h
  exact ⟨vs, h1.below' hb, fun i u l hu hl => (h2 i u l hu hl).below' hb⟩
theorem Rg.drewN {w : World} {v : Value} {ls : List (List Int)} (h : Rg w v ls) (n : Nat) : Rg (w.drewN n) v ls := h
theorem Rg.shape {w : World} {v : Value} {ls : List (List Int)} (h : Rg w v ls) : ∃ a c, v = .slice a ls.length c := by
  obtain ⟨vs, h1, _⟩ := h
  exact h1.shape
theorem Rg.nil (w : World) : Rg w (.slice none 0 0) [] := ⟨[], ⟨rfl, .inl ⟨.inl rfl, rfl⟩⟩, by simp⟩
/-- One of the lists. -/
theorem Rg.at {w : World} {a : Option Addr} {n c : Nat} {ls : List (List Int)} (h : Rg w (.slice a n c) ls) {i : Nat} (hi : i < ls.length) :
    ∃ b o u, a = some ⟨b, o, none⟩ ∧ w.cell? ⟨b, o + i, none⟩ = some u ∧ Ri w u ls[i] ∧ b < w.heap.size ∧ ls.length ≤ c := by
  obtain ⟨vs, h1, h2⟩ := h
  have hl : vs.length = ls.length := by rw [h1.1, Nat.mul_one]
  rcases h1.2 with ⟨_, h0⟩ | ⟨b, o, cap, hv, hlt, hc, hcap⟩
  · omega
  · cases hv
    exact ⟨b, o, vs[i]'(by omega), rfl, hc _ _ (List.getElem?_eq_getElem (by omega)), h2 i _ _ (List.getElem?_eq_getElem (by omega)) (List.getElem?_eq_getElem hi), hlt (by omega), hcap⟩

theorem Og.own {w : World} {B : Nat} {T : TypeId} {v : Value} {ls : List (List Int)} (h : Og w B T v ls) : ∃ vs, w.ownsRow B T 1 v ls.length vs := by
  obtain ⟨vs, h1, _⟩ := h
  exact ⟨vs, h1⟩
theorem Og.under {w : World} {B : Nat} {T : TypeId} {v : Value} {ls : List (List Int)} (h : Og w B T v ls) : Under w.heap.size v := by
  obtain ⟨vs, h1, _⟩ := h
  exact own_under h1
theorem Og.shape {w : World} {B : Nat} {T : TypeId} {v : Value} {ls : List (List Int)} (h : Og w B T v ls) : ∃ a c, v = .slice a ls.length c := by
  obtain ⟨vs, h1, _⟩ := h
  exact own_shape h1
theorem Og.rts {w : World} {B : Nat} {T : TypeId} {v : Value} {ls : List (List Int)} (h : Og w B T v ls) : Rg w v ls := by
  obtain ⟨vs, h1, h2⟩ := h
  exact ⟨vs, own_rd h1, fun i u l hu hl => (h2 i u l hu hl).1⟩
theorem Og.drewN {w : World} {B : Nat} {T : TypeId} {v : Value} {ls : List (List Int)} (h : Og w B T v ls) (n : Nat) : Og (w.drewN n) B T v ls := h
theorem Og.nil (w : World) (B : Nat) (T : TypeId) : Og w B T (.slice none 0 0) [] := ⟨[], World.ownsRow_nil _ _ _ _, by simp⟩
theorem Og.made (w : World) (B : Nat) (T : TypeId) (hB : B ≤ w.heap.size) : Og (w.alloc (.cells #[] T)) B T (.slice (some ⟨w.heap.size, 0, none⟩) 0 0) [] :=
  ⟨[], World.ownsRow_made w #[] 0 hB (by decide) rfl, by simp⟩
theorem Og.below' {w w' : World} {B : Nat} {T : TypeId} {v : Value} {ls : List (List Int)} (h : Og w B T v ls) (hb : Below w.heap.size w w') : Og w' B T v ls := by
  obtain ⟨vs, h1, h2⟩ := h
  exact ⟨vs, own_below h1 (own_under h1) hb, fun i u l hu hl => ⟨(h2 i u l hu hl).1.below' hb, fun b hu' => ⟨Nat.lt_of_lt_of_le ((h2 i u l hu hl).2 b hu').1 hb.size, ((h2 i u l hu hl).2 b hu').2⟩⟩⟩
theorem Og.mono {w : World} {B B' : Nat} {T : TypeId} {v : Value} {ls : List (List Int)} (h : Og w B T v ls) (hB : B' ≤ B) : Og w B' T v ls := by
  obtain ⟨vs, h1, h2⟩ := h
  exact ⟨vs, own_mono h1 hB, fun i u l hu hl => ⟨(h2 i u l hu hl).1, fun b hb => ⟨((h2 i u l hu hl).2 b hb).1, ((h2 i u l hu hl).2 b hb).2.1, Nat.le_trans hB ((h2 i u l hu hl).2 b hb).2.2⟩⟩⟩

/-- A block below turns: what the call owns stays. -/
theorem Og.apart {w w' : World} {B g : Nat} {T : TypeId} {v : Value} {ls : List (List Int)} (h : Og w B T v ls) (hg : w.grownBy w' (some g)) (hlt : g < B) : Og w' B T v ls := by
  obtain ⟨vs, h1, h2⟩ := h
  refine ⟨vs, h1.kept hg ?_, fun i u l hu hl => ⟨Rd.grown (h2 i u l hu hl).1 hg fun b hb e => ?_, fun b hb => ⟨Nat.lt_of_lt_of_le ((h2 i u l hu hl).2 b hb).1 hg.size, ((h2 i u l hu hl).2 b hb).2⟩⟩⟩
  · right; intro e; have := (h1.lt g e).1; omega
  · cases e; have := ((h2 i u l hu hl).2 _ hb).2.2; omega

section
variable {P : Program} {ops : Array Oper} {rest : List Oper} {o : Oper} {a : Act} {Q : Exit → Act → World → Prop} {w1 : World}
/-- 'v = append(v, u)': u a list. -/
theorem wp_og {t e bytes : Nat} {v u : Value} {ls : List (List Int)} {l : List Int} (T : SlTy P t e 1 bytes) (hgd : o.guard = none) (s x : Operand) (ho : o.op = .call { callee := .builtin .append, args := #[s, x], argTypes := #[t, t] })
    (B : Nat) (hown : Og w1 B e v ls) (hu : Ri w1 u l) (hsep : ∀ b, u.ownBlock = some b → b < w1.heap.size ∧ v.ownBlock ≠ some b ∧ B ≤ b) (hs : a.eval s = v) {g : Nat} (hx : a.eval x = .slice (some ⟨g, 0, none⟩) 1 1) (hg : g = w1.heap.size)
    (hone : u.oneCell' = true) (hlen : (ls.length + 1) * bytes ≤ 140737488355328) (hlen2 : ls.length ≤ 1000000000000000) (hB : B ≤ w1.heap.size)
    (h : ∀ v' w', Og w' B e v' (ls ++ [l]) → Below B w1 w' → wpList P ops Q rest (a.put o.dst v') w') :
    wpList P ops Q (o :: rest) a (w1.alloc (.cells #[u] e)) := by
  obtain ⟨vs, h1, h2⟩ := hown
  have hvl : vs.length = ls.length := by rw [h1.1, Nat.mul_one]
  refine wp_app2 (news := [u]) T hgd s x ho B h1 hs hx hg rfl (by simpa using hone) hlen hlen2 hB fun v' w' hown' hbel hgr hnear => h v' w' ⟨vs ++ [u], by simpa using hown', ?_⟩ hbel
  intro i u' l' hu' hl'
  have key : ∀ (u0 : Value) (l0 : List Int), Ri w1 u0 l0 → (∀ b, u0.ownBlock = some b → b < w1.heap.size ∧ v.ownBlock ≠ some b ∧ B ≤ b) → Ri w' u0 l0 ∧ ∀ b, u0.ownBlock = some b → b < w'.heap.size ∧ v'.ownBlock ≠ some b ∧ B ≤ b := by
    intro u0 l0 hr hs0
    refine ⟨Rd.grown hr hgr fun b hb e => (hs0 b hb).2.1 e.symm, fun b hb => ⟨Nat.lt_of_lt_of_le (hs0 b hb).1 hgr.size, ?_, (hs0 b hb).2.2⟩⟩
    rcases hnear with hv | ⟨g', hg', hle⟩
    · rw [hv]; exact (hs0 b hb).2.1
    · rw [hg']; intro e; cases e; have := (hs0 b hb).1; omega
  by_cases hi : i < vs.length
  · rw [List.getElem?_append_left hi] at hu'
    rw [List.getElem?_append_left (by omega)] at hl'
    exact key u' l' (h2 i u' l' hu' hl').1 (h2 i u' l' hu' hl').2
  · rw [List.getElem?_append_right (by omega)] at hu'
    rw [List.getElem?_append_right (by omega)] at hl'
    have e1 : i - vs.length = 0 := by
      have := (List.getElem?_eq_some_iff.1 hu').1
      simpa using this
    have e2 : i - ls.length = 0 := by omega
    rw [e1] at hu'
    rw [e2] at hl'
    simp at hu' hl'
    subst hu'
    subst hl'
    exact key u l hu hsep
end

end Go.Proofs.Ytemdhbeegheefaa
