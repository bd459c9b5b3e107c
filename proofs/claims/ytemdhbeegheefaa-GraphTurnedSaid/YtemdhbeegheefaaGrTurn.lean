
/- The turned graph, rings and lines. No program in sight. No condition. -/
import Derived.Test.YtemdhbeegheefaaGrSets
import Derived.Test.YtemdhbeegheefaaGrEdge
import Derived.Test.YtemdhbeegheefaaGrNd
import Derived.Test.YtemdhbeegheefaaGrRefB
namespace Go.Proofs.Ytemdhbeegheefaa
namespace Gr
/-- Turned so far: the edges of the first i nodes, and the first k of the next one. -/
structure Tin (g : G) (i k : Nat) (ls : List (List Nat)) : Prop where
  len : ls.length = g.length
  mem : ∀ (y : Nat) (l : List Nat), ls[y]? = some l → ∀ x, x ∈ l ↔ (x < i ∧ E g x y) ∨ (x = i ∧ (y : Int) ∈ (g.getD i []).take k)
  short : ∀ l ∈ ls, l.length ≤ 12 * i + k
theorem Tin.zero (g : G) : Tin g 0 0 (List.replicate g.length []) := by
  refine ⟨by simp, fun y l hl x => ?_, fun l hl => ?_⟩
  · have := List.eq_of_mem_replicate (List.mem_of_getElem? hl)
    subst this
    simp
  · have := List.eq_of_mem_replicate hl
    subst this
    simp
theorem Tin.no {g : G} {i k : Nat} {ls : List (List Nat)} {z : Int} (h : Tin g i k ls) (hi : i < g.length) (hz : (g.getD i [])[k]? = some z) (he : edgeZ g i z = false) : Tin g i (k + 1) ls := by
  refine ⟨h.len, fun y l hl x => ?_, fun l hl => by have := h.short l hl; omega⟩
  rw [h.mem y l hl x, List.take_add_one, hz]
  have hy : y < g.length := by rw [← h.len]; exact (List.getElem?_eq_some_iff.1 hl).1
  have hne : (y : Int) ≠ z := fun e => by
    have := of_decide_eq_false he
    exact this ⟨by omega, by omega, by omega, by omega, by rw [Int.toNat_natCast]; exact List.mem_of_getElem? hz⟩
  simp [hne]
theorem Tin.yes {g : G} {i k y0 : Nat} {ls : List (List Nat)} {l0 : List Nat} (h : Tin g i k ls) (hz : (g.getD i [])[k]? = some (y0 : Int)) (hl0 : ls[y0]? = some l0) : Tin g i (k + 1) (ls.set y0 (l0 ++ [i])) := by
  have hy0 := (List.getElem?_eq_some_iff.1 hl0).1
  refine ⟨by simp [h.len], fun y l hl x => ?_, fun l hl => ?_⟩
  · rw [List.take_add_one, hz]
    rw [List.getElem?_set] at hl
    by_cases hy : y0 = y
    · subst hy
      rw [if_pos rfl, if_pos hy0] at hl
      injection hl with hl
      subst hl
      rw [List.mem_append, h.mem y0 l0 hl0 x]
      simp only [List.mem_singleton, List.mem_append, Option.toList_some]
      constructor
      · rintro ((h1 | ⟨h1, h2⟩) | h1)
        · exact .inl h1
        · exact .inr ⟨h1, by simp⟩
        · exact .inr ⟨h1, by simp⟩
      · rintro (h1 | ⟨h1, _⟩)
        · exact .inl (.inl h1)
        · exact .inr h1
    · rw [if_neg hy] at hl
      rw [h.mem y l hl x]
      have hne : (y : Int) ≠ (y0 : Int) := by omega
      simp [hne]
  · rcases List.mem_or_eq_of_mem_set hl with h1 | h1
    · have := h.short l h1; omega
    · subst h1
      have := h.short l0 (List.mem_of_getElem? hl0)
      rw [List.length_append, List.length_singleton]; omega
theorem Tin.next {g : G} {i : Nat} {ls : List (List Nat)} (hi : i < g.length) (h : Tin g i (g.getD i []).length ls) (h12 : (g.getD i []).length ≤ 12) : Tin g (i + 1) 0 ls := by
  refine ⟨h.len, fun y l hl x => ?_, fun l hl => by have := h.short l hl; omega⟩
  have hy : y < g.length := by rw [← h.len]; exact (List.getElem?_eq_some_iff.1 hl).1
  rw [h.mem y l hl x, List.take_length]
  constructor
  · rintro (⟨h1, h2⟩ | ⟨rfl, h2⟩)
    · exact .inl ⟨by omega, h2⟩
    · exact .inl ⟨by omega, hi, hy, h2⟩
  · rintro (⟨h1, h2⟩ | ⟨_, h2⟩)
    · by_cases hx : x = i
      · subst hx; exact .inr ⟨rfl, h2.2.2⟩
      · exact .inl ⟨by omega, h2⟩
    · simp at h2
theorem Tin.done {g : G} {ls : List (List Nat)} (h : Tin g g.length 0 ls) (a b : Nat) : E (ls.map nn) a b ↔ E g b a := by
  unfold E
  rw [List.length_map, h.len]
  constructor
  · rintro ⟨ha, hb, hm⟩
    have hl : ls[a]? = some (ls[a]'(by rw [h.len]; exact ha)) := List.getElem?_eq_getElem _
    rw [List.getD_eq_getElem?_getD, List.getElem?_map, hl] at hm
    obtain ⟨x, hx, e⟩ := List.mem_map.1 (show (b : Int) ∈ nn _ from hm)
    obtain rfl : x = b := by have e2 : (x : Int) = (b : Int) := e; omega
    rcases (h.mem a _ hl x).1 hx with h1 | ⟨h1, _⟩
    · exact h1.2
    · omega
  · rintro ⟨hb, ha, hm⟩
    refine ⟨ha, hb, ?_⟩
    have hl : ls[a]? = some (ls[a]'(by rw [h.len]; exact ha)) := List.getElem?_eq_getElem _
    rw [List.getD_eq_getElem?_getD, List.getElem?_map, hl]
    exact List.mem_map.2 ⟨b, (h.mem a _ hl b).2 (.inl ⟨hb, hb, ha, hm⟩), rfl⟩
/-- A ring. -/
def ringG (n : Nat) : G := tb n fun i => [((i + 1) % n : Nat)]
/-- A line; the last one leads nowhere. -/
def lineG (n : Nat) : G := tb n fun i => [((i + 1 : Nat) : Int)]
theorem ringG_len (n : Nat) : (ringG n).length = n := tb_len _ _
theorem lineG_len (n : Nat) : (lineG n).length = n := tb_len _ _
theorem lineG_each {n : Nat} {l : List Int} (h : l ∈ lineG n) : l.length = 1 := by
  obtain ⟨i, _, rfl⟩ := List.mem_map.1 h
  rfl
theorem ringG_each {n : Nat} {l : List Int} (h : l ∈ ringG n) : l.length = 1 := by
  obtain ⟨i, _, rfl⟩ := List.mem_map.1 h
  rfl
theorem ringG_E {n i : Nat} (hi : i + 1 < n) : E (ringG n) i (i + 1) := by
  refine ⟨by rw [ringG_len]; omega, by rw [ringG_len]; omega, ?_⟩
  rw [List.getD_eq_getElem?_getD, ringG, tb_get (by omega), Nat.mod_eq_of_lt hi]
  simp
theorem ringG_back {n : Nat} (hn : 0 < n) : E (ringG n) (n - 1) 0 := by
  refine ⟨by rw [ringG_len]; omega, by rw [ringG_len]; omega, ?_⟩
  rw [List.getD_eq_getElem?_getD, ringG, tb_get (by omega), show n - 1 + 1 = n by omega, Nat.mod_self]
  simp
theorem ringG_up {n a : Nat} : ∀ d, a + d < n → R (ringG n) a (a + d)
  | 0, _ => .refl _
  | d + 1, h => (ringG_up d (by omega)).tail (ringG_E h)
theorem ringG_R {n a b : Nat} (ha : a < n) (hb : b < n) : R (ringG n) a b := by
  have h1 := ringG_up (n := n) (a := a) (n - 1 - a) (by omega)
  rw [show a + (n - 1 - a) = n - 1 by omega] at h1
  have h2 := h1.tail (ringG_back (by omega))
  have h3 := ringG_up (n := n) (a := 0) b (by omega)
  rw [Nat.zero_add] at h3
  exact h2.trans h3
theorem ringG_one {n : Nat} (hn : 0 < n) : (groups (ringG n)).length = 1 :=
  groups_single (by rw [ringG_len]; exact hn) fun _ _ ha hb => ringG_R (by rw [ringG_len] at ha; exact ha) (by rw [ringG_len] at hb; exact hb)
theorem lineG_E {n a b : Nat} (h : E (lineG n) a b) : b = a + 1 := by
  have ha := h.1
  rw [lineG_len] at ha
  have := h.2.2
  rw [List.getD_eq_getElem?_getD, lineG, tb_get ha] at this
  have h2 : (b : Int) = ((a + 1 : Nat) : Int) := by simpa using this
  omega
theorem lineG_many (n : Nat) : (groups (lineG n)).length = n := by
  have := (groups_alone (g := lineG n) fun a b h => by have := lineG_E h; omega).1
  rw [this, lineG_len]
theorem lineG_cyc {n : Nat} {x : List Nat} (hx : x ∈ groups (lineG n)) : cyc (lineG n) (nn x) = false := by
  obtain ⟨v, _, rfl⟩ := (groups_alone (g := lineG n) fun a b h => by have := lineG_E h; omega).2 x hx
  have : edgeZ (lineG n) (v : Int) (v : Int) = false := by
    rw [edgeZ_nat, ← Bool.not_eq_true, edge_iff]
    intro h
    have := lineG_E h
    omega
  simp [cyc, nn, this]
theorem ringG_cyc {n : Nat} (hn : 2 ≤ n) : cyc (ringG n) [0, 1] = true := by
  have : edgeZ (ringG n) (0 : Int) (1 : Int) = true := by
    have := edgeZ_nat (ringG n) 0 1
    rw [edge_iff.2 (ringG_E (i := 0) (by omega))] at this
    exact this
  simp [cyc, this]
end Gr
end Go.Proofs.Ytemdhbeegheefaa
