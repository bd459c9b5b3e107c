
/- In which group each node is. No program in sight. No condition. -/
import Derived.Test.YtemdhbeegheefaaGrSets
import Derived.Test.YtemdhbeegheefaaGrNd
namespace Go.Proofs.Ytemdhbeegheefaa
namespace Gr
/-- The place of a node's group. -/
def pos (g : G) (v : Nat) : Nat := (groups g).findIdx fun x => x.contains v
theorem pos_of {g : G} {c v : Nat} {x : List Nat} (hx : (groups g)[c]? = some x) (hv : v ∈ x) : pos g v = c := by
  have hc := (List.getElem?_eq_some_iff.1 hx).1
  have hxe := (List.getElem?_eq_some_iff.1 hx).2
  unfold pos
  rw [List.findIdx_eq hc]
  refine ⟨by rw [hxe, List.contains_iff_mem]; exact hv, fun j hj => ?_⟩
  have hap := List.pairwise_iff_getElem.1 (groups_ok g).apart j c (by omega) hc hj
  rw [← Bool.not_eq_true, List.contains_iff_mem]
  exact fun hm => hap v hm (hxe ▸ hv)
theorem pos_mem {g : G} {v : Nat} (hv : v < g.length) : ∃ x, (groups g)[pos g v]? = some x ∧ v ∈ x ∧ pos g v < (groups g).length := by
  obtain ⟨c, hc⟩ := List.getElem?_of_mem (groups_has hv)
  have := pos_of hc (grp_self hv)
  rw [this]
  exact ⟨_, hc, grp_self hv, (List.getElem?_eq_some_iff.1 hc).1⟩
theorem pos_edge {g : G} {a b : Nat} (h : E g a b) : pos g a ≤ pos g b := by
  refine Nat.le_of_not_lt fun hlt => ?_
  obtain ⟨x, hx, hax, hxl⟩ := pos_mem h.1
  obtain ⟨y, hy, hby, hyl⟩ := pos_mem h.2.1
  have := List.pairwise_iff_getElem.1 (groups_ok g).onw _ _ hyl hxl hlt
  rw [(List.getElem?_eq_some_iff.1 hx).2, (List.getElem?_eq_some_iff.1 hy).2] at this
  exact this a hax b hby h
theorem pos_way {g : G} {a b : Nat} (ha : a < g.length) (hb : b < g.length) (h : pos g a = pos g b) (hne : b ≠ a) : way g a b = true := by
  obtain ⟨x, hx, hax, _⟩ := pos_mem ha
  obtain ⟨y, hy, hby, _⟩ := pos_mem hb
  rw [h, hy] at hx
  injection hx with hx
  rw [← hx] at hax
  obtain ⟨v, hv, rfl⟩ := groups_one (List.mem_of_getElem? hy)
  have hs := (same_iff.1 (same_trans (same_symm (grp_mem.1 hax).2) (grp_mem.1 hby).2)).1
  rcases hs.split with e | ⟨j, h1, h2⟩
  · exact absurd e.symm hne
  · exact way_iff.2 ⟨j, h1, h2⟩
/-- Where the nodes are told to be, when c groups are told, and k nodes of the next one. -/
def atS (g : G) (c k : Nat) : List Int := tb g.length fun v => if pos g v < c ∨ (pos g v = c ∧ v ∈ ((groups g).getD c []).take k) then (pos g v : Int) else -1
theorem atS_len (g : G) (c k : Nat) : (atS g c k).length = g.length := tb_len _ _
theorem atS_zero (g : G) : atS g 0 0 = List.replicate g.length (-1) := by
  rw [replicate_tb]
  apply tb_congr
  intro v _
  rw [if_neg]
  simp
theorem atS_next (g : G) {c k : Nat} (hk : ((groups g).getD c []).length ≤ k) : atS g c k = atS g (c + 1) 0 := by
  apply tb_congr
  intro v hv
  rw [List.take_of_length_le hk]
  obtain ⟨x, hx, hvx, _⟩ := pos_mem hv
  by_cases h : pos g v < c
  · rw [if_pos (.inl h), if_pos (.inl (by omega))]
  · by_cases h2 : pos g v = c
    · have e : (groups g).getD c [] = x := by rw [h2] at hx; rw [List.getD_eq_getElem?_getD, hx]; rfl
      rw [if_pos (.inr ⟨h2, by rw [e]; exact hvx⟩), if_pos (.inl (by omega))]
    · rw [if_neg (by rintro (h3 | ⟨h3, _⟩) <;> omega), if_neg (by
        rintro (h3 | ⟨h3, h4⟩)
        · omega
        · simp at h4)]
theorem atS_set (g : G) {c k v : Nat} {x : List Nat} (hx : (groups g)[c]? = some x) (hk : x[k]? = some v) : (atS g c k).set v (c : Int) = atS g c (k + 1) := by
  have e : (groups g).getD c [] = x := by rw [List.getD_eq_getElem?_getD, hx]; rfl
  have hp := pos_of hx (List.mem_of_getElem? hk)
  unfold atS
  rw [tb_set]
  apply tb_congr
  intro y _
  by_cases hy : y = v
  · subst hy
    rw [if_pos rfl, if_pos (.inr ⟨hp, by rw [e, List.take_add_one, hk]; simp⟩), hp]
  · rw [if_neg hy]
    have : (pos g y < c ∨ pos g y = c ∧ y ∈ ((groups g).getD c []).take k) ↔ (pos g y < c ∨ pos g y = c ∧ y ∈ ((groups g).getD c []).take (k + 1)) := by
      rw [e, List.take_add_one, hk]
      simp [hy]
    by_cases h : pos g y < c ∨ pos g y = c ∧ y ∈ ((groups g).getD c []).take k
    · rw [if_pos h, if_pos (this.1 h)]
    · rw [if_neg h, if_neg (fun h2 => h (this.2 h2))]
theorem atS_new (g : G) {c k v : Nat} {x : List Nat} (hx : (groups g)[c]? = some x) (hk : x[k]? = some v) (hv : v < g.length) : (atS g c k)[v]? = some (-1) := by
  have e : (groups g).getD c [] = x := by rw [List.getD_eq_getElem?_getD, hx]; rfl
  have hp := pos_of hx (List.mem_of_getElem? hk)
  unfold atS
  rw [tb_get hv, if_neg]
  rintro (h | ⟨_, h⟩)
  · omega
  · rw [e] at h
    obtain ⟨u, _, rfl⟩ := groups_one (List.mem_of_getElem? hx)
    obtain ⟨j, hj⟩ := List.getElem?_of_mem h
    rw [List.getElem?_take] at hj
    split at hj
    · rename_i hjk
      have h1 := (List.getElem?_eq_some_iff.1 hj)
      have h2 := (List.getElem?_eq_some_iff.1 hk)
      have := List.pairwise_iff_getElem.1 (grp_sorted g u) j k h1.1 h2.1 hjk
      rw [h1.2, h2.2] at this
      omega
    · cases hj
theorem atS_all (g : G) {v : Nat} (hv : v < g.length) : (atS g (groups g).length 0)[v]? = some (pos g v : Int) := by
  obtain ⟨_, _, _, h⟩ := pos_mem hv
  unfold atS
  rw [tb_get hv, if_pos (.inl h)]
theorem groups_lt {g : G} {c k v : Nat} {x : List Nat} (hx : (groups g)[c]? = some x) (hk : x[k]? = some v) : v < g.length := by
  obtain ⟨u, _, rfl⟩ := groups_one (List.mem_of_getElem? hx)
  exact (grp_mem.1 (List.mem_of_getElem? hk)).1
theorem groups_rise {g : G} {c k v u : Nat} {x : List Nat} (hx : (groups g)[c]? = some x) (hk : x[k + 1]? = some v) (hk0 : x[k]? = some u) : u < v := by
  obtain ⟨z, _, rfl⟩ := groups_one (List.mem_of_getElem? hx)
  have h1 := (List.getElem?_eq_some_iff.1 hk0)
  have h2 := (List.getElem?_eq_some_iff.1 hk)
  have := List.pairwise_iff_getElem.1 (grp_sorted g z) k (k + 1) h1.1 h2.1 (by omega)
  rw [h1.2, h2.2] at this
  exact this
theorem groups_some {g : G} {c : Nat} {x : List Nat} (hx : (groups g)[c]? = some x) : 0 < x.length := by
  obtain ⟨u, hu, rfl⟩ := groups_one (List.mem_of_getElem? hx)
  exact List.length_pos_of_mem (grp_self hu)
end Gr
end Go.Proofs.Ytemdhbeegheefaa
