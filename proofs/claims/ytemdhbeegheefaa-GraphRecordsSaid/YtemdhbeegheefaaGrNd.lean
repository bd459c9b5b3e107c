
/- Lists of groups' nodes, of what edges lead to, of how many are ahead. No program in sight. No condition. -/
import Derived.Test.YtemdhbeegheefaaGrGd
import Derived.Test.YtemdhbeegheefaaGrKahn
namespace Go.Proofs.Ytemdhbeegheefaa
namespace Gr

theorem Gd.cls {g : G} {s : St} (h : Gd g s []) (hall : ∀ x, x < g.length → s.idx.getD x 0 ≠ 0) : Cls g (fun v => s.grp.getD v 0) s.many := by
  have hS : s.stack = [] := h.iv.idle
  have hn : ∀ v, v ∉ s.stack := fun v => by rw [hS]; simp
  refine ⟨fun v hv => h.iv.num v (hall v hv) (hn v), fun c hc => ?_, fun a b ha hb => h.iv.same a b (hall a ha) (hn a) (hall b hb) (hn b), ?_⟩
  · obtain ⟨v, h1, _, h3⟩ := h.iv.onto c hc
    exact ⟨v, h.iv.lt v h1, h3⟩
  · have h1 := h.mn
    have h2 := h.cntLe
    omega

def tb {α : Type} (n : Nat) (f : Nat → α) : List α := (List.range n).map f
theorem tb_len {α : Type} (n : Nat) (f : Nat → α) : (tb n f).length = n := by simp [tb]
theorem tb_get {α : Type} {n : Nat} {f : Nat → α} {i : Nat} (h : i < n) : (tb n f)[i]? = some (f i) := by simp [tb, h]
theorem tb_set {α : Type} (n : Nat) (f : Nat → α) (i : Nat) (v : α) : (tb n f).set i v = tb n (fun c => if c = i then v else f c) := by
  apply List.ext_getElem?
  intro j
  by_cases hj : j < n
  · rw [tb_get hj, List.getElem?_set]
    by_cases e : i = j
    · subst e; simp [tb_len, hj]
    · rw [if_neg e, tb_get hj, if_neg (Ne.symm e)]
  · rw [List.getElem?_eq_none (by simp [tb_len]; omega), List.getElem?_eq_none (by simp [tb_len]; omega)]
theorem tb_congr {α : Type} {n : Nat} {f f' : Nat → α} (h : ∀ i, i < n → f i = f' i) : tb n f = tb n f' :=
  List.map_congr_left fun i hi => h i (List.mem_range.1 hi)

/-- The groups' nodes below i. -/
def ndf (gp : Nat → Nat) (i c : Nat) : List Nat := (List.range i).filter fun k => gp k == c
theorem ndf_succ (gp : Nat → Nat) (i c : Nat) : ndf gp (i + 1) c = if c = gp i then ndf gp i c ++ [i] else ndf gp i c := by
  unfold ndf
  rw [List.range_succ, List.filter_append]
  by_cases h : c = gp i
  · subst h; simp
  · rw [if_neg h]; simp [Ne.symm h]
theorem ndf_step (gp : Nat → Nat) (n i : Nat) : (tb n (ndf gp i)).set (gp i) (ndf gp i (gp i) ++ [i]) = tb n (ndf gp (i + 1)) := by
  rw [tb_set]
  apply tb_congr
  intro c _
  rw [ndf_succ]
  by_cases h : c = gp i
  · subst h; simp
  · rw [if_neg h, if_neg h]
theorem ndf_zero (gp : Nat → Nat) (n : Nat) : tb n (ndf gp 0) = List.replicate n [] := by
  apply List.ext_getElem?
  intro j
  by_cases hj : j < n
  · rw [tb_get hj]; simp [ndf, hj]
  · rw [List.getElem?_eq_none (by simp [tb_len]; omega), List.getElem?_eq_none (by simp; omega)]
theorem ndf_all (g : G) (gp : Nat → Nat) (c : Nat) : ndf gp g.length c = nd g gp c := rfl
theorem ndf_len (gp : Nat → Nat) (i c : Nat) : (ndf gp i c).length ≤ i := by
  have := List.length_filter_le (fun k => gp k == c) (List.range i)
  simpa [ndf] using this
theorem replicate_tb {α : Type} (n : Nat) (v : α) : List.replicate n v = tb n (fun _ => v) := by
  apply List.ext_getElem?
  intro j
  by_cases hj : j < n
  · rw [tb_get hj]; simp [hj]
  · rw [List.getElem?_eq_none (by simp; omega), List.getElem?_eq_none (by simp [tb_len]; omega)]

/-! ### edges, one by one -/
theorem ld_snoc (ks : List (Nat × Nat)) (a c x : Nat) : ld (ks ++ [(a, c)]) x = if x = a then ld ks x ++ [c] else ld ks x := by
  unfold ld
  rw [List.filter_append, List.map_append]
  by_cases h : x = a
  · subst h; simp
  · rw [if_neg h]; simp [Ne.symm h]
theorem ld_step (n : Nat) (ks : List (Nat × Nat)) (a c : Nat) : (tb n (ld ks)).set a (ld ks a ++ [c]) = tb n (ld (ks ++ [(a, c)])) := by
  rw [tb_set]
  apply tb_congr
  intro x _
  rw [ld_snoc]
  by_cases h : x = a
  · subst h; simp
  · rw [if_neg h, if_neg h]
theorem cnt_snoc (ks : List (Nat × Nat)) (a c x : Nat) : cnt (ks ++ [(a, c)]) [] x = if x = c then cnt ks [] x + 1 else cnt ks [] x := by
  unfold cnt
  rw [List.countP_append]
  by_cases h : x = c
  · subst h; simp
  · rw [if_neg h]; simp [Ne.symm h]
theorem cnt_step (n : Nat) (ks : List (Nat × Nat)) (a c : Nat) : (tb n (cnt ks [])).set c (cnt ks [] c + 1) = tb n (cnt (ks ++ [(a, c)]) []) := by
  rw [tb_set]
  apply tb_congr
  intro x _
  rw [cnt_snoc]
  by_cases h : x = c
  · subst h; simp
  · rw [if_neg h, if_neg h]
theorem cnt_le (ks : List (Nat × Nat)) (oc : List Nat) (c : Nat) : cnt ks oc c ≤ ks.length := List.countP_le_length
theorem ld_le (ks : List (Nat × Nat)) (c : Nat) : (ld ks c).length ≤ ks.length := by
  unfold ld
  rw [List.length_map]
  exact List.length_filter_le _ _

/-- The edges between groups that begin at a node below i, or are one of the first j of node i. -/
def Ep (g : G) (gp : Nat → Nat) (i j : Nat) (a c : Nat) : Prop :=
  ∃ x y t, (x < i ∨ (x = i ∧ t < j)) ∧ x < g.length ∧ y < g.length ∧ (g.getD x [])[t]? = some (y : Int) ∧ gp x = a ∧ gp y = c ∧ a ≠ c
theorem Ep_start (g : G) (gp : Nat → Nat) (a c : Nat) : ¬ Ep g gp 0 0 a c := by
  rintro ⟨x, y, t, h, _⟩; omega
theorem Ep_next (g : G) (gp : Nat → Nat) {i j : Nat} (hj : (g.getD i []).length ≤ j) (a c : Nat) : Ep g gp i j a c ↔ Ep g gp (i + 1) 0 a c := by
  constructor
  · rintro ⟨x, y, t, h, r⟩
    exact ⟨x, y, t, by omega, r⟩
  · rintro ⟨x, y, t, h, h1, h2, h3, r⟩
    refine ⟨x, y, t, ?_, h1, h2, h3, r⟩
    by_cases e : x = i
    · right
      subst e
      have := (List.getElem?_eq_some_iff.1 h3).1
      omega
    · left; omega
/-- One more edge is seen, that counts. -/
theorem Ep_add (g : G) (gp : Nat → Nat) {i j k : Nat} (hi : i < g.length) (hk : k < g.length) (he : (g.getD i [])[j]? = some (k : Int)) (hne : gp i ≠ gp k) (a c : Nat) : (Ep g gp i j a c ∨ (a = gp i ∧ c = gp k)) ↔ Ep g gp i (j + 1) a c := by
  constructor
  · rintro (⟨x, y, t, h, r⟩ | ⟨rfl, rfl⟩)
    · exact ⟨x, y, t, by omega, r⟩
    · exact ⟨i, k, j, by omega, hi, hk, he, rfl, rfl, hne⟩
  · rintro ⟨x, y, t, h, h1, h2, h3, rfl, rfl, h4⟩
    by_cases e : x = i ∧ t = j
    · right
      obtain ⟨rfl, rfl⟩ := e
      rw [he] at h3
      have : k = y := by injection h3 with h3; omega
      subst this
      exact ⟨rfl, rfl⟩
    · left; exact ⟨x, y, t, by omega, h1, h2, h3, rfl, rfl, h4⟩
/-- One more edge is seen, that does not. -/
theorem Ep_skip (g : G) (gp : Nat → Nat) {i j : Nat} {z : Int} (he : (g.getD i [])[j]? = some z) (hno : ∀ k : Nat, (k : Int) = z → k < g.length → gp i = gp k) (a c : Nat) : Ep g gp i j a c ↔ Ep g gp i (j + 1) a c := by
  constructor
  · rintro ⟨x, y, t, h, r⟩
    exact ⟨x, y, t, by omega, r⟩
  · rintro ⟨x, y, t, h, h1, h2, h3, rfl, rfl, h4⟩
    by_cases e : x = i ∧ t = j
    · obtain ⟨rfl, rfl⟩ := e
      rw [he] at h3
      exact absurd (hno y (by injection h3 with h3; exact h3.symm) h2) h4
    · exact ⟨x, y, t, by omega, h1, h2, h3, rfl, rfl, h4⟩
theorem Ep_all (g : G) (gp : Nat → Nat) (a c : Nat) : Ep g gp g.length 0 a c ↔ ∃ i j, E g i j ∧ gp i = a ∧ gp j = c ∧ a ≠ c := by
  constructor
  · rintro ⟨x, y, t, h, h1, h2, h3, r⟩
    exact ⟨x, y, ⟨h1, h2, List.mem_of_getElem? h3⟩, r⟩
  · rintro ⟨x, y, ⟨h1, h2, h3⟩, r⟩
    obtain ⟨t, ht⟩ := List.getElem?_of_mem h3
    exact ⟨x, y, t, .inl h1, h1, h2, ht, r⟩

/-! ### what is ready -/
/-- The least nodes of the groups below i that nothing is ahead of. -/
def rdy (g : G) (gp : Nat → Nat) (ks : List (Nat × Nat)) (i : Nat) : List Nat := ((List.range i).filter fun c => cnt ks [] c == 0).map (fst g gp)
theorem rdy_zero (g : G) (gp : Nat → Nat) (ks : List (Nat × Nat)) : rdy g gp ks 0 = [] := rfl
theorem rdy_yes (g : G) (gp : Nat → Nat) (ks : List (Nat × Nat)) {i : Nat} (h : cnt ks [] i = 0) : rdy g gp ks (i + 1) = rdy g gp ks i ++ [fst g gp i] := by
  unfold rdy
  rw [List.range_succ, List.filter_append, List.map_append]
  simp [h]
theorem rdy_no (g : G) (gp : Nat → Nat) (ks : List (Nat × Nat)) {i : Nat} (h : cnt ks [] i ≠ 0) : rdy g gp ks (i + 1) = rdy g gp ks i := by
  unfold rdy
  rw [List.range_succ, List.filter_append, List.map_append]
  simp [h]
theorem rdy_len (g : G) (gp : Nat → Nat) (ks : List (Nat × Nat)) (i : Nat) : (rdy g gp ks i).length ≤ i := by
  have := List.length_filter_le (fun c => cnt ks [] c == 0) (List.range i)
  simpa [rdy] using this
theorem kn_start {g : G} {gp : Nat → Nat} {many : Nat} (C : Cls g gp many) (ks : List (Nat × Nat)) : Kn g gp many [] (cnt ks []) (tb many (cnt ks [])) (rdy g gp ks many) := by
  refine ⟨List.nodup_nil, by simp, tb_len _ _, fun c hc => ?_, ?_, fun x => ?_, by simp⟩
  · rw [List.getD_eq_getElem?_getD, tb_get hc]; rfl
  · unfold rdy
    rw [List.Nodup, List.pairwise_map]
    refine (List.nodup_range.filter (fun c => cnt ks [] c == 0)).imp_of_mem fun {a b} ha hb hne he => hne ?_
    have h1 := (C.fst_mem (List.mem_range.1 (List.mem_filter.1 ha).1)).2
    have h2 := (C.fst_mem (List.mem_range.1 (List.mem_filter.1 hb).1)).2
    rw [← h1, ← h2, he]
  · simp only [rdy, List.mem_map, List.mem_filter, List.mem_range, beq_iff_eq]
    constructor
    · rintro ⟨c, ⟨h1, h2⟩, rfl⟩
      exact ⟨c, h1, by simp, h2, rfl⟩
    · rintro ⟨c, h1, _, h2, rfl⟩
      exact ⟨c, ⟨h1, h2⟩, rfl⟩
theorem Kn.hlen {g : G} {gp : Nat → Nat} {many : Nat} (C : Cls g gp many) {oc : List Nat} {ct : Nat → Nat} {ah h : List Nat} (k : Kn g gp many oc ct ah h) : h.length ≤ g.length :=
  nodup_len g.length h k.hn fun x hx => by
    obtain ⟨c, h1, _, _, rfl⟩ := (k.hm x).1 hx
    exact (C.fst_mem h1).1
theorem Kn.ocLen {g : G} {gp : Nat → Nat} {many : Nat} {oc : List Nat} {ct : Nat → Nat} {ah h : List Nat} (k : Kn g gp many oc ct ah h) : oc.length ≤ many := nodup_len many oc k.nd k.lt
theorem perm_nn {l : List Int} {m : List Nat} (h : l.Perm (nn m)) : ∃ h', l = nn h' ∧ h'.Perm m := by
  have e : l = nn (l.map Int.toNat) := by
    rw [nn, List.map_map]
    refine ((List.map_congr_left (g := id) fun x hx => ?_).trans (List.map_id l)).symm
    obtain ⟨y, _, rfl⟩ := List.mem_map.1 (h.mem_iff.1 hx)
    simp
  refine ⟨l.map Int.toNat, e, ?_⟩
  have := h.map Int.toNat
  rw [nn, List.map_map] at this
  have e2 : m.map (Int.toNat ∘ fun x : Nat => (x : Int)) = m := by
    refine (List.map_congr_left (g := id) fun x _ => ?_).trans (List.map_id m)
    simp
  rw [e2] at this
  exact this
theorem nn_getD (l : List Nat) (k : Nat) : (nn l).getD k 0 = ((l.getD k 0 : Nat) : Int) := by
  rw [List.getD_eq_getElem?_getD, List.getD_eq_getElem?_getD, List.getElem?_map]
  cases l[k]? <;> rfl
theorem take_succ' {α : Type} (l : List α) {j : Nat} (h : j < l.length) : l.take (j + 1) = l.take j ++ [l[j]] ∧ l = l.take j ++ l[j] :: l.drop (j + 1) := by
  refine ⟨by rw [List.take_append_getElem], ?_⟩
  rw [List.getElem_cons_drop, List.take_append_drop]
end Gr
end Go.Proofs.Ytemdhbeegheefaa
