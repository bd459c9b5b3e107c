
/- What the groups are: each node in just one; edges lead on; turned graphs, rings, lines. No program in sight. No condition. -/
import Derived.Test.YtemdhbeegheefaaGrPure
namespace Go.Proofs.Ytemdhbeegheefaa
namespace Gr

/-- What stands is whole groups. -/
def Whole (g : G) (st : List Bool) : Prop := ∀ a b, st.getD a false = true → same g a b = true → st.getD b false = true
theorem nextB_mem {g : G} {st : List Bool} {i : Nat} (h : nextB g st = some i) : i < g.length ∧ st.getD i false = false ∧ free g st i = true := by
  unfold nextB at h
  have h1 := List.find?_some h
  have h2 := List.mem_of_find?_eq_some h
  rw [Bool.and_eq_true] at h1
  exact ⟨List.mem_range.1 h2, by simpa using h1.1, h1.2⟩
theorem countP_lt {α : Type} {p q : α → Bool} : ∀ (l : List α), (∀ x ∈ l, p x = true → q x = true) → (∃ a ∈ l, q a = true ∧ p a = false) → l.countP p < l.countP q
  | [], _, h => by obtain ⟨a, ha, _⟩ := h; cases ha
  | b :: l, h, hx => by
    have hle : l.countP p ≤ l.countP q := List.countP_mono_left fun x hx => h x (by simp [hx])
    rw [List.countP_cons, List.countP_cons]
    obtain ⟨a, ha, h1, h2⟩ := hx
    rcases List.mem_cons.1 ha with rfl | ha
    · rw [h1, h2]; simp; omega
    · have := countP_lt l (fun x hx => h x (by simp [hx])) ⟨a, ha, h1, h2⟩
      cases hp : p b
      · simp; omega
      · rw [h b (by simp) hp]; simp; omega
/-- A way, or none at all. -/
def rr (g : G) (u v : Nat) : Bool := u == v || way g u v
theorem rr_iff {g : G} {u v : Nat} : rr g u v = true ↔ R g u v := by
  rw [rr, Bool.or_eq_true, beq_iff_eq, way_iff]
  constructor
  · rintro (rfl | ⟨j, h1, h2⟩)
    · exact .refl _
    · exact .head h1 h2
  · intro h; exact h.split
theorem next_exists {g : G} {st : List Bool} : ∀ (m v : Nat), v < g.length → st.getD v false = false → (List.range g.length).countP (fun u => rr g u v) ≤ m → nextB g st ≠ none
  | 0, v, hv, _, hm => by
    have := List.countP_pos_iff (p := fun u => rr g u v) (l := List.range g.length) |>.2 ⟨v, List.mem_range.2 hv, rr_iff.2 (.refl v)⟩
    omega
  | m + 1, v, hv, hs, hm => by
    by_cases hf : free g st v = true
    · intro hn
      unfold nextB at hn
      have := List.find?_eq_none.1 hn v (List.mem_range.2 hv)
      rw [hs, hf] at this
      simp at this
    · rw [free_iff] at hf
      simp only [Classical.not_forall] at hf
      obtain ⟨k, j, h1, h2, h3, h4⟩ := hf
      have h4 := Classical.not_not.1 h4
      have h1 := same_iff.1 h1
      have hkv : R g k v := .head h4 h1.2
      have hvk : ¬ R g v k := fun h => by
        rw [same_iff.2 ⟨h, hkv⟩] at h2; cases h2
      refine next_exists m k h4.1 h3 ?_
      have := countP_lt (p := fun u => rr g u k) (q := fun u => rr g u v) (List.range g.length) (fun u _ hu => rr_iff.2 ((rr_iff.1 hu).trans hkv)) ⟨v, List.mem_range.2 hv, rr_iff.2 (.refl v), by
        rw [← Bool.not_eq_true]; exact fun h => hvk (rr_iff.1 h)⟩
      omega

theorem same_symm {g : G} {a b : Nat} (h : same g a b = true) : same g b a = true := same_iff.2 (same_iff.1 h).symm
theorem same_trans {g : G} {a b c : Nat} (h : same g a b = true) (k : same g b c = true) : same g a c = true :=
  same_iff.2 ⟨(same_iff.1 h).1.trans (same_iff.1 k).1, (same_iff.1 k).2.trans (same_iff.1 h).2⟩
theorem same_refl (g : G) (a : Nat) : same g a a = true := same_iff.2 ⟨.refl a, .refl a⟩
theorem grp_mem {g : G} {i k : Nat} : k ∈ grp g i ↔ k < g.length ∧ same g i k = true := by simp [grp]

/-- What these groups are, of what does not stand. -/
structure Gok (g : G) (st : List Bool) (l : List (List Nat)) : Prop where
  one : ∀ x ∈ l, ∃ v, v < g.length ∧ st.getD v false = false ∧ x = grp g v
  apart : l.Pairwise fun x y => ∀ a ∈ x, a ∉ y
  cover : ∀ k, k < g.length → st.getD k false = false → ∃ x ∈ l, k ∈ x
  onw : l.Pairwise fun x y => ∀ a ∈ y, ∀ b ∈ x, ¬ E g a b
theorem stood_get {g : G} {st : List Bool} {i k : Nat} (hk : k < g.length) : (stood g st i).getD k false = (st.getD k false || same g i k) := tab_get _ _ _ hk
theorem rest_ok {g : G} : ∀ (t : Nat) (st : List Bool), Whole g st → (List.range g.length).countP (fun k => !st.getD k false) ≤ t → Gok g st (rest g t st)
  | 0, st, _, hc => ⟨by simp [rest], by simp [rest], fun k hk hs => by
      have := List.countP_pos_iff (p := fun k => !st.getD k false) (l := List.range g.length) |>.2 ⟨k, List.mem_range.2 hk, by simpa using hs⟩
      omega, by simp [rest]⟩
  | t + 1, st, hw, hc => by
    cases hn : nextB g st with
    | none => 
      rw [rest_none hn]
      exact ⟨by simp, .nil, fun k hk hs => absurd hn (next_exists _ k hk hs (Nat.le_refl _)), .nil⟩
    | some i =>
      rw [rest_some hn]
      obtain ⟨hi, his, hif⟩ := nextB_mem hn
      have hw2 : Whole g (stood g st i) := fun a b ha hs => by
        by_cases hab : a = b
        · exact hab ▸ ha
        have hal : a < g.length := Classical.byContradiction fun h => by
          rw [stood, tab_out _ _ _ (by omega)] at ha; cases ha
        have hbl : b < g.length := (same_iff.1 hs).1.lt hal
        rw [stood_get hal, Bool.or_eq_true] at ha
        rw [stood_get hbl, Bool.or_eq_true]
        rcases ha with ha | ha
        · exact .inl (hw a b ha hs)
        · exact .inr (same_trans ha hs)
      have hlt := countP_lt (p := fun k => !(stood g st i).getD k false) (q := fun k => !st.getD k false) (List.range g.length) (fun k hk h => by
        rw [stood_get (List.mem_range.1 hk), Bool.not_or, Bool.and_eq_true] at h
        exact h.1) ⟨i, List.mem_range.2 hi, by simpa using his, by rw [stood_get hi, same_refl]; simp⟩
      have ih := rest_ok t (stood g st i) hw2 (by omega)
      have hone : ∀ x ∈ rest g t (stood g st i), ∃ v, v < g.length ∧ st.getD v false = false ∧ same g i v = false ∧ x = grp g v := fun x hx => by
        obtain ⟨v, h1, h2, h3⟩ := ih.one x hx
        rw [stood_get h1, Bool.or_eq_false_iff] at h2
        exact ⟨v, h1, h2.1, h2.2, h3⟩
      refine ⟨?_, ?_, ?_, ?_⟩
      · intro x hx
        rcases List.mem_cons.1 hx with rfl | hx
        · exact ⟨i, hi, his, rfl⟩
        · obtain ⟨v, h1, h2, _, h3⟩ := hone x hx
          exact ⟨v, h1, h2, h3⟩
      · refine List.pairwise_cons.2 ⟨fun y hy a ha hb => ?_, ih.apart⟩
        obtain ⟨v, _, _, h3, rfl⟩ := hone y hy
        have := same_trans (grp_mem.1 ha).2 (same_symm (grp_mem.1 hb).2)
        rw [this] at h3; cases h3
      · intro k hk hs
        by_cases h : same g i k = true
        · exact ⟨_, by simp, grp_mem.2 ⟨hk, h⟩⟩
        · obtain ⟨x, hx, hkx⟩ := ih.cover k hk (by rw [stood_get hk, hs]; simpa using h)
          exact ⟨x, by simp [hx], hkx⟩
      · refine List.pairwise_cons.2 ⟨fun y hy a ha b hb hE => ?_, ih.onw⟩
        obtain ⟨v, _, h2, h3, rfl⟩ := hone y hy
        have hav := (grp_mem.1 ha).2
        refine free_iff.1 hif a b (grp_mem.1 hb).2 ?_ ?_ hE
        · rw [← Bool.not_eq_true]; intro h
          have := same_trans h (same_symm hav)
          rw [this] at h3; cases h3
        · rw [← Bool.not_eq_true]; intro h
          have := hw a v h (same_symm hav)
          rw [this] at h2; cases h2
theorem tab_false (n k : Nat) : (tab n fun _ => false).getD k false = false := by
  by_cases h : k < n
  · rw [tab_get _ _ _ h]
  · rw [tab_out _ _ _ (by omega)]
/-- What the groups are. -/
theorem groups_ok (g : G) : Gok g (tab g.length fun _ => false) (groups g) :=
  rest_ok _ _ (fun a b h => by rw [tab_false] at h; cases h) (by
    have := List.countP_le_length (p := fun k => !(tab g.length fun _ => false).getD k false) (l := List.range g.length)
    simpa using this)
theorem groups_one {g : G} {x : List Nat} (h : x ∈ groups g) : ∃ v, v < g.length ∧ x = grp g v := by
  obtain ⟨v, h1, _, h2⟩ := (groups_ok g).one x h
  exact ⟨v, h1, h2⟩
theorem groups_has {g : G} {k : Nat} (hk : k < g.length) : grp g k ∈ groups g := by
  obtain ⟨x, hx, hkx⟩ := (groups_ok g).cover k hk (tab_false _ _)
  obtain ⟨v, _, rfl⟩ := groups_one hx
  have hv := (grp_mem.1 hkx).2
  have : grp g k = grp g v := by
    unfold grp
    refine List.filter_congr fun j _ => ?_
    rw [Bool.eq_iff_iff]
    exact ⟨fun h => same_trans hv h, fun h => same_trans (same_symm hv) h⟩
  rw [this]; exact hx
theorem groups_mem {g : G} {x : List Nat} : x ∈ groups g ↔ ∃ v, v < g.length ∧ x = grp g v :=
  ⟨groups_one, fun ⟨_, h1, h2⟩ => h2 ▸ groups_has h1⟩
theorem groups_nodup (g : G) : (groups g).Nodup := by
  refine List.Pairwise.imp_of_mem (R := fun x y => ∀ a ∈ x, a ∉ y) ?_ (groups_ok g).apart
  intro x y hx _ h e
  obtain ⟨v, h1, h2⟩ := groups_one hx
  have hm : v ∈ x := by rw [h2]; exact grp_mem.2 ⟨h1, same_refl g v⟩
  exact h v hm (e ▸ hm)
theorem grp_self {g : G} {v : Nat} (h : v < g.length) : v ∈ grp g v := grp_mem.2 ⟨h, same_refl g v⟩
theorem grp_sorted (g : G) (v : Nat) : (grp g v).Pairwise (· < ·) := List.pairwise_lt_range.filter _
theorem reach_mem {g : G} {i k : Nat} : k ∈ reach g i ↔ way g i k = true := by
  rw [reach, List.mem_filter, List.mem_range]
  exact ⟨fun h => h.2, fun h => ⟨(way_lt h).2, h⟩⟩
theorem reach_sorted (g : G) (v : Nat) : (reach g v).Pairwise (· < ·) := List.pairwise_lt_range.filter _

/-! ### graphs that have the same ways -/
theorem same_len {a b : List (List Nat)} (ha : a.Nodup) (hb : b.Nodup) (h : ∀ x, x ∈ a ↔ x ∈ b) : a.length = b.length :=
  ((List.perm_ext_iff_of_nodup ha hb).2 h).length_eq
/-- One turned round has the same groups. -/
theorem groups_turned {g t : G} (hl : t.length = g.length) (hE : ∀ i k, E t i k ↔ E g k i) : (groups t).length = (groups g).length ∧ ∀ x, x ∈ groups g ↔ x ∈ groups t := by
  have hR : ∀ {g t : G}, (∀ i k, E t i k ↔ E g k i) → ∀ a b, R t a b → R g b a := fun hE a b h => by
    induction h with
    | refl => exact .refl _
    | tail _ e ih => exact .head ((hE _ _).1 e) ih
  have hs : ∀ a b, same t a b = same g a b := fun a b => by
    rw [Bool.eq_iff_iff, same_iff, same_iff]
    exact ⟨fun h => ⟨hR hE _ _ h.2, hR hE _ _ h.1⟩, fun h => ⟨hR (fun i k => (hE k i).symm) _ _ h.2, hR (fun i k => (hE k i).symm) _ _ h.1⟩⟩
  have hg : ∀ v, grp t v = grp g v := fun v => by
    unfold grp
    rw [hl]
    exact List.filter_congr fun j _ => hs v j
  have hm : ∀ x, x ∈ groups g ↔ x ∈ groups t := fun x => by
    rw [groups_mem, groups_mem, hl]
    simp only [hg]
  exact ⟨same_len (groups_nodup t) (groups_nodup g) fun x => (hm x).symm, hm⟩
/-- All hang together: one group. -/
theorem groups_single {g : G} (h0 : 0 < g.length) (h : ∀ a b, a < g.length → b < g.length → R g a b) : (groups g).length = 1 := by
  have : ∀ x, x ∈ groups g ↔ x ∈ [grp g 0] := fun x => by
    rw [groups_mem, List.mem_singleton]
    constructor
    · rintro ⟨v, hv, rfl⟩
      unfold grp
      refine List.filter_congr fun j hj => ?_
      have hj := List.mem_range.1 hj
      rw [same_iff.2 ⟨h v j hv hj, h j v hj hv⟩, same_iff.2 ⟨h 0 j h0 hj, h j 0 hj h0⟩]
    · intro e; exact ⟨0, h0, e⟩
  exact same_len (groups_nodup g) (by simp) this
/-- Ways lead upwards: each is alone. -/
theorem groups_alone {g : G} (h : ∀ a b, E g a b → a ≤ b) : (groups g).length = g.length ∧ ∀ x ∈ groups g, ∃ v, v < g.length ∧ x = [v] := by
  have hR : ∀ a b, R g a b → a ≤ b := fun a b r => by
    induction r with
    | refl => exact Nat.le_refl _
    | tail _ e ih => exact Nat.le_trans ih (h _ _ e)
  have hg : ∀ v, v < g.length → grp g v = [v] := fun v hv => by
    have hs := grp_sorted g v
    have hm : ∀ k, k ∈ grp g v ↔ k = v := fun k => by
      rw [grp_mem]
      constructor
      · rintro ⟨_, h2⟩
        have := same_iff.1 h2
        exact Nat.le_antisymm (hR _ _ this.2) (hR _ _ this.1)
      · rintro rfl; exact ⟨hv, same_refl g k⟩
    exact List.perm_singleton.1 ((List.perm_ext_iff_of_nodup (hs.imp fun h => Nat.ne_of_lt h) (by simp)).2 fun k => by rw [hm, List.mem_singleton])
  constructor
  · have : ∀ x, x ∈ groups g ↔ x ∈ (List.range g.length).map fun v => [v] := fun x => by
      rw [groups_mem, List.mem_map]
      constructor
      · rintro ⟨v, hv, rfl⟩; exact ⟨v, List.mem_range.2 hv, (hg v hv).symm⟩
      · rintro ⟨v, hv, rfl⟩; exact ⟨v, List.mem_range.1 hv, (hg v (List.mem_range.1 hv)).symm⟩
    have := same_len (groups_nodup g) (List.Pairwise.map _ (fun a b (hab : a < b) => by simp; omega) List.pairwise_lt_range) this
    simpa using this
  · intro x hx
    obtain ⟨v, hv, rfl⟩ := groups_one hx
    exact ⟨v, hv, hg v hv⟩
end Gr
end Go.Proofs.Ytemdhbeegheefaa
