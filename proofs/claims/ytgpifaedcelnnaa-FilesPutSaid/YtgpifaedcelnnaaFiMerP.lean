
/- Maps of files: put, merge, get: what is in them. No program in sight. No condition. -/
import Derived.Test.YtgpifaedcelnnaaFiLawD
namespace Go.Proofs.Ytgpifaedcelnnaa
open Go.RowKit

theorem get_hasB (l : List Fl) (t : List UInt8) : (Fi.get l t).2 = Fi.has l t := by
  unfold Fi.get
  cases hf : l.find? (fun f => f.1 == t) with
  | none =>
    rw [List.find?_eq_none] at hf
    cases hq : Fi.has l t
    · rfl
    · obtain ⟨g, hg, e⟩ := (has_iff l t).1 hq
      exact absurd (by simpa using e) (hf g hg)
  | some f =>
    have h1 := List.find?_some hf
    have h2 := List.mem_of_find?_eq_some hf
    exact ((has_iff l t).2 ⟨f, h2, by simpa using h1⟩).symm
theorem get_none {l : List Fl} {t : List UInt8} (h : Fi.has l t = false) : Fi.get l t = ([], false) := by
  have h2 := get_hasB l t
  rw [h] at h2
  unfold Fi.get at h2 ⊢
  cases hf : l.find? (fun f => f.1 == t) with
  | none => rfl
  | some f => rw [hf] at h2; simp at h2
theorem get_mem {l : List Fl} (ho : Fi.Ord l) {f : Fl} (h : f ∈ l) : Fi.get l f.1 = (f.2, true) := by
  unfold Fi.get
  cases hf : l.find? (fun g => g.1 == f.1) with
  | none =>
    rw [List.find?_eq_none] at hf
    exact absurd (by simp) (hf f h)
  | some g =>
    have h1 := List.find?_some hf
    have h2 := List.mem_of_find?_eq_some hf
    have e : g = f := ord_name ho h2 h (by simpa using h1)
    subst e; rfl
theorem has_mem {l : List Fl} {f : Fl} (h : f ∈ l) : Fi.has l f.1 = true := (has_iff l f.1).2 ⟨f, h, rfl⟩
/-- Who is in a map with one more. -/
theorem mem_putL {l : List Fl} (h : Fi.Ord l) (f g : Fl) : g ∈ Fi.putL l f ↔ g = f ∨ (g ∈ l ∧ g.1 ≠ f.1) := by
  rw [← putL_ref h f rfl, List.mem_append, List.mem_cons]
  have hd : ∀ x, x ∈ Fi.drop l f.1 ↔ x ∈ l ∧ x.1 ≠ f.1 := fun x => by
    unfold Fi.drop
    rw [List.mem_filter]
    simp
  rw [← hd g]
  obtain ⟨n, hn⟩ : ∃ n, n = lb (Fi.names (Fi.drop l f.1)) f.1 := ⟨_, rfl⟩
  rw [← hn]
  have hm : g ∈ Fi.drop l f.1 ↔ g ∈ (Fi.drop l f.1).take n ∨ g ∈ (Fi.drop l f.1).drop n := by
    rw [← List.mem_append, List.take_append_drop]
  rw [hm]
  constructor
  · rintro (h | h | h)
    · exact .inr (.inl h)
    · exact .inl h
    · exact .inr (.inr h)
  · rintro (h | h | h)
    · exact .inr (.inl h)
    · exact .inl h
    · exact .inr (.inr h)
theorem put_eq {l : List Fl} {f : Fl} (h : (Fi.put l f).2 = 0) : Fi.put l f = (Fi.putL l f, 0) := by
  unfold Fi.put at h ⊢
  split
  · rename_i h1; rw [if_pos h1] at h; simp at h
  · rename_i h1
    rw [if_neg h1] at h
    split
    · rename_i h2; rw [if_pos h2] at h; simp at h
    · rfl
theorem put_goes {l : List Fl} {f : Fl} (h1 : Fi.okName f.1 = true) (h2 : f.2.length ≤ 4000) (h3 : Fi.has l f.1 = true ∨ l.length < 32) : (Fi.put l f).2 = 0 := by
  unfold Fi.put
  rw [if_neg (by simp [h1]), if_neg]
  rintro (h | ⟨h, h4⟩)
  · omega
  · rcases h3 with h3 | h3
    · rw [h] at h3; cases h3
    · omega
theorem mem_put {l : List Fl} (h : Fi.Ord l) {f : Fl} (h0 : (Fi.put l f).2 = 0) (g : Fl) : g ∈ (Fi.put l f).1 ↔ g = f ∨ (g ∈ l ∧ g.1 ≠ f.1) := by
  rw [put_eq h0]; exact mem_putL h f g
/-- The merging of few files goes. -/
theorem merge_goes : ∀ (b a : List Fl), OkAll b → Fi.Ord a → a.length + b.length ≤ 32 → (Fi.merge a b).2 = 0 := by
  intro b
  induction b with
  | nil => intro a _ _ _; rfl
  | cons f r ih =>
    intro a hb ha hl
    rw [List.length_cons] at hl
    have h0 : (Fi.put a f).2 = 0 := put_goes (hb f (List.mem_cons_self ..)).1 (hb f (List.mem_cons_self ..)).2 (.inr (by omega))
    rw [merge_go h0]
    have := put_len a f
    exact ih _ (fun g hg => hb g (List.mem_cons_of_mem _ hg)) (ord_put ha f) (by omega)
/-- The merging of files whose names are there goes. -/
theorem merge_again : ∀ (b a : List Fl), OkAll b → Fi.Ord a → (∀ f ∈ b, Fi.has a f.1 = true) → (Fi.merge a b).2 = 0 := by
  intro b
  induction b with
  | nil => intro a _ _ _; rfl
  | cons f r ih =>
    intro a hb ha hh
    have h0 : (Fi.put a f).2 = 0 := put_goes (hb f (List.mem_cons_self ..)).1 (hb f (List.mem_cons_self ..)).2 (.inl (hh f (List.mem_cons_self ..)))
    rw [merge_go h0]
    refine ih _ (fun g hg => hb g (List.mem_cons_of_mem _ hg)) (ord_put ha f) fun g hg => ?_
    obtain ⟨x, hx, e⟩ := (has_iff a g.1).1 (hh g (List.mem_cons_of_mem _ hg))
    by_cases hn : x.1 = f.1
    · exact (has_iff _ _).2 ⟨f, (mem_put ha h0 f).2 (.inl rfl), by rw [← hn, e]⟩
    · exact (has_iff _ _).2 ⟨x, (mem_put ha h0 x).2 (.inr ⟨hx, hn⟩), e⟩
/-- Who is in a merged map. -/
theorem mem_merge : ∀ (b a : List Fl), Fi.Ord a → Fi.Ord b → (Fi.merge a b).2 = 0 → Fi.Ord (Fi.merge a b).1 ∧ ∀ g, g ∈ (Fi.merge a b).1 ↔ g ∈ b ∨ (g ∈ a ∧ ∀ x ∈ b, x.1 ≠ g.1) := by
  intro b
  induction b with
  | nil =>
    intro a ha _ _
    refine ⟨ha, fun g => ?_⟩
    simp [merge_end]
  | cons f r ih =>
    intro a ha hb h
    by_cases h0 : (Fi.put a f).2 = 0
    · rw [merge_go h0] at h ⊢
      obtain ⟨hb1, hb2⟩ := ord_cons.1 hb
      obtain ⟨i1, i2⟩ := ih _ (ord_put ha f) hb2 h
      refine ⟨i1, fun g => ?_⟩
      rw [i2, mem_put ha h0]
      constructor
      · rintro (h | ⟨rfl | ⟨h1, h2⟩, h3⟩)
        · exact .inl (List.mem_cons_of_mem _ h)
        · exact .inl (List.mem_cons_self ..)
        · refine .inr ⟨h1, fun x hx => ?_⟩
          rcases List.mem_cons.1 hx with rfl | hx
          · exact h2.symm
          · exact h3 x hx
      · rintro (h | ⟨h1, h2⟩)
        · rcases List.mem_cons.1 h with rfl | h
          · exact .inr ⟨.inl rfl, fun x hx => (lt_ne (hb1 x hx)).symm⟩
          · exact .inl h
        · exact .inr ⟨.inr ⟨h1, (h2 f (List.mem_cons_self ..)).symm⟩, fun x hx => h2 x (List.mem_cons_of_mem _ hx)⟩
    · rw [merge_stop h0] at h
      exact absurd h h0
theorem mem_merge_ok {a b : List Fl} (ha : Fi.Ord a) (hb : Fi.Ord b) (oa : OkAll a) (ob : OkAll b) (h : (Fi.merge a b).2 = 0) : OkAll (Fi.merge a b).1 := fun g hg => by
  rcases ((mem_merge b a ha hb h).2 g).1 hg with h | h
  · exact ob g h
  · exact oa g h.1
/-- Merged once more: the same. -/
theorem merge_twice {a b : List Fl} (ha : Fi.Ord a) (hb : Fi.Ord b) (ob : OkAll b) (h : (Fi.merge a b).2 = 0) : Fi.merge (Fi.merge a b).1 b = ((Fi.merge a b).1, 0) := by
  obtain ⟨h1, h2⟩ := mem_merge b a ha hb h
  have h3 : (Fi.merge (Fi.merge a b).1 b).2 = 0 := merge_again b _ ob h1 fun f hf => (has_iff _ _).2 ⟨f, (h2 f).2 (.inl hf), rfl⟩
  obtain ⟨h4, h5⟩ := mem_merge b _ h1 hb h3
  refine Prod.ext ?_ h3
  refine ord_ext h4 h1 fun g => ?_
  rw [h5, h2]
  constructor
  · rintro (h | ⟨h, _⟩)
    · exact .inl h
    · exact h
  · rintro (h | ⟨h, h6⟩)
    · exact .inl h
    · exact .inr ⟨.inr ⟨h, h6⟩, h6⟩
/-- Got from a merged map. -/
theorem get_merge {a b : List Fl} (ha : Fi.Ord a) (hb : Fi.Ord b) (h : (Fi.merge a b).2 = 0) (t : List UInt8) : Fi.get (Fi.merge a b).1 t = if (Fi.get b t).2 = true then Fi.get b t else Fi.get a t := by
  obtain ⟨h1, h2⟩ := mem_merge b a ha hb h
  rw [get_hasB]
  cases hq : Fi.has b t
  · simp only [Bool.false_eq_true, if_false]
    have hnb : ∀ x ∈ b, x.1 ≠ t := fun x hx e => by
      have := (has_iff b t).2 ⟨x, hx, e⟩
      rw [hq] at this; cases this
    cases hr : Fi.has a t
    · rw [get_none hr]
      apply get_none
      cases hs : Fi.has (Fi.merge a b).1 t
      · rfl
      · obtain ⟨g, hg, e⟩ := (has_iff _ _).1 hs
        rcases (h2 g).1 hg with h | h
        · exact absurd e (hnb g h)
        · have := (has_iff a t).2 ⟨g, h.1, e⟩
          rw [hr] at this; cases this
    · obtain ⟨g, hg, rfl⟩ := (has_iff a t).1 hr
      rw [get_mem ha hg, get_mem h1 ((h2 g).2 (.inr ⟨hg, hnb⟩))]
  · simp only [if_true]
    obtain ⟨g, hg, rfl⟩ := (has_iff b t).1 hq
    rw [get_mem hb hg, get_mem h1 ((h2 g).2 (.inl hg))]
/-- What differs after merging is in the second. -/
theorem diff_merge {a b : List Fl} (ha : Fi.Ord a) (hb : Fi.Ord b) (h : (Fi.merge a b).2 = 0) {n : List UInt8} (hn : n ∈ diffS a (Fi.merge a b).1) : Fi.has b n = true := by
  obtain ⟨h1, h2⟩ := mem_merge b a ha hb h
  rcases mem_diff.1 hn with ⟨f, hf, hx, rfl⟩ | ⟨f, hf, hx, rfl⟩
  · cases hq : Fi.has b f.1
    · exfalso
      apply hx
      exact (h2 f).2 (.inr ⟨hf, fun x hx e => by
        have := (has_iff b f.1).2 ⟨x, hx, e⟩
        rw [hq] at this; cases this⟩)
    · rfl
  · rcases (h2 f).1 hf with h | h
    · exact has_mem h
    · exact absurd rfl (hx f h.1)

end Go.Proofs.Ytgpifaedcelnnaa
