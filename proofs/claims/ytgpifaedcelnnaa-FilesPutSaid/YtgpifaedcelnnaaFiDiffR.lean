
/- What differs in two maps, by walking both at once: no program in sight. No condition. -/
import Derived.Test.YtgpifaedcelnnaaFiMerge
namespace Go.Proofs.Ytgpifaedcelnnaa
open Go.RowKit

theorem cb_lt : ∀ {a b : List UInt8}, Lib.compareBytes a b < 0 → a < b
  | [], [], h => by simp [Lib.compareBytes] at h
  | [], b :: ys, h => List.Lex.nil
  | a :: xs, [], h => by simp [Lib.compareBytes] at h
  | a :: xs, b :: ys, h => by
    rw [Lib.compareBytes] at h
    split at h
    · rename_i h1
      exact List.Lex.rel h1
    · split at h
      · omega
      · rename_i h1 h2
        have e : a = b := by
          apply UInt8.le_antisymm
          · exact UInt8.not_lt.1 h2
          · exact UInt8.not_lt.1 h1
        subst e
        exact List.Lex.cons (cb_lt h)
theorem cb_le {a b : List UInt8} (h : Lib.compareBytes a b < 0) : a ≤ b := List.le_of_lt (cb_lt h)
/-- The walk. -/
def diffR : List Fl → List Fl → List (List UInt8)
  | [], b => b.map Prod.fst
  | a, [] => a.map Prod.fst
  | f :: r, g :: s => if Lib.compareBytes f.1 g.1 < 0 then f.1 :: diffR r (g :: s) else if Lib.compareBytes g.1 f.1 < 0 then g.1 :: diffR (f :: r) s else (if f.2 = g.2 then [] else [f.1]) ++ diffR r s
termination_by a b => a.length + b.length
theorem diffR_nil (b : List Fl) : diffR [] b = b.map Prod.fst := by rw [diffR]
theorem diffR_end (a : List Fl) : diffR a [] = a.map Prod.fst := by cases a <;> simp [diffR]
theorem diffR_cons (f g : Fl) (r s : List Fl) : diffR (f :: r) (g :: s) = if Lib.compareBytes f.1 g.1 < 0 then f.1 :: diffR r (g :: s) else if Lib.compareBytes g.1 f.1 < 0 then g.1 :: diffR (f :: r) s else (if f.2 = g.2 then [] else [f.1]) ++ diffR r s := by rw [diffR]
theorem ord_cons {f : Fl} {r : List Fl} : Fi.Ord (f :: r) ↔ (∀ x ∈ r, Lib.compareBytes f.1 x.1 < 0) ∧ Fi.Ord r := by
  unfold Fi.Ord Sorted Fi.names
  rw [List.map_cons, List.pairwise_cons]
  constructor
  · rintro ⟨h1, h2⟩
    exact ⟨fun x hx => h1 _ (List.mem_map.2 ⟨x, hx, rfl⟩), h2⟩
  · rintro ⟨h1, h2⟩
    refine ⟨fun a ha => ?_, h2⟩
    obtain ⟨x, hx, rfl⟩ := List.mem_map.1 ha
    exact h1 x hx
/-- A name that differs. -/
def Dn (a b : List Fl) (n : List UInt8) : Prop := (∃ f ∈ a, f ∉ b ∧ f.1 = n) ∨ ∃ f ∈ b, (∀ g ∈ a, g.1 ≠ f.1) ∧ f.1 = n
theorem lt_ne {a b : List UInt8} (h : Lib.compareBytes a b < 0) : a ≠ b := fun e => by rw [e, cb_self] at h; omega
theorem cb_three {a b : List UInt8} (h1 : ¬ Lib.compareBytes a b < 0) (h2 : ¬ Lib.compareBytes b a < 0) : a = b := by
  rw [cb_swap] at h2
  exact cb_eq (by omega)
theorem mem_diffR (k : Nat) : ∀ (a b : List Fl), a.length + b.length ≤ k → Fi.Ord a → Fi.Ord b → (diffR a b).Pairwise (fun x y => Lib.compareBytes x y < 0) ∧ ∀ n, n ∈ diffR a b ↔ Dn a b n := by
  induction k with
  | zero =>
    intro a b h ha hb
    have h1 : a = [] := List.eq_nil_of_length_eq_zero (by omega)
    have h2 : b = [] := List.eq_nil_of_length_eq_zero (by omega)
    subst h1 h2
    refine ⟨by rw [diffR_nil]; exact List.Pairwise.nil, fun n => ?_⟩
    rw [diffR_nil]
    simp [Dn]
  | succ k ih =>
    intro a b h ha hb
    cases a with
    | nil =>
      rw [diffR_nil]
      refine ⟨hb, fun n => ?_⟩
      simp only [Dn, List.mem_map, List.not_mem_nil, false_and, exists_false, false_or, false_implies, implies_true, true_and]
    | cons f r =>
      cases b with
      | nil =>
        rw [diffR_end]
        refine ⟨ha, fun n => ?_⟩
        simp only [Dn, List.mem_map, List.not_mem_nil, false_and, exists_false, or_false, not_false_eq_true, true_and]
      | cons g s =>
        obtain ⟨ha1, ha2⟩ := ord_cons.1 ha
        obtain ⟨hb1, hb2⟩ := ord_cons.1 hb
        simp only [List.length_cons] at h
        rw [diffR_cons]
        by_cases h1 : Lib.compareBytes f.1 g.1 < 0
        · rw [if_pos h1]
          obtain ⟨p1, p2⟩ := ih r (g :: s) (by simp only [List.length_cons]; omega) ha2 hb
          have hfb : ∀ x ∈ g :: s, Lib.compareBytes f.1 x.1 < 0 := fun x hx => by
            rcases List.mem_cons.1 hx with rfl | hx
            · exact h1
            · exact cb_trans h1 (hb1 x hx)
          refine ⟨List.pairwise_cons.2 ⟨fun n hn => ?_, p1⟩, fun n => ?_⟩
          · rcases (p2 n).1 hn with ⟨x, hx, _, rfl⟩ | ⟨x, hx, _, rfl⟩
            · exact ha1 x hx
            · exact hfb x hx
          · rw [List.mem_cons, p2]
            constructor
            · rintro (rfl | ⟨x, hx, hn, e⟩ | ⟨x, hx, hn, e⟩)
              · exact .inl ⟨f, List.mem_cons_self .., fun hf => lt_ne (hfb f hf) rfl, rfl⟩
              · exact .inl ⟨x, List.mem_cons_of_mem _ hx, hn, e⟩
              · refine .inr ⟨x, hx, fun y hy => ?_, e⟩
                rcases List.mem_cons.1 hy with rfl | hy
                · exact lt_ne (hfb x hx)
                · exact hn y hy
            · rintro (⟨x, hx, hn, e⟩ | ⟨x, hx, hn, e⟩)
              · rcases List.mem_cons.1 hx with rfl | hx
                · exact .inl e.symm
                · exact .inr (.inl ⟨x, hx, hn, e⟩)
              · exact .inr (.inr ⟨x, hx, fun y hy => hn y (List.mem_cons_of_mem _ hy), e⟩)
        · rw [if_neg h1]
          by_cases h2 : Lib.compareBytes g.1 f.1 < 0
          · rw [if_pos h2]
            obtain ⟨p1, p2⟩ := ih (f :: r) s (by simp only [List.length_cons]; omega) ha hb2
            have hga : ∀ x ∈ f :: r, Lib.compareBytes g.1 x.1 < 0 := fun x hx => by
              rcases List.mem_cons.1 hx with rfl | hx
              · exact h2
              · exact cb_trans h2 (ha1 x hx)
            refine ⟨List.pairwise_cons.2 ⟨fun n hn => ?_, p1⟩, fun n => ?_⟩
            · rcases (p2 n).1 hn with ⟨x, hx, _, rfl⟩ | ⟨x, hx, _, rfl⟩
              · exact hga x hx
              · exact hb1 x hx
            · rw [List.mem_cons, p2]
              constructor
              · rintro (rfl | ⟨x, hx, hn, e⟩ | ⟨x, hx, hn, e⟩)
                · exact .inr ⟨g, List.mem_cons_self .., fun y hy => (lt_ne (hga y hy)).symm, rfl⟩
                · refine .inl ⟨x, hx, fun hm => ?_, e⟩
                  rcases List.mem_cons.1 hm with rfl | hm
                  · exact lt_ne (hga x hx) rfl
                  · exact hn hm
                · exact .inr ⟨x, List.mem_cons_of_mem _ hx, hn, e⟩
              · rintro (⟨x, hx, hn, e⟩ | ⟨x, hx, hn, e⟩)
                · exact .inr (.inl ⟨x, hx, fun hm => hn (List.mem_cons_of_mem _ hm), e⟩)
                · rcases List.mem_cons.1 hx with rfl | hx
                  · exact .inl e.symm
                  · exact .inr (.inr ⟨x, hx, hn, e⟩)
          · rw [if_neg h2]
            have hfg := cb_three h1 h2
            obtain ⟨p1, p2⟩ := ih r s (by omega) ha2 hb2
            have hfs : ∀ x ∈ s, Lib.compareBytes f.1 x.1 < 0 := fun x hx => by rw [hfg]; exact hb1 x hx
            have hgr : ∀ x ∈ r, Lib.compareBytes g.1 x.1 < 0 := fun x hx => by rw [← hfg]; exact ha1 x hx
            have key : ∀ n, Dn (f :: r) (g :: s) n ↔ (f.2 ≠ g.2 ∧ n = f.1) ∨ Dn r s n := fun n => by
              constructor
              · rintro (⟨x, hx, hn, e⟩ | ⟨x, hx, hn, e⟩)
                · rcases List.mem_cons.1 hx with rfl | hx
                  · exact .inl ⟨fun e2 => hn (List.mem_cons.2 (.inl (Prod.ext hfg e2))), e.symm⟩
                  · exact .inr (.inl ⟨x, hx, fun hm => hn (List.mem_cons_of_mem _ hm), e⟩)
                · rcases List.mem_cons.1 hx with rfl | hx
                  · exact absurd hfg (hn f (List.mem_cons_self ..))
                  · exact .inr (.inr ⟨x, hx, fun y hy => hn y (List.mem_cons_of_mem _ hy), e⟩)
              · rintro (⟨hne, rfl⟩ | ⟨x, hx, hn, e⟩ | ⟨x, hx, hn, e⟩)
                · refine .inl ⟨f, List.mem_cons_self .., fun hm => ?_, rfl⟩
                  rcases List.mem_cons.1 hm with e2 | hm
                  · exact hne (by rw [e2])
                  · exact lt_ne (hfs f hm) rfl
                · refine .inl ⟨x, List.mem_cons_of_mem _ hx, fun hm => ?_, e⟩
                  rcases List.mem_cons.1 hm with rfl | hm
                  · exact lt_ne (hgr x hx) rfl
                  · exact hn hm
                · refine .inr ⟨x, List.mem_cons_of_mem _ hx, fun y hy => ?_, e⟩
                  rcases List.mem_cons.1 hy with rfl | hy
                  · exact lt_ne (hfs x hx)
                  · exact hn y hy
            by_cases ht : f.2 = g.2
            · rw [if_pos ht, List.nil_append]
              refine ⟨p1, fun n => ?_⟩
              rw [p2, key]
              simp [ht]
            · rw [if_neg ht, List.singleton_append]
              refine ⟨List.pairwise_cons.2 ⟨fun n hn => ?_, p1⟩, fun n => ?_⟩
              · rcases (p2 n).1 hn with ⟨x, hx, _, rfl⟩ | ⟨x, hx, _, rfl⟩
                · exact ha1 x hx
                · exact hfs x hx
              · rw [List.mem_cons, p2, key]
                simp [ht]
theorem diffR_is {a b : List Fl} (ha : Fi.Ord a) (hb : Fi.Ord b) : diffR a b = diffS a b := by
  obtain ⟨p1, p2⟩ := mem_diffR (a.length + b.length) a b (Nat.le_refl _) ha hb
  have hnd : (diffR a b).Nodup := p1.imp fun h => lt_ne h
  have hp : (diffR a b).Perm (dA a b ++ dB a b) := (List.perm_ext_iff_of_nodup hnd (diff_nodup ha hb)).2 fun n => by
    rw [p2, List.mem_append, mem_dA, mem_dB]; rfl
  have hs := sort_ext hp
  unfold diffS
  rw [← hs]
  exact (List.mergeSort_of_pairwise (p1.imp fun h => by simpa using cb_le h)).symm
/-- 'Same' by looking each up. -/
theorem same_is {a b : List Fl} (ha : Fi.Ord a) (hb : Fi.Ord b) : (a.all b.contains && decide (a.length = b.length)) = (a == b) := by
  rw [Bool.eq_iff_iff, Bool.and_eq_true, beq_iff_eq, decide_eq_true_iff, List.all_eq_true]
  constructor
  · rintro ⟨h1, h2⟩
    have hf : Fi.Ord (b.filter a.contains) := by
      unfold Fi.Ord Sorted Fi.names at hb ⊢
      exact hb.sublist ((List.filter_sublist (l := b)).map _)
    have e : a = b.filter a.contains := ord_ext ha hf fun f => by
      rw [List.mem_filter, List.contains_iff_mem]
      exact ⟨fun h => ⟨by simpa using h1 f h, h⟩, fun h => h.2⟩
    have hl : (b.filter a.contains).length = b.length := by rw [← e]; exact h2
    have h3 := List.length_filter_eq_length_iff.1 hl
    exact ord_ext ha hb fun f => ⟨fun h => by simpa using h1 f h, fun h => by simpa using h3 f h⟩
  · rintro rfl
    exact ⟨fun f hf => by simpa using hf, rfl⟩

end Go.Proofs.Ytgpifaedcelnnaa
