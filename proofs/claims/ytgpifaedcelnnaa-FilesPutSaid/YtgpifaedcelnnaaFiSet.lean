
/- Maps of files: put in order, put from behind; what differs. No program in sight. No condition. -/
import Derived.Test.YtgpifaedcelnnaaFiLawA
namespace Go.Proofs.Ytgpifaedcelnnaa
open Go.RowKit

theorem ord_lt {a : List Fl} (h : Fi.Ord a) {i j : Nat} (hj : j < a.length) (hij : i < j) : Lib.compareBytes (a[i]'(by omega)).1 a[j].1 < 0 := by
  have := List.pairwise_iff_getElem.1 h i j (by rw [Fi.names_len]; omega) (by rw [Fi.names_len]; exact hj) hij
  rwa [Fi.names_at (by omega), Fi.names_at hj] at this
theorem ord_name {a : List Fl} (h : Fi.Ord a) {f g : Fl} (hf : f ∈ a) (hg : g ∈ a) (e : f.1 = g.1) : f = g := by
  obtain ⟨i, hi, rfl⟩ := List.getElem_of_mem hf
  obtain ⟨j, hj, rfl⟩ := List.getElem_of_mem hg
  rcases Nat.lt_trichotomy i j with h1 | h1 | h1
  · have := ord_lt h hj h1; rw [e, cb_self] at this; omega
  · subst h1; rfl
  · have := ord_lt h hi h1; rw [e, cb_self] at this; omega
theorem ord_files {a : List Fl} (h : Fi.Ord a) : a.Pairwise fun f g => Lib.compareBytes f.1 g.1 < 0 := by
  unfold Fi.Ord Sorted Fi.names at h
  exact List.pairwise_map.1 h
theorem ord_nodup {a : List Fl} (h : Fi.Ord a) : a.Nodup := (ord_files h).imp fun hlt e => by rw [e, cb_self] at hlt; omega
theorem names_nodup {a : List Fl} (h : Fi.Ord a) : (Fi.names a).Nodup := by
  unfold Fi.Ord Sorted at h
  exact h.imp fun hlt e => by rw [e, cb_self] at hlt; omega
/-- The same files make the same map. -/
theorem ord_ext {a b : List Fl} (ha : Fi.Ord a) (hb : Fi.Ord b) (h : ∀ f, f ∈ a ↔ f ∈ b) : a = b := by
  have hp : a.Perm b := (List.perm_ext_iff_of_nodup (ord_nodup ha) (ord_nodup hb)).2 h
  exact hp.eq_of_pairwise (le := fun f g => Lib.compareBytes f.1 g.1 < 0) (fun f g _ _ h1 h2 => by rw [cb_swap] at h2; omega) (ord_files ha) (ord_files hb)

theorem has_iff (l : List Fl) (t : List UInt8) : Fi.has l t = true ↔ ∃ f ∈ l, f.1 = t := by
  unfold Fi.has Fi.names
  rw [List.contains_iff_mem, List.mem_map]
theorem mem_dA {a b : List Fl} {n : List UInt8} : n ∈ dA a b ↔ ∃ f ∈ a, f ∉ b ∧ f.1 = n := by
  unfold dA
  simp only [List.mem_map, List.mem_filter, Bool.not_eq_true', List.contains_eq_mem, decide_eq_false_iff_not]
  constructor
  · rintro ⟨f, ⟨h1, h2⟩, e⟩; exact ⟨f, h1, h2, e⟩
  · rintro ⟨f, h1, h2, e⟩; exact ⟨f, ⟨h1, h2⟩, e⟩
theorem mem_dB {a b : List Fl} {n : List UInt8} : n ∈ dB a b ↔ ∃ f ∈ b, (∀ g ∈ a, g.1 ≠ f.1) ∧ f.1 = n := by
  unfold dB
  simp only [List.mem_map, List.mem_filter, Bool.not_eq_true']
  constructor
  · rintro ⟨f, ⟨h1, h2⟩, e⟩
    refine ⟨f, h1, fun g hg he => ?_, e⟩
    have := (has_iff a f.1).2 ⟨g, hg, he⟩
    rw [h2] at this; cases this
  · rintro ⟨f, h1, h2, e⟩
    refine ⟨f, ⟨h1, ?_⟩, e⟩
    cases hq : Fi.has a f.1
    · rfl
    · obtain ⟨g, hg, he⟩ := (has_iff a f.1).1 hq
      exact absurd he (h2 g hg)
/-- A name that differs: it is in one alone, or two files of it are. -/
theorem mem_diff {a b : List Fl} {n : List UInt8} : n ∈ diffS a b ↔ (∃ f ∈ a, f ∉ b ∧ f.1 = n) ∨ ∃ f ∈ b, (∀ g ∈ a, g.1 ≠ f.1) ∧ f.1 = n := by
  unfold diffS
  rw [List.mem_mergeSort, List.mem_append, mem_dA, mem_dB]
theorem diff_nodup {a b : List Fl} (ha : Fi.Ord a) (hb : Fi.Ord b) : (dA a b ++ dB a b).Nodup := by
  rw [List.nodup_append]
  refine ⟨?_, ?_, ?_⟩
  · exact (names_nodup ha).sublist ((List.filter_sublist (l := a)).map _)
  · exact (names_nodup hb).sublist ((List.filter_sublist (l := b)).map _)
  · intro n hn m hm e
    subst e
    obtain ⟨f, hf, _, e1⟩ := mem_dA.1 hn
    obtain ⟨g, _, hg, e2⟩ := mem_dB.1 hm
    exact hg f hf (e1.trans e2.symm)
theorem sorted_le (l : List (List UInt8)) : (l.mergeSort fun x y => decide (x ≤ y)).Pairwise fun x y => x ≤ y := by
  have := List.pairwise_mergeSort (le := fun x y : List UInt8 => decide (x ≤ y)) (fun x y z h1 h2 => by simp only [decide_eq_true_eq] at *; exact List.le_trans h1 h2) (fun x y => by simp only [Bool.or_eq_true, decide_eq_true_eq]; exact List.le_total x y) l
  exact this.imp fun h => by simpa using h
theorem sort_ext {l k : List (List UInt8)} (h : l.Perm k) : (l.mergeSort fun x y => decide (x ≤ y)) = k.mergeSort fun x y => decide (x ≤ y) := by
  have hp : (l.mergeSort fun x y => decide (x ≤ y)).Perm (k.mergeSort fun x y => decide (x ≤ y)) := ((List.mergeSort_perm l _).trans h).trans (List.mergeSort_perm k _).symm
  exact hp.eq_of_pairwise (le := fun x y => x ≤ y) (fun x y _ _ h1 h2 => List.le_antisymm h1 h2) (sorted_le l) (sorted_le k)
theorem diff_comm {a b : List Fl} (ha : Fi.Ord a) (hb : Fi.Ord b) : diffS a b = diffS b a := by
  unfold diffS
  refine sort_ext ((List.perm_ext_iff_of_nodup (diff_nodup ha hb) (diff_nodup hb ha)).2 fun n => ?_)
  rw [List.mem_append, List.mem_append, mem_dA, mem_dB, mem_dA, mem_dB]
  have key : ∀ (a b : List Fl), Fi.Ord a → Fi.Ord b → ((∃ f ∈ a, f ∉ b ∧ f.1 = n) ∨ ∃ f ∈ b, (∀ g ∈ a, g.1 ≠ f.1) ∧ f.1 = n) → (∃ f ∈ b, f ∉ a ∧ f.1 = n) ∨ ∃ f ∈ a, (∀ g ∈ b, g.1 ≠ f.1) ∧ f.1 = n := by
    intro a b ha hb h
    rcases h with ⟨f, hf, hn, e⟩ | ⟨f, hf, hn, e⟩
    · by_cases hx : ∃ g ∈ b, g.1 = f.1
      · obtain ⟨g, hg, eg⟩ := hx
        left
        refine ⟨g, hg, fun hga => ?_, eg.trans e⟩
        have := ord_name ha hga hf eg
        rw [this] at hg
        exact hn hg
      · right
        exact ⟨f, hf, fun g hg eg => hx ⟨g, hg, eg⟩, e⟩
    · left
      exact ⟨f, hf, fun hfa => hn f hfa rfl, e⟩
  exact ⟨key a b ha hb, key b a hb ha⟩
theorem diff_nil {a b : List Fl} (ha : Fi.Ord a) (hb : Fi.Ord b) : decide ((diffS a b).length = 0) = (a == b) := by
  rw [Bool.eq_iff_iff, decide_eq_true_iff, beq_iff_eq]
  constructor
  · intro h
    have h0 : ∀ n, n ∉ diffS a b := fun n hn => by rw [List.eq_nil_of_length_eq_zero h] at hn; cases hn
    have h1 : ∀ f ∈ a, f ∈ b := fun f hf => by
      by_cases hb' : f ∈ b
      · exact hb'
      · exact absurd (mem_diff.2 (.inl ⟨f, hf, hb', rfl⟩)) (h0 f.1)
    refine ord_ext ha hb fun f => ⟨h1 f, fun hf => ?_⟩
    by_cases hx : ∃ g ∈ a, g.1 = f.1
    · obtain ⟨g, hg, e⟩ := hx
      rw [← ord_name hb (h1 g hg) hf e]; exact hg
    · exact absurd (mem_diff.2 (.inr ⟨f, hf, fun g hg e => hx ⟨g, hg, e⟩, rfl⟩)) (h0 f.1)
  · rintro rfl
    rcases hl : diffS a a with _ | ⟨n, r⟩
    · rfl
    · exfalso
      have hn : n ∈ diffS a a := by rw [hl]; exact List.mem_cons_self ..
      rcases mem_diff.1 hn with ⟨f, hf, hx, _⟩ | ⟨f, hf, hx, _⟩
      · exact hx hf
      · exact hx f hf rfl

theorem ord_take {a : List Fl} (h : Fi.Ord a) (k : Nat) : Fi.Ord (a.take k) := by
  unfold Fi.Ord Sorted Fi.names at h ⊢
  exact h.sublist ((List.take_sublist k a).map _)
theorem ord_dropK {a : List Fl} (h : Fi.Ord a) (k : Nat) : Fi.Ord (a.drop k) := by
  unfold Fi.Ord Sorted Fi.names at h ⊢
  exact h.sublist ((List.drop_sublist k a).map _)
theorem put_take {a : List Fl} (h : Fi.Ord a) (hk : OkAll a) (hl : a.length ≤ 32) {k : Nat} (hlt : k < a.length) : Fi.put (a.take k) a[k] = (a.take (k + 1), 0) := by
  have hok := hk a[k] (List.getElem_mem hlt)
  have hl1 : (a.take k).length = k := by rw [List.length_take]; omega
  have hno : Fi.has (a.take k) a[k].1 = false := by
    cases hq : Fi.has (a.take k) a[k].1
    · rfl
    · obtain ⟨f, hf, e⟩ := (has_iff _ _).1 hq
      obtain ⟨i, hi, rfl⟩ := List.getElem_of_mem hf
      rw [hl1] at hi
      rw [List.getElem_take] at e
      have := ord_lt h hlt hi
      rw [e, cb_self] at this; omega
  have hlb : lb (Fi.names (a.take k)) a[k].1 = k := by
    refine lb_eq (by rw [Fi.names_len, hl1]; exact Nat.le_refl _) (fun x hx hxk => ?_) (fun hx => by rw [Fi.names_len, hl1] at hx; omega)
    rw [Fi.names_len, hl1] at hx
    rw [Fi.names_at (by rw [hl1]; exact hx), List.getElem_take]
    exact ord_lt h hlt hxk
  unfold Fi.put Fi.putL
  rw [if_neg (by rw [hok.1]; simp), if_neg (by rw [hl1]; omega), hno, hlb]
  simp only [Bool.false_eq_true, if_false]
  rw [List.take_take, Nat.min_self, List.drop_eq_nil_of_le (by omega), take_snoc a k hlt]
theorem put_front {a : List Fl} (h : Fi.Ord a) (hk : OkAll a) (hl : a.length ≤ 32) {j : Nat} (hlt : j < a.length) : Fi.put (a.drop (j + 1)) a[j] = (a.drop j, 0) := by
  have hok := hk a[j] (List.getElem_mem hlt)
  have hgt : ∀ x (hx : x < (a.drop (j + 1)).length), Lib.compareBytes a[j].1 (a.drop (j + 1))[x].1 < 0 := fun x hx => by
    rw [List.length_drop] at hx
    rw [List.getElem_drop]
    exact ord_lt h (by omega) (by omega)
  have hno : Fi.has (a.drop (j + 1)) a[j].1 = false := by
    cases hq : Fi.has (a.drop (j + 1)) a[j].1
    · rfl
    · obtain ⟨f, hf, e⟩ := (has_iff _ _).1 hq
      obtain ⟨i, hi, rfl⟩ := List.getElem_of_mem hf
      have := hgt i hi
      rw [e, cb_self] at this; omega
  have hlb : lb (Fi.names (a.drop (j + 1))) a[j].1 = 0 := by
    refine lb_eq (Nat.zero_le _) (fun x _ hx => by omega) (fun hx => ?_)
    rw [Fi.names_len] at hx
    rw [Fi.names_at hx]
    have := hgt 0 hx
    rw [cb_swap]; omega
  unfold Fi.put Fi.putL
  rw [if_neg (by rw [hok.1]; simp), if_neg (by rw [List.length_drop]; omega), hno, hlb]
  simp only [Bool.false_eq_true, if_false, List.take_zero, List.drop_zero, List.nil_append]
  rw [← drop_at hlt]

end Go.Proofs.Ytgpifaedcelnnaa
