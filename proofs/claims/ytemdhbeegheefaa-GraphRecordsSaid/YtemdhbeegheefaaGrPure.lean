
/- Graphs: ways and groups as the document has them, as plain functions; how groups come out in order. No program in sight. No condition. -/
import Derived.Test.YtemdhbeegheefaaGrTar
namespace Go.Proofs.Ytemdhbeegheefaa
namespace Gr

/-- An edge, told. -/
def edge (g : G) (i k : Nat) : Bool := decide (E g i k)
theorem edge_iff {g : G} {i k : Nat} : edge g i k = true ↔ E g i k := by simp [edge]
/-- The list of what holds at each node. -/
def tab (n : Nat) (f : Nat → Bool) : List Bool := (List.range n).map f
theorem tab_length (n : Nat) (f : Nat → Bool) : (tab n f).length = n := by simp [tab]
theorem tab_get (n : Nat) (f : Nat → Bool) (i : Nat) (h : i < n) : (tab n f).getD i false = f i := by simp [tab, h]
theorem tab_at (n : Nat) (f : Nat → Bool) (i : Nat) (h : i < n) : (tab n f)[i]? = some (f i) := by simp [tab, h]
theorem tab_out (n : Nat) (f : Nat → Bool) (i : Nat) (h : n ≤ i) : (tab n f).getD i false = false := by simp [tab, h]
theorem tab_set (n : Nat) (f : Nat → Bool) (i : Nat) (v : Bool) : (tab n f).set i v = tab n (fun j => if j = i then v else f j) := by
  apply List.ext_getElem (by simp [tab])
  intro j h1 h2
  simp only [tab, List.getElem_set, List.getElem_map, List.getElem_range]
  by_cases h : i = j
  · simp [h]
  · simp [h, Ne.symm h]
theorem tab_congr {n : Nat} {f f' : Nat → Bool} (h : ∀ i, i < n → f i = f' i) : tab n f = tab n f' := by
  apply List.map_congr_left
  intro i hi
  exact h i (List.mem_range.1 hi)

/-! ### ways -/
/-- Where ways lead, once a node is looked at. -/
def look (g : G) (b : List Bool) (k : Nat) : List Bool := tab g.length fun j => b.getD j false || (b.getD k false && edge g k j)
/-- Every node is looked at, in order. -/
def sweep (g : G) (b : List Bool) : List Bool := (List.range g.length).foldl (look g) b
/-- So many times. -/
def sweeps (g : G) (b : List Bool) : Nat → List Bool
  | 0 => b
  | t + 1 => sweep g (sweeps g b t)
/-- To which nodes ways lead from one. -/
def ways (g : G) (i : Nat) : List Bool := sweeps g (tab g.length (edge g i)) g.length
def way (g : G) (i k : Nat) : Bool := (ways g i).getD k false

theorem look_length (g : G) (b : List Bool) (k : Nat) : (look g b k).length = g.length := tab_length _ _
theorem fold_length (g : G) : ∀ (l : List Nat) (b : List Bool), b.length = g.length → (l.foldl (look g) b).length = g.length
  | [], _, h => h
  | _ :: l, _, _ => fold_length g l _ (look_length g _ _)
theorem sweeps_length (g : G) (b : List Bool) (h : b.length = g.length) : ∀ t, (sweeps g b t).length = g.length
  | 0 => h
  | t + 1 => fold_length g _ _ (sweeps_length g b h t)
theorem ways_length (g : G) (i : Nat) : (ways g i).length = g.length := sweeps_length g _ (tab_length _ _) _

/-- What is kept: only what a way leads to. -/
theorem look_sound {g : G} {b : List Bool} {p : Nat → Prop} (hp : ∀ a c, p a → E g a c → p c) (h : ∀ j, b.getD j false = true → p j) (k : Nat) : ∀ j, (look g b k).getD j false = true → p j := by
  intro j hj
  by_cases hl : j < g.length
  · rw [look, tab_get _ _ _ hl] at hj
    simp only [Bool.or_eq_true, Bool.and_eq_true] at hj
    rcases hj with hj | ⟨h1, h2⟩
    · exact h j hj
    · exact hp k j (h k h1) (edge_iff.1 h2)
  · rw [look, tab_out _ _ _ (by omega)] at hj
    cases hj
theorem fold_sound {g : G} {p : Nat → Prop} (hp : ∀ a c, p a → E g a c → p c) : ∀ (l : List Nat) (b : List Bool), (∀ j, b.getD j false = true → p j) → ∀ j, (l.foldl (look g) b).getD j false = true → p j
  | [], _, h => h
  | k :: l, _, h => fold_sound hp l _ (look_sound hp h k)
theorem sweeps_sound {g : G} {b : List Bool} {p : Nat → Prop} (hp : ∀ a c, p a → E g a c → p c) (h : ∀ j, b.getD j false = true → p j) : ∀ t j, (sweeps g b t).getD j false = true → p j
  | 0 => h
  | t + 1 => fold_sound hp _ _ (sweeps_sound hp h t)

theorem look_more (g : G) (b : List Bool) (k j : Nat) (hb : b.length = g.length) (h : b.getD j false = true) : (look g b k).getD j false = true := by
  have hl : j < g.length := by
    rw [← hb]
    rcases Nat.lt_or_ge j b.length with h1 | h1
    · exact h1
    · simp [h1] at h
  rw [look, tab_get _ _ _ hl, h]; rfl
theorem fold_more (g : G) (j : Nat) : ∀ (l : List Nat) (b : List Bool), b.length = g.length → b.getD j false = true → (l.foldl (look g) b).getD j false = true
  | [], _, _, h => h
  | k :: l, b, hb, h => fold_more g j l _ (look_length g b k) (look_more g b k j hb h)
theorem fold_has (g : G) (k j : Nat) (hE : E g k j) : ∀ (l : List Nat) (b : List Bool), b.length = g.length → k ∈ l → b.getD k false = true → (l.foldl (look g) b).getD j false = true
  | [], _, _, hm, _ => by cases hm
  | a :: l, b, hb, hm, h => by
    by_cases e : k = a
    · subst e
      refine fold_more g j l _ (look_length g b k) ?_
      rw [look, tab_get _ _ _ hE.2.1, h, edge_iff.2 hE]; simp
    · exact fold_has g k j hE l _ (look_length g b a) (by rcases List.mem_cons.1 hm with h | h; exact absurd h e; exact h) (look_more g b a k hb h)

/-- Trues among bools, counted. -/
theorem count_le {a b : List Bool} (hl : a.length = b.length) (h : ∀ j, a.getD j false = true → b.getD j false = true) : a.countP id ≤ b.countP id ∧ (a.countP id = b.countP id → a = b) := by
  induction a generalizing b with
  | nil => cases b with | nil => simp | cons _ _ => simp at hl
  | cons x a ih =>
    cases b with
    | nil => simp at hl
    | cons y b =>
      have h1 := ih (b := b) (by simpa using hl) fun j hj => by have := h (j + 1) (by simpa using hj); simpa using this
      have h2 := h 0
      simp only [List.getD_cons_zero] at h2
      cases x <;> cases y <;> simp at h2 ⊢
      · exact ⟨h1.1, fun e => h1.2 e⟩
      · exact ⟨by omega, fun e => by omega⟩
      · exact ⟨h1.1, fun e => h1.2 e⟩

/-- After so many sweeps nothing more is found, or as many are true. -/
theorem sweeps_done (g : G) (b : List Bool) (hb : b.length = g.length) : ∀ t, sweep g (sweeps g b t) = sweeps g b t ∨ t ≤ (sweeps g b t).countP id := by
  intro t
  induction t with
  | zero => right; simp
  | succ t ih =>
    have hl := sweeps_length g b hb t
    have hc := count_le (a := sweeps g b t) (b := sweep g (sweeps g b t)) (by rw [hl]; exact (fold_length g _ _ hl).symm) fun j hj => fold_more g j _ _ hl hj
    show sweep g (sweep g (sweeps g b t)) = sweep g (sweeps g b t) ∨ t + 1 ≤ (sweep g (sweeps g b t)).countP id
    rcases ih with h | h
    · left; rw [h, h]
    · by_cases e : (sweeps g b t).countP id = (sweep g (sweeps g b t)).countP id
      · left; rw [← hc.2 e, ← hc.2 e]
      · right; omega
/-- At the end nothing more is found. -/
theorem sweeps_fix (g : G) (b : List Bool) (hb : b.length = g.length) : sweep g (sweeps g b g.length) = sweeps g b g.length := by
  have hl := sweeps_length g b hb g.length
  rcases sweeps_done g b hb g.length with h | h
  · exact h
  · have hc := count_le (a := sweeps g b g.length) (b := sweep g (sweeps g b g.length)) (by rw [hl]; exact (fold_length g _ _ hl).symm) fun j hj => fold_more g j _ _ hl hj
    refine (hc.2 ?_).symm
    have h2 : (sweep g (sweeps g b g.length)).countP id ≤ (sweep g (sweeps g b g.length)).length := List.countP_le_length
    rw [sweep, fold_length g _ _ hl] at h2
    have h3 := hc.1
    unfold sweep at h3 ⊢
    omega

/-- To which nodes ways lead: of one edge or more. -/
theorem way_iff {g : G} {i k : Nat} : way g i k = true ↔ ∃ j, E g i j ∧ R g j k := by
  constructor
  · intro h
    refine sweeps_sound (p := fun k => ∃ j, E g i j ∧ R g j k) (fun a c ⟨j, h1, h2⟩ h3 => ⟨j, h1, h2.tail h3⟩) (fun j hj => ?_) _ k h
    by_cases hl : j < g.length
    · rw [tab_get _ _ _ hl] at hj
      exact ⟨j, edge_iff.1 hj, .refl _⟩
    · rw [tab_out _ _ _ (by omega)] at hj
      cases hj
  · intro ⟨j, h1, h2⟩
    have hlen : (tab g.length (edge g i)).length = g.length := tab_length _ _
    have key : ∀ t, (sweeps g (tab g.length (edge g i)) t).getD j false = true := by
      intro t
      induction t with
      | zero => show (tab _ _).getD j false = true; rw [tab_get _ _ _ h1.2.1]; exact edge_iff.2 h1
      | succ t ih => exact fold_more g j _ _ (sweeps_length g _ hlen t) ih
    induction h2 with
    | refl => exact key _
    | tail h2 h3 ih =>
      have h4 := fold_has g _ _ h3 (List.range g.length) _ (ways_length g i) (List.mem_range.2 h3.1) ih
      have h5 : sweep g (ways g i) = ways g i := sweeps_fix g _ hlen
      unfold way
      rw [← h5]
      exact h4

theorem R.split {g : G} {a b : Nat} (h : R g a b) : a = b ∨ ∃ j, E g a j ∧ R g j b := by
  induction h with
  | refl => exact .inl rfl
  | tail h1 h2 ih =>
    right
    rcases ih with rfl | ⟨j, h3, h4⟩
    · exact ⟨_, h2, .refl _⟩
    · exact ⟨j, h3, h4.tail h2⟩
theorem R.lt {g : G} {a b : Nat} (h : R g a b) (ha : a < g.length) : b < g.length := by
  induction h with
  | refl => exact ha
  | tail _ h2 _ => exact h2.2.1
theorem way_lt {g : G} {i k : Nat} (h : way g i k = true) : i < g.length ∧ k < g.length := by
  obtain ⟨j, h1, h2⟩ := way_iff.1 h
  exact ⟨h1.1, h2.lt h1.2.1⟩

/-! ### groups -/
/-- Nodes to which ways lead. -/
def reach (g : G) (i : Nat) : List Nat := (List.range g.length).filter fun k => way g i k
/-- Of one group. -/
def same (g : G) (i k : Nat) : Bool := i == k || (way g i k && way g k i)
theorem same_iff {g : G} {i k : Nat} : same g i k = true ↔ R g i k ∧ R g k i := by
  simp only [same, Bool.or_eq_true, beq_iff_eq, Bool.and_eq_true]
  constructor
  · rintro (rfl | ⟨h1, h2⟩)
    · exact ⟨.refl _, .refl _⟩
    · obtain ⟨j, h3, h4⟩ := way_iff.1 h1
      obtain ⟨j', h5, h6⟩ := way_iff.1 h2
      exact ⟨.head h3 h4, .head h5 h6⟩
  · rintro ⟨h1, h2⟩
    rcases h1.split with h | h
    · exact .inl h
    · rcases h2.split with h' | h'
      · exact .inl h'.symm
      · exact .inr ⟨way_iff.2 h, way_iff.2 h'⟩
/-- No edge leads to a node's group from one that does not stand. -/
def free (g : G) (st : List Bool) (i : Nat) : Bool :=
  (List.range g.length).all fun k => (List.range g.length).all fun j => !(same g i j && !same g i k && !st.getD k false && edge g k j)
theorem free_iff {g : G} {st : List Bool} {i : Nat} : free g st i = true ↔ ∀ k j, same g i j = true → same g i k = false → st.getD k false = false → ¬ E g k j := by
  simp only [free, List.all_eq_true, List.mem_range, Bool.not_eq_true', Bool.and_eq_false_imp, Bool.and_eq_true]
  constructor
  · intro h k j h1 h2 h3 hE
    have := h k hE.1 j hE.2.1 ⟨⟨h1, by simp [h2]⟩, by rw [h3]⟩
    rw [edge_iff.2 hE] at this
    cases this
  · intro h k _ j _ ⟨⟨h1, h2⟩, h3⟩
    have := h k j h1 (by simpa using h2) (by simpa using h3)
    rw [← edge_iff] at this
    simpa using this
/-- The node whose group stands next. -/
def nextB (g : G) (st : List Bool) : Option Nat := (List.range g.length).find? fun i => !st.getD i false && free g st i
theorem nextB_some {g : G} {st : List Bool} {i : Nat} (h1 : i < g.length) (h2 : st.getD i false = false) (h3 : free g st i = true) (h4 : ∀ j, j < i → ¬ (st.getD j false = false ∧ free g st j = true)) : nextB g st = some i := by
  unfold nextB
  rw [List.find?_range_eq_some]
  refine ⟨by simp only [h2, h3]; rfl, by simpa using h1, fun j hj => ?_⟩
  have := h4 j hj
  cases h5 : st.getD j false <;> cases h6 : free g st j <;> simp_all
theorem nextB_none {g : G} {st : List Bool} (h : ∀ i, i < g.length → st.getD i false = false → free g st i = false) : nextB g st = none := by
  unfold nextB
  rw [List.find?_eq_none]
  intro i hi
  have hi := List.mem_range.1 hi
  cases h5 : st.getD i false
  · rw [h i hi h5]; decide
  · simp
/-- A node's group. -/
def grp (g : G) (i : Nat) : List Nat := (List.range g.length).filter fun k => same g i k
/-- Once it stands. -/
def stood (g : G) (st : List Bool) (i : Nat) : List Bool := tab g.length fun k => st.getD k false || same g i k
/-- The groups that are still to come: at most so many. -/
def rest (g : G) : Nat → List Bool → List (List Nat)
  | 0, _ => []
  | t + 1, st => match nextB g st with
    | none => []
    | some i => grp g i :: rest g t (stood g st i)
/-- All groups. -/
def groups (g : G) : List (List Nat) := rest g g.length (tab g.length fun _ => false)
theorem rest_none {g : G} {st : List Bool} (h : nextB g st = none) : ∀ t, rest g t st = []
  | 0 => rfl
  | t + 1 => by simp [rest, h]
theorem rest_some {g : G} {st : List Bool} {i : Nat} (h : nextB g st = some i) (t : Nat) : rest g (t + 1) st = grp g i :: rest g t (stood g st i) := by simp [rest, h]
end Gr
end Go.Proofs.Ytemdhbeegheefaa
