
/- Groups that have as many Opens as Closes, said on lists. No program in sight. No condition. -/
import Derived.Test.YtkpdhpbnbpjceaaMacArgs
namespace Go.Proofs.Ytkpdhpbnbpjceaa.Mx
open Lx

/-- How deep one is behind a token, if not out. -/
def stepB (d : Nat) (t : Tok) : Option Nat := if t.1 = 5 then some (d + 1) else if t.1 = 6 then (if d = 0 then none else some (d - 1)) else some d
/-- How deep one is behind these, if never out. -/
def bal : Nat → List Tok → Option Nat
  | d, [] => some d
  | d, t :: r => (stepB d t).bind fun e => bal e r
theorem bal_append (a b : List Tok) : ∀ d, bal d (a ++ b) = (bal d a).bind fun e => bal e b := by
  induction a with
  | nil => intro d; rfl
  | cons t r ih =>
    intro d
    rw [List.cons_append, bal, bal, Option.bind_assoc]
    congr 1
    funext e
    exact ih e
theorem bal_snoc (a : List Tok) (t : Tok) (d : Nat) : bal d (a ++ [t]) = (bal d a).bind fun e => stepB e t := by
  rw [bal_append]
  congr 1
  funext e
  simp [bal]
theorem step_B {d x : Nat} {t : Tok} (h : stepB d t = some x) : step (d + 1) t = x + 1 := by
  unfold stepB at h
  unfold step
  split at h
  · rename_i h5; injection h with h; rw [if_pos h5]; omega
  · rename_i h5
    rw [if_neg h5]
    split at h
    · rename_i h6
      rw [if_pos h6]
      split at h
      · simp at h
      · injection h with h; omega
    · rename_i h6; injection h with h; rw [if_neg h6]; omega
theorem close_bal (l : List Tok) : ∀ (d e : Nat) (r : List Tok), bal d l = some e → close (d + 1) (l ++ r) = (close (e + 1) r).map (· + l.length) := by
  induction l with
  | nil => intro d e r h; simp [bal] at h; subst h; simp
  | cons t l ih =>
    intro d e r h
    rw [bal] at h
    obtain ⟨x, hx, hb⟩ := Option.bind_eq_some_iff.1 h
    rw [List.cons_append, close, step_B hx, if_neg (by omega), ih x e r hb, Option.map_map]
    congr 1
/-- Within a group. -/
def wrap (i : Nat) (l : List Tok) : List Tok := (5, []) :: (l ++ (6, []) :: (if i % 2 = 0 then [(2, [])] else []))
theorem group_wrap (i : Nat) (l r : List Tok) (h : bal 0 l = some 0) : group (wrap i l ++ r) = some (l.length + 2) := by
  have e : wrap i l ++ r = (5, []) :: (l ++ ((6, []) :: ((if i % 2 = 0 then [(2, [])] else []) ++ r))) := by simp [wrap]
  rw [e, group, if_pos rfl, close]
  have h1 : step 0 ((5, []) : Tok) = 1 := rfl
  have h2 : step 1 ((6, []) : Tok) = 0 := rfl
  rw [h1, if_neg (by decide), close_bal l 0 0 _ h, close]
  rw [show step (0 + 1) ((6, []) : Tok) = 0 from h2, if_pos rfl]
  simp; omega
def cat : Nat → List (List Tok) → List Tok
  | _, [] => []
  | i, x :: r => wrap i x ++ cat (i + 1) r
theorem cat_snoc (ws : List (List Tok)) (x : List Tok) : ∀ i, cat i (ws ++ [x]) = cat i ws ++ wrap (i + ws.length) x := by
  induction ws with
  | nil => intro i; simp [cat]
  | cons y r ih => intro i; rw [List.cons_append, cat, cat, ih, List.append_assoc, List.length_cons, show i + 1 + r.length = i + (r.length + 1) by omega]
theorem spaces_pre {pre r : List Tok} (hp : pre = [] ∨ pre = [(2, [])]) (h : r = [] ∨ ∃ i x q, r = wrap i x ++ q) : spaces (pre ++ r) = pre.length := by
  have h0 : spaces r = 0 := by
    rcases h with rfl | ⟨i, x, q, rfl⟩
    · rfl
    · rw [wrap, List.cons_append, spaces, if_neg (by decide)]
  rcases hp with rfl | rfl
  · exact h0
  · rw [List.cons_append, List.nil_append, spaces, if_pos rfl, h0]; rfl
theorem cat_is (i : Nat) (ws : List (List Tok)) : cat i ws = [] ∨ ∃ j x q, cat i ws = wrap j x ++ q := by
  cases ws with
  | nil => exact .inl rfl
  | cons x r => exact .inr ⟨i, x, _, rfl⟩

/-- So many groups, one behind the other, are told as they were. -/
theorem args_cat (ws : List (List Tok)) : ∀ (i : Nat) (pre : List Tok), (pre = [] ∨ pre = [(2, [])]) → (∀ x ∈ ws, bal 0 x = some 0) →
    ∃ u, args ws.length (pre ++ cat i ws) = some (ws, u) ∧ u ≤ (pre ++ cat i ws).length ∧ (pre ++ cat i ws).length ≤ u + 1 ∧ args 1 ((pre ++ cat i ws).drop u) = none := by
  induction ws with
  | nil =>
    intro i pre hp _
    refine ⟨0, by simp [args], by simp, by rcases hp with rfl | rfl <;> simp [cat], ?_⟩
    have hs : spaces (pre ++ cat i []) = pre.length := spaces_pre hp (.inl rfl)
    rw [List.drop_zero, args, hs]
    have : group ((pre ++ cat i []).drop pre.length) = none := by simp [cat, group]
    rw [this]
  | cons x r ih =>
    intro i pre hp hb
    have hs : spaces (pre ++ cat i (x :: r)) = pre.length := spaces_pre hp (cat_is i (x :: r))
    have hg : group ((pre ++ cat i (x :: r)).drop pre.length) = some (x.length + 2) := by
      rw [List.drop_left]; exact group_wrap i x _ (hb x (by simp))
    obtain ⟨pre', hp', hpe⟩ : ∃ pre', (pre' = [] ∨ pre' = [(2, [])]) ∧ pre' = (if i % 2 = 0 then [((2, []) : Tok)] else []) := by
      by_cases h : i % 2 = 0
      · exact ⟨_, .inr (if_pos h), rfl⟩
      · exact ⟨_, .inl (if_neg h), rfl⟩
    have hcat : pre ++ cat i (x :: r) = pre ++ ((5, []) :: x ++ [(6, [])]) ++ (pre' ++ cat (i + 1) r) := by
      rw [cat, wrap, hpe]; simp
    have hl : (pre ++ ((5, []) :: x ++ [((6, []) : Tok)])).length = pre.length + (x.length + 2) := by simp
    have hd : (pre ++ cat i (x :: r)).drop (pre.length + (x.length + 2)) = pre' ++ cat (i + 1) r := by
      rw [hcat, ← hl, List.drop_left]
    have hel : ((pre ++ cat i (x :: r)).drop (pre.length + 1)).take (x.length + 2 - 2) = x := by
      have : pre ++ cat i (x :: r) = (pre ++ [(5, [])]) ++ (x ++ ([(6, [])] ++ (pre' ++ cat (i + 1) r))) := by rw [hcat]; simp
      rw [this, show pre.length + 1 = (pre ++ [((5, []) : Tok)]).length by simp, List.drop_left, Nat.add_sub_cancel, List.take_left]
    obtain ⟨u, h1, h2, h3, h4⟩ := ih (i + 1) pre' hp' fun y hy => hb y (by simp [hy])
    have ht : (pre ++ cat i (x :: r)).length = pre.length + (x.length + 2) + (pre' ++ cat (i + 1) r).length := by rw [hcat, List.length_append, hl]
    refine ⟨pre.length + (x.length + 2) + u, ?_, by omega, by omega, ?_⟩
    · rw [List.length_cons, args, hs, hg]
      simp only [hd, h1, Option.map_some, hel]
    · rw [← List.drop_drop, hd]; exact h4

end Go.Proofs.Ytkpdhpbnbpjceaa.Mx
