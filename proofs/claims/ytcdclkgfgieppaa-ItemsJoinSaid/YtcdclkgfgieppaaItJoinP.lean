
/- Tokens with a Par between them, parsed. No program in sight. No condition. -/
import Derived.Test.YtcdclkgfgieppaaItBackP
namespace Go.Proofs.Ytcdclkgfgieppaa.It
open Lx

theorem word_prefix {o : List Tok} (h : lastK o ≠ 1) (p : List Tok) (s : Bytes) : word (o ++ p) s = o ++ word p s := by
  rcases List.eq_nil_or_concat p with rfl | ⟨q, ⟨k, y⟩, rfl⟩
  · have e1 : word [] s = if s = [] then [] else [(1, s)] := rfl
    rw [List.append_nil, e1]
    unfold word
    split
    · rename_i y hl
      exfalso
      apply h
      unfold lastK
      rw [hl]; rfl
    · split
      · rw [List.append_nil]
      · rfl
  · rw [List.concat_eq_append, ← List.append_assoc]
    unfold word
    simp only [List.getLast?_append, List.getLast?_singleton, Option.some_or]
    by_cases hk : k = 1
    · subst hk
      simp
    · have e : ∀ (A B : List Tok), (match (some (k, y) : Option Tok) with | some (1, z) => A | _ => B) = B := fun A B => by
        split
        · rename_i e; cases e; exact absurd rfl hk
        · rfl
      split
      · rename_i e; cases e; exact absurd rfl hk
      · split
        · rename_i e2; simp
        · simp

theorem parse_prefix {o : List Tok} (h : lastK o ≠ 1) (m : List Tok) : ∀ (n : Nat) (l p q : List Tok), parse n l (o ++ p) (m ++ q) = (o ++ (parse n l p q).1, m ++ (parse n l p q).2) := by
  intro n
  induction n with
  | zero => intro l p q; rfl
  | succ n ih =>
    intro l p q
    cases l with
    | nil => rfl
    | cons t r =>
      rw [parse, parse]
      rw [word_prefix h]
      simp only [List.append_assoc]
      split
      · exact ih _ _ _
      · split
        · exact ih _ _ _
        · split
          · split
            · exact ih _ _ _
            · split
              · exact ih _ _ _
              · split
                · exact ih _ _ _
                · split
                  · exact ih _ _ _
                  · exact ih _ _ _
          · exact ih _ _ _

/-- How many Opens, how many Closes. -/
def opens (l : List Tok) : Nat := (l.filter fun t => t.1 == 5).length
def closes (l : List Tok) : Nat := (l.filter fun t => t.1 == 6).length
/-- Each Open has its Close. -/
def Closed (l : List Tok) : Prop := ∀ i, opens (l.drop i) ≤ closes (l.drop i)
theorem Closed.tail {t : Tok} {r : List Tok} (h : Closed (t :: r)) : Closed r := fun i => h (i + 1)
theorem Closed.drop {l : List Tok} (h : Closed l) (j : Nat) : Closed (l.drop j) := fun i => by rw [List.drop_drop]; exact h (j + i)
theorem opens_cons (t : Tok) (r : List Tok) : opens (t :: r) = (if t.1 = 5 then 1 else 0) + opens r := by
  unfold opens
  by_cases h : t.1 = 5
  · simp [h]; omega
  · simp [h]
theorem closes_cons (t : Tok) (r : List Tok) : closes (t :: r) = (if t.1 = 6 then 1 else 0) + closes r := by
  unfold closes
  by_cases h : t.1 = 6
  · simp [h]; omega
  · simp [h]

theorem close_app {R : List Tok} : ∀ (q : List Tok) (d n : Nat), Mx.close d q = some n → Mx.close d (q ++ R) = some n := by
  intro q
  induction q with
  | nil => intro d n h; simp [Mx.close] at h
  | cons t r ih =>
    intro d n h
    rw [List.cons_append]
    rw [Mx.close] at h ⊢
    split at h
    · rename_i hs; rw [if_pos hs]; exact h
    · rename_i hs
      rw [if_neg hs]
      simp only [Option.map_eq_some_iff] at h ⊢
      obtain ⟨m, hm, rfl⟩ := h
      exact ⟨m, ih _ _ hm, rfl⟩
theorem close_some : ∀ (q : List Tok) (d : Nat), 0 < d → d + opens q ≤ closes q → ∃ n, Mx.close d q = some n := by
  intro q
  induction q with
  | nil => intro d hd h; simp [opens, closes] at h; omega
  | cons t r ih =>
    intro d hd h
    rw [opens_cons, closes_cons] at h
    rw [Mx.close]
    by_cases hs : Mx.step d t = 0
    · exact ⟨1, if_pos hs⟩
    · rw [if_neg hs]
      have : ∃ n, Mx.close (Mx.step d t) r = some n := by
        refine ih _ (by omega) ?_
        unfold Mx.step at hs ⊢
        split
        · rename_i h5
          rw [if_pos h5, if_neg (by omega)] at h
          omega
        · rename_i h5
          rw [if_neg h5] at h
          split
          · rename_i h6
            rw [if_pos h6] at h
            omega
          · rename_i h6
            rw [if_neg h6] at h
            omega
      obtain ⟨n, hn⟩ := this
      exact ⟨n + 1, by rw [hn]; rfl⟩

theorem spaces_app {R : List Tok} (hR : (R.headD (0, [])).1 ≠ 2) : ∀ q : List Tok, Mx.spaces (q ++ R) = Mx.spaces q := by
  intro q
  induction q with
  | nil =>
    cases R with
    | nil => rfl
    | cons t r => simp at hR; simp [Mx.spaces, hR]
  | cons t r ih => rw [List.cons_append, Mx.spaces, Mx.spaces, ih]
theorem group_app {R : List Tok} (hR : (R.headD (0, [])).1 ≠ 5) {q : List Tok} (hq : Closed q) : Mx.group (q ++ R) = Mx.group q := by
  cases q with
  | nil =>
    cases R with
    | nil => rfl
    | cons t r => simp at hR; simp [Mx.group, hR]
  | cons t r =>
    rw [List.cons_append, Mx.group, Mx.group]
    by_cases h5 : t.1 = 5
    · rw [if_pos h5, if_pos h5]
      have h0 := hq 0
      rw [List.drop_zero, opens_cons, closes_cons, if_pos h5, if_neg (by omega)] at h0
      obtain ⟨n, hn⟩ := close_some r 1 (by omega) (by omega)
      have hs : Mx.step 0 t = 1 := by simp [Mx.step, h5]
      have h1 : Mx.close 0 (t :: r) = some (n + 1) := by
        rw [Mx.close, hs, if_neg (by omega), hn]; rfl
      rw [h1]
      have := close_app (R := R) (t :: r) 0 (n + 1) h1
      rw [List.cons_append] at this
      exact this
    · rw [if_neg h5, if_neg h5]
theorem args_app {R : List Tok} (h2 : (R.headD (0, [])).1 ≠ 2) (h5 : (R.headD (0, [])).1 ≠ 5) {q : List Tok} (hq : Closed q) : Mx.args 1 (q ++ R) = Mx.args 1 q := by
  unfold Mx.args
  have hl := Mx.spaces_le q
  rw [spaces_app h2, List.drop_append_of_le_length hl, group_app h5 (hq.drop _)]
  cases hg : Mx.group (q.drop (Mx.spaces q)) with
  | none => rfl
  | some g =>
    have hgl := Mx.group_le hg
    rw [List.length_drop] at hgl
    simp only [Mx.args]
    rw [List.drop_append_of_le_length (by omega), List.take_append_of_le_length (by rw [List.length_drop]; omega)]

theorem parse_app {R : List Tok} (h2 : (R.headD (0, [])).1 ≠ 2) (h5 : (R.headD (0, [])).1 ≠ 5) (N : Nat) : ∀ (j : Nat) (q out notes : List Tok), q.length ≤ j → q.length + R.length ≤ N → Closed q →
    parse N (q ++ R) out notes = parse N R (parse N q out notes).1 (parse N q out notes).2 := by
  intro j
  induction j with
  | zero =>
    intro q out notes hq hN _
    have : q = [] := List.eq_nil_of_length_eq_zero (by omega)
    subst this
    have e : parse N [] out notes = (out, notes) := by cases N <;> rfl
    rw [List.nil_append, e]
  | succ j ih =>
    intro q out notes hq hN hc
    cases q with
    | nil =>
      have e : parse N [] out notes = (out, notes) := by cases N <;> rfl
      rw [List.nil_append, e]
    | cons t r =>
      simp only [List.length_cons] at hq hN
      have hr := hc.tail
      rw [List.cons_append, parse_cons N t (r ++ R) out notes (by rw [List.length_append]; omega), parse_cons N t r out notes (by omega), args_app h2 h5 hr]
      have k1 := fun o n => ih r o n (by omega) (by omega) hr
      split
      · exact k1 _ _
      · split
        · exact k1 _ _
        · split
          · split
            · exact k1 _ _
            · split
              · exact k1 _ _
              · rcases args_one r with ha | ⟨x, c, ha, hc2, hcl, _, _⟩
                · rw [ha]
                  exact k1 _ _
                · rw [ha]
                  simp only
                  rw [List.drop_append_of_le_length hcl]
                  have k2 := fun o n => ih (r.drop c) o n (by rw [List.length_drop]; omega) (by rw [List.length_drop]; omega) (hr.drop c)
                  split
                  · exact k2 _ _
                  · exact k2 _ _
          · exact k1 _ _

/-- Two lists with a Par between them. -/
theorem parsed_join {l k : List Tok} (h : Closed l) : parsed (l ++ [(3, [])] ++ k) = ((parsed l).1 ++ [(3, [])] ++ (parsed k).1, (parsed l).2 ++ (parsed k).2) := by
  have e0 : l ++ [(3, [])] ++ k = l ++ ((3, []) :: k) := by simp
  unfold parsed
  rw [e0]
  obtain ⟨N, hN⟩ : ∃ N, N = (l ++ ((3, []) :: k)).length := ⟨_, rfl⟩
  rw [← hN]
  simp only [List.length_append, List.length_cons] at hN
  rw [parse_app (by simp) (by simp) N l.length l [] [] (Nat.le_refl _) (by simp only [List.length_cons]; omega) h]
  rw [parse_fuel N l.length l [] [] (by omega) (Nat.le_refl _)]
  obtain ⟨⟨a, x⟩, ha⟩ : ∃ p, parse l.length l [] [] = p := ⟨_, rfl⟩
  rw [ha]
  simp only
  rw [parse_cons N (3, []) k a x (by omega), if_neg (by simp), if_pos (by simp)]
  have h1 := parse_prefix (o := a ++ [(3, [])]) (by rw [lastK_snoc]; simp) x N k [] []
  rw [List.append_nil, List.append_nil] at h1
  rw [h1, parse_fuel N k.length k [] [] (by omega) (Nat.le_refl _)]

end Go.Proofs.Ytcdclkgfgieppaa.It
