
/- A command with a key in braces, written in several ways: parsed alike. No program in sight. No condition. -/
import Derived.Test.YtcdclkgfgieppaaItBackP
import Derived.Test.YtcdclkgfgieppaaLexLawB
import Derived.Test.YtcdclkgfgieppaaMacFlatQ
namespace Go.Proofs.Ytcdclkgfgieppaa.It
open Lx

/-- Letters, blanks, ends of lines. -/
def Plain (X : Bytes) : Prop := ∀ c ∈ X, letter c = true ∨ c = 32 ∨ c = 10
def sp (c : UInt8) : UInt8 := if c = 10 then 32 else c
theorem letter_sp {c : UInt8} (h : letter c = true) : sp c = c := by
  unfold sp
  rw [if_neg (by rintro rfl; simp [letter] at h)]
theorem sp_letters {w : Bytes} (h : w.all letter = true) : w.map sp = w := by
  induction w with
  | nil => rfl
  | cons c r ih =>
    simp only [List.all_cons, Bool.and_eq_true] at h
    rw [List.map_cons, letter_sp h.1, ih h.2]
theorem kind_letter {c : UInt8} {r : Bytes} (h : letter c = true) : kind (c :: r) = 1 := kind_plain (letter_plain h)
theorem kind_blank {c : UInt8} {r : Bytes} (h : c = 32 ∨ c = 10) : kind (c :: r) = 2 := by rcases h with rfl | rfl <;> rfl
theorem stp_blank (σ : Bytes × Bool) : Mx.stp (Mx.stp σ 32) 32 = Mx.stp σ 32 := by
  obtain ⟨x, p⟩ := σ
  cases p <;> simp [Mx.stp]
theorem fold_blanks : ∀ (b : Bytes) (σ : Bytes × Bool), (∀ c ∈ b, sp c = 32) → (b.map sp).foldl Mx.stp (Mx.stp σ 32) = Mx.stp σ 32 := by
  intro b
  induction b with
  | nil => intro σ _; rfl
  | cons c r ih =>
    intro σ h
    rw [List.map_cons, List.foldl_cons, h c (List.mem_cons_self ..), stp_blank]
    exact ih σ fun d hd => h d (List.mem_cons_of_mem _ hd)
theorem gap_blanks {Y : Bytes} (hY : kind Y ≠ 2) : ∀ (b : Bytes) (n : Nat), (∀ c ∈ b, c = 32 ∨ c = 10) → ∃ g, gap false n (b ++ Y) = (g, Y) := by
  intro b
  induction b with
  | nil => intro n _; exact ⟨n, gap_stop hY⟩
  | cons c r ih =>
    intro n h
    obtain ⟨g, hg⟩ := ih (if c == 10 then n + 1 else n) fun d hd => h d (List.mem_cons_of_mem _ hd)
    refine ⟨g, ?_⟩
    rw [List.cons_append, gap, if_pos (by rcases h c (List.mem_cons_self ..) with rfl | rfl <;> rfl)]
    exact hg

theorem lex_plain {R : Bytes} (h1 : kind R ≠ 1) (h2 : kind R ≠ 2) : ∀ (n : Nat) (X : Bytes), X.length ≤ n → Plain X →
    ∃ ts : List Tok, lex (X ++ R) = ts ++ lex R ∧ (∀ t ∈ ts, t.1 = 1 ∨ t.1 = 2 ∨ t.1 = 3) ∧ ∀ σ, (Mx.bare ts).foldl Mx.stp σ = (X.map sp).foldl Mx.stp σ := by
  intro n
  induction n with
  | zero =>
    intro X hX _
    have : X = [] := List.eq_nil_of_length_eq_zero (by omega)
    subst this
    exact ⟨[], rfl, by simp, fun _ => rfl⟩
  | succ n ih =>
    intro X hX hp
    cases X with
    | nil => exact ⟨[], rfl, by simp, fun _ => rfl⟩
    | cons c r =>
      simp only [List.length_cons] at hX
      by_cases hc : letter c = true
      · obtain ⟨w, q, hw, hq, e⟩ : ∃ w q, w.all letter = true ∧ (∀ d, q.head? = some d → letter d = false) ∧ r = w ++ q :=
          ⟨r.takeWhile letter, r.dropWhile letter, by simp, fun d hd => by
            have := List.head?_dropWhile_not letter r
            rw [hd] at this
            simpa using this, by rw [List.takeWhile_append_dropWhile]⟩
        subst e
        have hpq : Plain q := fun d hd => hp d (by simp [hd])
        obtain ⟨ts, e1, e2, e3⟩ := ih q (by simp at hX; omega) hpq
        have hk1 : kind (q ++ R) ≠ 1 := by
          cases q with
          | nil => exact h1
          | cons d s =>
            have hd := hq d rfl
            rcases hpq d (List.mem_cons_self ..) with h | h
            · rw [h] at hd; cases hd
            · rw [List.cons_append, kind_blank h]; decide
        have hwl : (c :: w).all letter = true := by simp only [List.all_cons, hc, hw]; rfl
        have hone : one (c :: (w ++ q ++ R)) = ((1, c :: w), q ++ R) := by
          have := word_safe (c :: w) (q ++ R) hk1
          rw [safe_letters hwl] at this
          have e5 : c :: (w ++ q ++ R) = c :: w ++ (q ++ R) := by simp
          rw [one_k1 (kind_letter hc), e5, this]
        refine ⟨(1, c :: w) :: ts, ?_, ?_, fun σ => ?_⟩
        · rw [List.cons_append, lex_cons, hone]
          simp only
          rw [e1]; rfl
        · intro t ht
          rcases List.mem_cons.1 ht with rfl | ht
          · exact .inl rfl
          · exact e2 t ht
        · have eb : Mx.bare ((1, c :: w) :: ts) = (c :: w) ++ Mx.bare ts := by simp [Mx.bare]
          rw [eb, List.foldl_append, e3, ← List.cons_append, List.map_append, List.foldl_append, sp_letters hwl]
      · have hcb : c = 32 ∨ c = 10 := (hp c (List.mem_cons_self ..)).resolve_left hc
        obtain ⟨b, q, hb, hq, e⟩ : ∃ b q, (∀ d ∈ b, d = 32 ∨ d = 10) ∧ (∀ d, q.head? = some d → ¬ (d = 32 ∨ d = 10)) ∧ r = b ++ q :=
          ⟨r.takeWhile (fun d => d == 32 || d == 10), r.dropWhile (fun d => d == 32 || d == 10), fun d hd => by
            have := List.all_eq_true.1 (List.all_takeWhile (p := fun d : UInt8 => d == 32 || d == 10) (l := r)) d hd
            simpa using this, fun d hd => by
            have := List.head?_dropWhile_not (fun d => d == 32 || d == 10) r
            rw [hd] at this
            simpa using this, by rw [List.takeWhile_append_dropWhile]⟩
        subst e
        have hpq : Plain q := fun d hd => hp d (by simp [hd])
        obtain ⟨ts, e1, e2, e3⟩ := ih q (by simp at hX; omega) hpq
        have hk2 : kind (q ++ R) ≠ 2 := by
          cases q with
          | nil => exact h2
          | cons d s =>
            have hd := hq d rfl
            rw [List.cons_append, kind_letter ((hpq d (List.mem_cons_self ..)).resolve_right hd)]; decide
        have hcl : ∀ d ∈ c :: b, d = 32 ∨ d = 10 := by
          intro d hd
          rcases List.mem_cons.1 hd with rfl | hd
          · exact hcb
          · exact hb d hd
        obtain ⟨g, hg⟩ := gap_blanks hk2 (c :: b) 0 hcl
        have hone : one (c :: (b ++ q ++ R)) = ((gapKind g, []), q ++ R) := by
          have e5 : c :: (b ++ q ++ R) = c :: b ++ (q ++ R) := by simp
          rw [one_k2 (kind_blank hcb), e5, hg]
        have hgk := gapKind_cases g
        refine ⟨(gapKind g, []) :: ts, ?_, ?_, fun σ => ?_⟩
        · rw [List.cons_append, lex_cons, hone]
          simp only
          rw [e1]; rfl
        · intro t ht
          rcases List.mem_cons.1 ht with rfl | ht
          · exact .inr hgk
          · exact e2 t ht
        · have eb : Mx.bare ((gapKind g, []) :: ts) = [32] ++ Mx.bare ts := by
            rcases hgk with h | h <;> rw [h] <;> simp [Mx.bare]
          have hsp : ∀ d ∈ c :: b, sp d = 32 := fun d hd => by rcases hcl d hd with rfl | rfl <;> rfl
          have e7 : ((c :: b).map sp).foldl Mx.stp σ = Mx.stp σ 32 := by
            rw [List.map_cons, List.foldl_cons, hsp c (List.mem_cons_self ..)]
            exact fold_blanks b σ fun d hd => hsp d (List.mem_cons_of_mem _ hd)
          rw [eb, List.foldl_append, e3, ← List.cons_append, List.map_append, List.foldl_append, e7]
          rfl

theorem close_flat (R : List Tok) : ∀ (ts : List Tok) (d : Nat), 0 < d → (∀ t ∈ ts, t.1 = 1 ∨ t.1 = 2 ∨ t.1 = 3) → Mx.close d (ts ++ R) = (Mx.close d R).map (· + ts.length) := by
  intro ts
  induction ts with
  | nil => intro d _ _; simp
  | cons t r ih =>
    intro d hd h
    have ht := h t (List.mem_cons_self ..)
    have hs : Mx.step d t = d := by unfold Mx.step; rw [if_neg (by omega), if_neg (by omega)]
    rw [List.cons_append, Mx.close, hs, if_neg (by omega), ih d hd fun u hu => h u (List.mem_cons_of_mem _ hu)]
    cases Mx.close d R with
    | none => rfl
    | some n => simp; omega

/-- A command of one group, and nothing behind it. -/
theorem parsed_cmd {nm : Bytes} {r x : List Tok} {c : Nat} (h4 : 4 ≤ kindOf nm) (h13 : kindOf nm ≤ 13) (ha : Mx.args 1 r = some ([x], c)) (hc : r.length ≤ c) :
    parsed ((4, nm) :: r) = if noKey (Mx.flatOf x) then ([], [(2, nm)]) else ([((kindOf nm : Int), Mx.flatOf x)], []) := by
  unfold parsed
  rw [parse_cons _ _ _ _ _ (by simp), if_neg (by simp), if_neg (by simp), if_pos rfl, if_neg (by simp only; omega), if_neg (by simp only; omega), ha]
  simp only [List.headD_cons, List.nil_append]
  rw [List.drop_eq_nil_of_le hc]
  simp only [parse, List.length_cons]

theorem bare_flat_sq {x y : List Tok} (h : Mx.bare x = Mx.bare y) : Mx.flatOf x = Mx.flatOf y := by unfold Mx.flatOf; rw [h]
theorem flat_of_fold {ts : List Tok} {X : Bytes} (h : ∀ σ, (Mx.bare ts).foldl Mx.stp σ = (X.map sp).foldl Mx.stp σ) : Mx.flatOf ts = Mx.sqz (X.map sp) := Mx.sqz_st (h _)

/-- The command and its key, in three ways. -/
def way1 (nm k : Bytes) : Bytes := 92 :: nm ++ [123] ++ k ++ [125]
def way2 (nm k : Bytes) : Bytes := 92 :: nm ++ [32, 32, 123, 10, 32] ++ k ++ [10, 125]
def way3 (nm k : Bytes) : Bytes := 92 :: nm ++ [32, 123, 123] ++ k ++ [125, 125]
/-- What all three say. -/
def said (nm k : Bytes) : List Tok × List Tok := if noKey (Mx.sqz k) then ([], [(2, nm)]) else ([((kindOf nm : Int), Mx.sqz k)], [])

theorem lex_cmd {nm : Bytes} (hl : nm.all letter = true) (hn : nm ≠ []) (r : Bytes) (hr : letter (r.headD 0) = false) : lex (92 :: nm ++ r) = (4, nm) :: lex r := by
  have h := one_text (t := (4, nm)) (r := r) (by simp only [may]; simp [hl, hn]) (by simp) (by simp) (fun _ => hr)
  have e : textOf (4, nm) = 92 :: nm := by simp [textOf]
  rw [e] at h
  rw [List.cons_append] at h ⊢
  rw [lex_cons, h]
theorem lex_open (r : Bytes) : lex (123 :: r) = (5, []) :: lex r := by rw [lex_cons, one_k5 rfl]
theorem lex_close (r : Bytes) : lex (125 :: r) = (6, []) :: lex r := by rw [lex_cons, one_k6 rfl]
theorem lex_nil : lex [] = [] := rfl
theorem map_plain {k : Bytes} (hk : ∀ c ∈ k, letter c = true ∨ c = 32) : k.map sp = k := by
  induction k with
  | nil => rfl
  | cons c r ih =>
    rw [List.map_cons, ih fun d hd => hk d (List.mem_cons_of_mem _ hd)]
    rcases hk c (List.mem_cons_self ..) with h | h
    · rw [letter_sp h]
    · subst h; rfl
theorem plain_of {k : Bytes} (hk : ∀ c ∈ k, letter c = true ∨ c = 32) : Plain k := fun c hc => (hk c hc).elim .inl fun h => .inr (.inl h)
theorem sqz_lead (k : Bytes) : Mx.sqz (32 :: k) = Mx.sqz k := Mx.sqz_st rfl

variable {nm k : Bytes} (hl : nm.all letter = true) (hn : nm ≠ []) (h4 : 4 ≤ kindOf nm) (h13 : kindOf nm ≤ 13) (hk : ∀ c ∈ k, letter c = true ∨ c = 32)
include hl hn h4 h13 hk
theorem parsed_way1 : parsed (lex (way1 nm k)) = said nm k := by
  have e : way1 nm k = 92 :: nm ++ (123 :: (k ++ [125])) := by simp [way1]
  obtain ⟨ts, e1, e2, e3⟩ := lex_plain (R := [125]) (by decide) (by decide) k.length k (Nat.le_refl _) (plain_of hk)
  rw [e, lex_cmd hl hn _ (by rfl), lex_open, e1, show lex [125] = [(6, [])] from rfl]
  have hf := flat_of_fold e3
  rw [map_plain hk] at hf
  have hg : Mx.group ((5, []) :: (ts ++ [(6, [])])) = some (ts.length + 2) := by
    rw [Mx.group, if_pos rfl, Mx.close, show Mx.step 0 ((5, []) : Tok) = 1 from rfl, if_neg (by omega), close_flat _ ts 1 (by omega) e2]
    simp [Mx.close, Mx.step]; omega
  have ha : Mx.args 1 ((5, []) :: (ts ++ [(6, [])])) = some ([ts], ts.length + 2) := by
    unfold Mx.args
    rw [show Mx.spaces ((5, []) :: (ts ++ [(6, [])])) = 0 from rfl, List.drop_zero, hg]
    simp [Mx.args]
  rw [parsed_cmd h4 h13 ha (by simp), hf]; rfl
theorem parsed_way2 : parsed (lex (way2 nm k)) = said nm k := by
  have e : way2 nm k = 92 :: nm ++ (32 :: 32 :: (123 :: ((10 :: 32 :: (k ++ [10])) ++ [125]))) := by simp [way2]
  have hp : Plain (10 :: 32 :: (k ++ [10])) := by
    intro c hc
    simp only [List.mem_cons, List.mem_append, List.not_mem_nil, or_false] at hc
    rcases hc with rfl | rfl | hc | rfl
    · exact .inr (.inr rfl)
    · exact .inr (.inl rfl)
    · exact plain_of hk c hc
    · exact .inr (.inr rfl)
  obtain ⟨ts, e1, e2, e3⟩ := lex_plain (R := [125]) (by decide) (by decide) _ _ (Nat.le_refl _) hp
  have hgap : lex (32 :: 32 :: (123 :: ((10 :: 32 :: (k ++ [10])) ++ [125]))) = (2, []) :: lex (123 :: ((10 :: 32 :: (k ++ [10])) ++ [125])) := by
    rw [lex_cons, one_k2 rfl]
    have : gap false 0 (32 :: 32 :: (123 :: ((10 :: 32 :: (k ++ [10])) ++ [125]))) = (0, 123 :: ((10 :: 32 :: (k ++ [10])) ++ [125])) := rfl
    rw [this]; rfl
  rw [e, lex_cmd hl hn _ (by rfl), hgap, lex_open, e1, show lex [125] = [(6, [])] from rfl]
  have hf := flat_of_fold e3
  have em : (10 :: 32 :: (k ++ [10])).map sp = 32 :: 32 :: (k ++ [32]) := by
    rw [List.map_cons, List.map_cons, List.map_append, map_plain hk]; rfl
  rw [em, sqz_lead, sqz_lead, Mx.sqz_blank] at hf
  have hg : Mx.group ((5, []) :: (ts ++ [(6, [])])) = some (ts.length + 2) := by
    rw [Mx.group, if_pos rfl, Mx.close, show Mx.step 0 ((5, []) : Tok) = 1 from rfl, if_neg (by omega), close_flat _ ts 1 (by omega) e2]
    simp [Mx.close, Mx.step]; omega
  have ha : Mx.args 1 ((2, []) :: (5, []) :: (ts ++ [(6, [])])) = some ([ts], 1 + (ts.length + 2)) := by
    unfold Mx.args
    rw [show Mx.spaces ((2, []) :: (5, []) :: (ts ++ [(6, [])])) = 1 from rfl, List.drop_succ_cons, List.drop_zero, hg]
    simp [Mx.args]
  rw [parsed_cmd h4 h13 ha (by simp; omega), hf]; rfl
theorem parsed_way3 : parsed (lex (way3 nm k)) = said nm k := by
  have e : way3 nm k = 92 :: nm ++ (32 :: (123 :: 123 :: (k ++ [125, 125]))) := by simp [way3]
  obtain ⟨ts, e1, e2, e3⟩ := lex_plain (R := [125, 125]) (by decide) (by decide) k.length k (Nat.le_refl _) (plain_of hk)
  have hgap : lex (32 :: (123 :: 123 :: (k ++ [125, 125]))) = (2, []) :: lex (123 :: 123 :: (k ++ [125, 125])) := by
    rw [lex_cons, one_k2 rfl]
    have : gap false 0 (32 :: (123 :: 123 :: (k ++ [125, 125]))) = (0, 123 :: 123 :: (k ++ [125, 125])) := rfl
    rw [this]; rfl
  rw [e, lex_cmd hl hn _ (by rfl), hgap, lex_open, lex_open, e1, show lex [125, 125] = [(6, []), (6, [])] from rfl]
  have hf := flat_of_fold e3
  rw [map_plain hk] at hf
  have hb : Mx.flatOf ((5, []) :: (ts ++ [(6, [])])) = Mx.flatOf ts := bare_flat_sq (by
    rw [show ((5, []) : Tok) :: (ts ++ [(6, [])]) = [(5, [])] ++ ts ++ [(6, [])] by simp, Mx.bare_append, Mx.bare_append]
    simp [Mx.bare])
  have hg : Mx.group ((5, []) :: (5, []) :: (ts ++ [(6, []), (6, [])])) = some (ts.length + 4) := by
    rw [Mx.group, if_pos rfl, Mx.close, show Mx.step 0 ((5, []) : Tok) = 1 from rfl, if_neg (by omega), Mx.close, show Mx.step 1 ((5, []) : Tok) = 2 from rfl, if_neg (by omega), close_flat _ ts 2 (by omega) e2]
    simp [Mx.close, Mx.step]; omega
  have ha : Mx.args 1 ((2, []) :: (5, []) :: (5, []) :: (ts ++ [(6, []), (6, [])])) = some ([(5, []) :: (ts ++ [(6, [])])], 1 + (ts.length + 4)) := by
    unfold Mx.args
    rw [show Mx.spaces ((2, []) :: (5, []) :: (5, []) :: (ts ++ [(6, []), (6, [])])) = 1 from rfl, List.drop_succ_cons, List.drop_zero, hg]
    have et : (List.drop (1 + 1) (((2, []) : Tok) :: (5, []) :: (5, []) :: (ts ++ [(6, []), (6, [])]))).take (ts.length + 4 - 2) = (5, []) :: (ts ++ [(6, [])]) := by
      rw [List.drop_succ_cons, List.drop_succ_cons, List.drop_zero]
      have e6 : ((5, []) : Tok) :: (ts ++ [(6, []), (6, [])]) = ((5, []) :: (ts ++ [(6, [])])) ++ [(6, [])] := by simp
      rw [e6, List.take_append_of_le_length (by simp), List.take_of_length_le (by simp)]
    simp only [et, Mx.args, Option.map_some, Nat.add_zero]
  rw [parsed_cmd h4 h13 ha (by simp; omega), hb, hf]; rfl

end Go.Proofs.Ytcdclkgfgieppaa.It
