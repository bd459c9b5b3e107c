
/- The order of texts; maps of files, said on lists. No program in sight. No condition. -/
import Derived.Test.YtgpifaedcelnnaaKit
import Derived.Lib.Strings
namespace Go.Proofs.Ytgpifaedcelnnaa
open Go.RowKit

/-! ### the order of texts -/
theorem cb_self (a : List UInt8) : Lib.compareBytes a a = 0 := by
  induction a with
  | nil => rfl
  | cons c r ih => rw [Lib.compareBytes, if_neg (by simp), if_neg (by simp), ih]
theorem cb_eq {a b : List UInt8} (h : Lib.compareBytes a b = 0) : a = b := by
  induction a generalizing b with
  | nil => cases b with
    | nil => rfl
    | cons d s => simp [Lib.compareBytes] at h
  | cons c r ih => cases b with
    | nil => simp [Lib.compareBytes] at h
    | cons d s =>
      rw [Lib.compareBytes] at h
      split at h
      · simp at h
      · split at h
        · simp at h
        · rename_i h1 h2
          have : c = d := by apply UInt8.toNat_inj.1; rw [UInt8.lt_iff_toNat_lt] at h1 h2; omega
          rw [this, ih h]
theorem cb_swap (a b : List UInt8) : Lib.compareBytes b a = - Lib.compareBytes a b := by
  induction a generalizing b with
  | nil => cases b <;> simp [Lib.compareBytes]
  | cons c r ih => cases b with
    | nil => simp [Lib.compareBytes]
    | cons d s =>
      rw [Lib.compareBytes, Lib.compareBytes]
      by_cases h1 : c < d
      · have h2 : ¬ d < c := by rw [UInt8.lt_iff_toNat_lt] at h1 ⊢; omega
        rw [if_neg h2, if_pos h1, if_pos h1]; rfl
      · by_cases h2 : d < c
        · rw [if_pos h2, if_neg h1, if_pos h2]
        · rw [if_neg h2, if_neg h1, if_neg h1, if_neg h2, ih]
theorem cb_trans {a b c : List UInt8} (h1 : Lib.compareBytes a b < 0) (h2 : Lib.compareBytes b c < 0) : Lib.compareBytes a c < 0 := by
  induction a generalizing b c with
  | nil => cases c with
    | nil => cases b <;> simp [Lib.compareBytes] at h1 h2
    | cons e t => simp [Lib.compareBytes]
  | cons x r ih => cases b with
    | nil => simp [Lib.compareBytes] at h1
    | cons y s => cases c with
      | nil => simp [Lib.compareBytes] at h2
      | cons z t =>
        rw [Lib.compareBytes] at h1 h2 ⊢
        simp only [UInt8.lt_iff_toNat_lt] at h1 h2 ⊢
        by_cases hxz : x.toNat < z.toNat
        · rw [if_pos hxz]; decide
        · rw [if_neg hxz]
          by_cases hxy : x.toNat < y.toNat
          · by_cases hyz : y.toNat < z.toNat
            · omega
            · rw [if_neg hyz] at h2
              by_cases hzy : z.toNat < y.toNat
              · rw [if_pos hzy] at h2; simp at h2
              · omega
          · rw [if_neg hxy] at h1
            by_cases hyx : y.toNat < x.toNat
            · rw [if_pos hyx] at h1; simp at h1
            · rw [if_neg hyx] at h1
              by_cases hyz : y.toNat < z.toNat
              · omega
              · rw [if_neg hyz] at h2
                by_cases hzy : z.toNat < y.toNat
                · rw [if_pos hzy] at h2; simp at h2
                · rw [if_neg hzy] at h2
                  rw [if_neg (by omega)]
                  exact ih h1 h2

/-- Names in order. -/
def Sorted (ns : List (List UInt8)) : Prop := ns.Pairwise fun a b => Lib.compareBytes a b < 0
/-- So many names stand ahead of one. -/
def lb (ns : List (List UInt8)) (t : List UInt8) : Nat := (ns.takeWhile fun a => decide (Lib.compareBytes a t < 0)).length
theorem lb_le (ns : List (List UInt8)) (t : List UInt8) : lb ns t ≤ ns.length := by
  have := (List.takeWhile_sublist (l := ns) (fun a => decide (Lib.compareBytes a t < 0))).length_le
  exact this
theorem lb_eq {ns : List (List UInt8)} {t : List UInt8} {i : Nat} (hi : i ≤ ns.length) (h1 : ∀ x (h : x < ns.length), x < i → Lib.compareBytes ns[x] t < 0) (h2 : ∀ (h : i < ns.length), ¬ Lib.compareBytes ns[i] t < 0) : lb ns t = i := by
  induction ns generalizing i with
  | nil => simp at hi; subst hi; rfl
  | cons a r ih =>
    unfold lb
    cases i with
    | zero =>
      have := h2 (by simp)
      rw [List.takeWhile_cons, if_neg (by simpa using this)]; rfl
    | succ i =>
      have h0 := h1 0 (by simp) (by omega)
      rw [List.takeWhile_cons, if_pos (by simpa using h0), List.length_cons]
      have := ih (i := i) (by simpa using hi) (fun x hx hxi => h1 (x + 1) (by simpa using hx) (by omega)) (fun h => h2 (by simpa using h))
      unfold lb at this
      omega

theorem lb_mem {ns : List (List UInt8)} {t : List UInt8} (hs : Sorted ns) {x : Nat} (hx : x < ns.length) (h : ns[x] = t) : lb ns t = x := by
  refine lb_eq (by omega) (fun y hy hyx => ?_) (fun _ => ?_)
  · have := List.pairwise_iff_getElem.1 hs y x hy hx hyx
    rwa [h] at this
  · rw [h, cb_self]; omega
theorem lb_is {ns : List (List UInt8)} {t : List UInt8} (hs : Sorted ns) : (ns[lb ns t]? == some t) = ns.contains t := by
  by_cases h : t ∈ ns
  · obtain ⟨x, hx, e⟩ := List.getElem_of_mem h
    rw [lb_mem hs hx e, List.getElem?_eq_getElem hx, e]
    simp [h]
  · have h1 : ns.contains t = false := by simpa using h
    rw [h1]
    cases hq : ns[lb ns t]? with
    | none => rfl
    | some a =>
      have : a ≠ t := by rintro rfl; exact h (List.mem_of_getElem? hq)
      simpa using this

namespace Fi
abbrev Bytes := List UInt8
/-- A file: its name, its text. -/
abbrev F := Bytes × Bytes
def okC (c : UInt8) : Bool := (97 ≤ c && c ≤ 122) || (48 ≤ c && c ≤ 57) || c == 45 || c == 46
def okName (s : Bytes) : Bool := s.all okC && (decide (1 ≤ s.length) && decide (s.length ≤ 24))
def names (l : List F) : List Bytes := l.map Prod.fst
def rightF : Option Bytes → List F → Bool
  | _, [] => true
  | p, f :: r => okName f.1 && decide (f.2.length ≤ 4000) && (match p with | none => true | some q => decide (Lib.compareBytes q f.1 < 0)) && rightF (some f.1) r
def right (l : List F) : Bool := rightF none l && decide (l.length ≤ 32)
def get (l : List F) (t : Bytes) : Bytes × Bool := match l.find? (fun f => f.1 == t) with | some f => (f.2, true) | none => ([], false)
def drop (l : List F) (t : Bytes) : List F := l.filter fun f => f.1 != t
def has (l : List F) (t : Bytes) : Bool := (names l).contains t
def putL (l : List F) (f : F) : List F := if has l f.1 then l.set (lb (names l) f.1) f else l.take (lb (names l) f.1) ++ f :: l.drop (lb (names l) f.1)
def put (l : List F) (f : F) : List F × Int :=
  if okName f.1 = false then ([], 2) else if 4000 < f.2.length ∨ (has l f.1 = false ∧ 32 ≤ l.length) then ([], 3) else (putL l f, 0)
def merge : List F → List F → List F × Int
  | a, [] => (a, 0)
  | a, f :: r => if (put a f).2 = 0 then merge (put a f).1 r else ([], (put a f).2)
/-- The map of any files. -/
def mapF (most bytes : Nat) : List F → List F → List F
  | out, [] => out
  | out, f :: r => mapF most bytes (if (put out (f.1, f.2.take bytes)).2 = 0 then (put out (f.1, f.2.take bytes)).1 else out) r
def map (l : List F) (most bytes : Nat) : List F := mapF most bytes [] (l.take most)
/-- Names in order, each once. -/
def Ord (l : List F) : Prop := Sorted (names l)

theorem names_len (l : List F) : (names l).length = l.length := by simp [names]
theorem names_at {l : List F} {i : Nat} (h : i < l.length) : (names l)[i]'(by rw [names_len]; exact h) = l[i].1 := by simp [names]
theorem lbn_le (l : List F) (t : Bytes) : lb (names l) t ≤ l.length := by have := lb_le (names l) t; rwa [names_len] at this
theorem lb_lt {ns : List Bytes} {t : Bytes} {x : Nat} (hx : x < ns.length) (h : x < lb ns t) : Lib.compareBytes ns[x] t < 0 := by
  unfold lb at h
  have e := List.takeWhile_append_dropWhile (p := fun a => decide (Lib.compareBytes a t < 0)) (l := ns)
  have h2 := List.all_eq_true.1 (List.all_takeWhile (p := fun a => decide (Lib.compareBytes a t < 0)) (l := ns)) _ (List.getElem_mem h)
  have h3 : (ns.takeWhile fun a => decide (Lib.compareBytes a t < 0))[x] = ns[x] := by
    have : ((ns.takeWhile fun a => decide (Lib.compareBytes a t < 0)) ++ ns.dropWhile fun a => decide (Lib.compareBytes a t < 0))[x]? = ns[x]? := by rw [e]
    rw [List.getElem?_append_left h, List.getElem?_eq_getElem h, List.getElem?_eq_getElem hx] at this
    exact Option.some.inj this
  rw [h3] at h2
  simpa using h2
theorem lb_ge {ns : List Bytes} {t : Bytes} (hx : lb ns t < ns.length) : 0 ≤ Lib.compareBytes ns[lb ns t] t := by
  have e := List.takeWhile_append_dropWhile (p := fun a => decide (Lib.compareBytes a t < 0)) (l := ns)
  have hd : ns.dropWhile (fun a => decide (Lib.compareBytes a t < 0)) ≠ [] := by
    intro h0
    rw [h0, List.append_nil] at e
    have := congrArg List.length e
    unfold lb at hx
    omega
  have h1 := List.head?_dropWhile_not (fun a => decide (Lib.compareBytes a t < 0)) ns
  have h2 : (ns.dropWhile fun a => decide (Lib.compareBytes a t < 0)).head? = some ns[lb ns t] := by
    have : ((ns.takeWhile fun a => decide (Lib.compareBytes a t < 0)) ++ ns.dropWhile fun a => decide (Lib.compareBytes a t < 0))[lb ns t]? = ns[lb ns t]? := by rw [e]
    rw [List.getElem?_eq_getElem hx] at this
    rw [← this, List.getElem?_append_right (by unfold lb; exact Nat.le_refl _), List.head?_eq_getElem?]
    congr 1
    unfold lb
    omega
  rw [h2] at h1
  simpa using h1
theorem has_at {l : List F} (h : Ord l) (t : Bytes) : has l t = decide (∃ hx : lb (names l) t < l.length, l[lb (names l) t].1 = t) := by
  unfold has
  rw [← lb_is h]
  by_cases hx : lb (names l) t < l.length
  · rw [List.getElem?_eq_getElem (by rw [names_len]; exact hx), names_at hx]
    by_cases e : l[lb (names l) t].1 = t
    · simp [e, hx]
    · simp [e]
  · rw [List.getElem?_eq_none (by rw [names_len]; omega)]
    simp [hx]

end Fi
end Go.Proofs.Ytgpifaedcelnnaa
