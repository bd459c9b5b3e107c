
/- The order of texts. No program in sight. No condition. -/
import Derived.Test.YtkpdhpbnbpjceaaKit
import Derived.Lib.Strings
namespace Go.Proofs.Ytkpdhpbnbpjceaa
open Go.RowKit

/-! ### the order of texts -/
theorem cb_self (a : List UInt8) : Lib.compareBytes a a = 0 := by
  induction a with
  | nil => rfl
  | cons c r ih => rw [Lib.compareBytes, if_neg (by simp), if_neg (by simp), ih]
theorem cb_eq {a b : List UInt8} (h : Lib.compareBytes a b = 0) : a = b := by
  induction a generalizing b with
  | nil => cases b with
    | nil => rfl
    | cons d s => simp [Lib.compareBytes] at h
  | cons c r ih => cases b with
    | nil => simp [Lib.compareBytes] at h
    | cons d s =>
      rw [Lib.compareBytes] at h
      split at h
      · simp at h
      · split at h
        · simp at h
        · rename_i h1 h2
          have : c = d := by apply UInt8.toNat_inj.1; rw [UInt8.lt_iff_toNat_lt] at h1 h2; omega
          rw [this, ih h]
theorem cb_swap (a b : List UInt8) : Lib.compareBytes b a = - Lib.compareBytes a b := by
  induction a generalizing b with
  | nil => cases b <;> simp [Lib.compareBytes]
  | cons c r ih => cases b with
    | nil => simp [Lib.compareBytes]
    | cons d s =>
      rw [Lib.compareBytes, Lib.compareBytes]
      by_cases h1 : c < d
      · have h2 : ¬ d < c := by rw [UInt8.lt_iff_toNat_lt] at h1 ⊢; omega
        rw [if_neg h2, if_pos h1, if_pos h1]; rfl
      · by_cases h2 : d < c
        · rw [if_pos h2, if_neg h1, if_pos h2]
        · rw [if_neg h2, if_neg h1, if_neg h1, if_neg h2, ih]
theorem cb_trans {a b c : List UInt8} (h1 : Lib.compareBytes a b < 0) (h2 : Lib.compareBytes b c < 0) : Lib.compareBytes a c < 0 := by
  induction a generalizing b c with
  | nil => cases c with
    | nil => cases b <;> simp [Lib.compareBytes] at h1 h2
    | cons e t => simp [Lib.compareBytes]
  | cons x r ih => cases b with
    | nil => simp [Lib.compareBytes] at h1
    | cons y s => cases c with
      | nil => simp [Lib.compareBytes] at h2
      | cons z t =>
        rw [Lib.compareBytes] at h1 h2 ⊢
        simp only [UInt8.lt_iff_toNat_lt] at h1 h2 ⊢
        by_cases hxz : x.toNat < z.toNat
        · rw [if_pos hxz]; decide
        · rw [if_neg hxz]
          by_cases hxy : x.toNat < y.toNat
          · by_cases hyz : y.toNat < z.toNat
            · omega
            · rw [if_neg hyz] at h2
              by_cases hzy : z.toNat < y.toNat
              · rw [if_pos hzy] at h2; simp at h2
              · omega
          · rw [if_neg hxy] at h1
            by_cases hyx : y.toNat < x.toNat
            · rw [if_pos hyx] at h1; simp at h1
            · rw [if_neg hyx] at h1
              by_cases hyz : y.toNat < z.toNat
              · omega
              · rw [if_neg hyz] at h2
                by_cases hzy : z.toNat < y.toNat
                · rw [if_pos hzy] at h2; simp at h2
                · rw [if_neg hzy] at h2
                  rw [if_neg (by omega)]
                  exact ih h1 h2

/-- Names in order. -/
def Sorted (ns : List (List UInt8)) : Prop := ns.Pairwise fun a b => Lib.compareBytes a b < 0
/-- So many names stand ahead of one. -/
def lb (ns : List (List UInt8)) (t : List UInt8) : Nat := (ns.takeWhile fun a => decide (Lib.compareBytes a t < 0)).length
theorem lb_le (ns : List (List UInt8)) (t : List UInt8) : lb ns t ≤ ns.length := by
  have := (List.takeWhile_sublist (l := ns) (fun a => decide (Lib.compareBytes a t < 0))).length_le
  exact this
theorem lb_eq {ns : List (List UInt8)} {t : List UInt8} {i : Nat} (hi : i ≤ ns.length) (h1 : ∀ x (h : x < ns.length), x < i → Lib.compareBytes ns[x] t < 0) (h2 : ∀ (h : i < ns.length), ¬ Lib.compareBytes ns[i] t < 0) : lb ns t = i := by
  induction ns generalizing i with
  | nil => simp at hi; subst hi; rfl
  | cons a r ih =>
    unfold lb
    cases i with
    | zero =>
      have := h2 (by simp)
      rw [List.takeWhile_cons, if_neg (by simpa using this)]; rfl
    | succ i =>
      have h0 := h1 0 (by simp) (by omega)
      rw [List.takeWhile_cons, if_pos (by simpa using h0), List.length_cons]
      have := ih (i := i) (by simpa using hi) (fun x hx hxi => h1 (x + 1) (by simpa using hx) (by omega)) (fun h => h2 (by simpa using h))
      unfold lb at this
      omega

theorem lb_mem {ns : List (List UInt8)} {t : List UInt8} (hs : Sorted ns) {x : Nat} (hx : x < ns.length) (h : ns[x] = t) : lb ns t = x := by
  refine lb_eq (by omega) (fun y hy hyx => ?_) (fun _ => ?_)
  · have := List.pairwise_iff_getElem.1 hs y x hy hx hyx
    rwa [h] at this
  · rw [h, cb_self]; omega
theorem lb_is {ns : List (List UInt8)} {t : List UInt8} (hs : Sorted ns) : (ns[lb ns t]? == some t) = ns.contains t := by
  by_cases h : t ∈ ns
  · obtain ⟨x, hx, e⟩ := List.getElem_of_mem h
    rw [lb_mem hs hx e, List.getElem?_eq_getElem hx, e]
    simp [h]
  · have h1 : ns.contains t = false := by simpa using h
    rw [h1]
    cases hq : ns[lb ns t]? with
    | none => rfl
    | some a =>
      have : a ≠ t := by rintro rfl; exact h (List.mem_of_getElem? hq)
      simpa using this

theorem lb_lt {ns : List (List UInt8)} {t : List UInt8} {x : Nat} (hx : x < ns.length) (h : x < lb ns t) : Lib.compareBytes ns[x] t < 0 := by
  unfold lb at h
  have e := List.takeWhile_append_dropWhile (p := fun a => decide (Lib.compareBytes a t < 0)) (l := ns)
  have h2 := List.all_eq_true.1 (List.all_takeWhile (p := fun a => decide (Lib.compareBytes a t < 0)) (l := ns)) _ (List.getElem_mem h)
  have h3 : (ns.takeWhile fun a => decide (Lib.compareBytes a t < 0))[x] = ns[x] := by
    have : ((ns.takeWhile fun a => decide (Lib.compareBytes a t < 0)) ++ ns.dropWhile fun a => decide (Lib.compareBytes a t < 0))[x]? = ns[x]? := by rw [e]
    rw [List.getElem?_append_left h, List.getElem?_eq_getElem h, List.getElem?_eq_getElem hx] at this
    exact Option.some.inj this
  rw [h3] at h2
  simpa using h2
theorem lb_ge {ns : List (List UInt8)} {t : List UInt8} (hx : lb ns t < ns.length) : 0 ≤ Lib.compareBytes ns[lb ns t] t := by
  have e := List.takeWhile_append_dropWhile (p := fun a => decide (Lib.compareBytes a t < 0)) (l := ns)
  have hd : ns.dropWhile (fun a => decide (Lib.compareBytes a t < 0)) ≠ [] := by
    intro h0
    rw [h0, List.append_nil] at e
    have := congrArg List.length e
    unfold lb at hx
    omega
  have h1 := List.head?_dropWhile_not (fun a => decide (Lib.compareBytes a t < 0)) ns
  have h2 : (ns.dropWhile fun a => decide (Lib.compareBytes a t < 0)).head? = some ns[lb ns t] := by
    have : ((ns.takeWhile fun a => decide (Lib.compareBytes a t < 0)) ++ ns.dropWhile fun a => decide (Lib.compareBytes a t < 0))[lb ns t]? = ns[lb ns t]? := by rw [e]
    rw [List.getElem?_eq_getElem hx] at this
    rw [← this, List.getElem?_append_right (by unfold lb; exact Nat.le_refl _), List.head?_eq_getElem?]
    congr 1
    unfold lb
    omega
  rw [h2] at h1
  simpa using h1

theorem less_is : ∀ (a b : List UInt8), Op.bytesLess a b = decide (Lib.compareBytes a b < 0)
  | [], [] => by simp [Op.bytesLess, Lib.compareBytes]
  | _ :: _, [] => by simp [Op.bytesLess, Lib.compareBytes]
  | [], _ :: _ => by simp [Op.bytesLess, Lib.compareBytes]
  | a :: x, b :: y => by
    rw [Op.bytesLess, less_is x y, Lib.compareBytes]
    by_cases h1 : a < b
    · simp [h1]
    · by_cases h2 : b < a
      · have : ¬ a = b := by rintro rfl; exact h1 h2
        simp [h1, h2, this]
      · have : a = b := by
          apply UInt8.toNat_inj.1
          rw [UInt8.lt_iff_toNat_lt] at h1 h2
          omega
        subst this
        simp

end Go.Proofs.Ytkpdhpbnbpjceaa
