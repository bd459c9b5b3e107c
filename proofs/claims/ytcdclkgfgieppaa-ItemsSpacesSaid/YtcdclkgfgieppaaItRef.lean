
/- The reference's names, kinds, keys, walked. No condition. -/
import Derived.Test.YtcdclkgfgieppaaItMem
import Derived.Test.YtcdclkgfgieppaaMacSq
namespace Go.Proofs.Ytcdclkgfgieppaa
open Go.RowKit

/-- The names as cells. -/
def nameCells : List Value := It.names.map fun s => Value.string (S s)
theorem nameCells_at {k : Nat} (h : k < 13) : nameCells.toArray[k]? = some (.string (S (It.nameOf (k + 4)))) := by
  have : ∀ j : Fin 13, nameCells.toArray[j.val]? = some (.string (S (It.nameOf (j.val + 4)))) := by
    intro j
    match j with
    | ⟨0, _⟩ => rfl
    | ⟨1, _⟩ => rfl
    | ⟨2, _⟩ => rfl
    | ⟨3, _⟩ => rfl
    | ⟨4, _⟩ => rfl
    | ⟨5, _⟩ => rfl
    | ⟨6, _⟩ => rfl
    | ⟨7, _⟩ => rfl
    | ⟨8, _⟩ => rfl
    | ⟨9, _⟩ => rfl
    | ⟨10, _⟩ => rfl
    | ⟨11, _⟩ => rfl
    | ⟨12, _⟩ => rfl
    | ⟨n + 13, h⟩ => omega
  exact this ⟨k, h⟩

set_option maxHeartbeats 400000 in
/-- 'Names' of the reference. -/
theorem refNames_any (w : World) :
    Calls Try.prog 24 #[] w fun e w' => ∃ g, e = .returned (.slice (some ⟨g, 0, none⟩) 13 13) ∧ w'.heap[g]? = some (.cells nameCells.toArray 9 (0, 0)) ∧ Below w.heap.size w w' := by
  go_enter Try.func24, Try.ntmps24
  simp only [S_lit]
  go_wp2_with fail
  go_ret
  exact ⟨_, rfl, heap_alloc_new _ _, (Below.refl _ _).alloc (Nat.le_refl _) _⟩

theorem kindOf_at {s : List UInt8} {k : Nat} (hk : k < 13) (h : It.nameOf (k + 4) = s) : It.kindOf s = k + 4 := by
  rw [← h]; exact It.kindOf_name _ (by omega) (by omega)
theorem kindOf_no {s : List UInt8} (h : ∀ j, j < 13 → It.nameOf (j + 4) ≠ s) : It.kindOf s = 0 := by
  rcases It.kindOf_le s with h0 | ⟨h1, h2⟩
  · exact h0
  · exfalso
    have hn := It.nameOf_kind s (by omega)
    exact h (It.kindOf s - 4) (by omega) (by rw [show It.kindOf s - 4 + 4 = It.kindOf s by omega]; exact hn)

set_option maxHeartbeats 400000 in
/-- 'Kind' of the reference. -/
theorem refKind9_any (s : List UInt8) (w : World) :
    Calls Try.prog 31 #[.string (S s)] w fun e w' => e = .returned (.int .i64 (It.kindOf s : Int)) ∧ Below w.heap.size w w' := by
  go_enter Try.func31, Try.ntmps31
  go_wp2_with fail
  (with_reducible refine (refNames_any _).mono ?_); rintro e w1 ⟨g, rfl, hg, b1⟩
  go_wp2_with fail
  go_loopw [4] (fun i wr => ∃ k : Nat, k ≤ 13 ∧ i = .int .i64 k ∧ Hid (∀ j, j < k → It.nameOf (j + 4) ≠ s) ∧ wr = w1) (fun i _ => 13 - (intOf i).toNat)
  case atStart => exact ⟨0, Nat.zero_le _, rfl, fun j hj => by omega, rfl⟩
  case round =>
    obtain ⟨k, hk, rfl, HN, rfl⟩ := hrel
    by_cases hlt : k < 13
    · have c1 := (row_cell hg k).trans (nameCells_at hlt)
      have hki : (k : Int) < 13 := by omega
      have hko := kindOf_at (s := s) hlt
      obtain ⟨x, hx⟩ : ∃ x, x = It.nameOf (k + 4) := ⟨_, rfl⟩
      rw [← hx] at c1 hko
      have HX := Lib.hid hx
      have HKO := Lib.hid hko
      clear hx hko
      go_wp2_with fail
      · have hxs : x = s := by have : (x == s) = true := by assumption
                               simpa using this
        go_ret
        exact ⟨by rw [HKO.out hxs]; simp, b1⟩
      · have hxs : x ≠ s := by have : (x == s) = false := by assumption
                               simpa using this
        go_roundw
        case rel => exact ⟨k + 1, by omega, by go_num, Lib.hid (fun j hj => by
          by_cases hjk : j = k
          · subst hjk; rw [← HX.out]; exact hxs
          · exact HN.out j (by omega)), trivial⟩
        case measure => simp [intOf]; omega
    · obtain rfl : k = 13 := by omega
      have h0 := kindOf_no HN.out
      go_wp2_with fail
      go_ret
      exact ⟨by rw [h0]; rfl, b1⟩

set_option maxHeartbeats 400000 in
/-- 'Key' of the reference. -/
theorem refKey9_any (s : List UInt8) (hs : s.length ≤ 1000000000) (w : World) :
    Calls Try.prog 37 #[.string (S s)] w fun e w' => e = .returned (.bool (It.key s)) ∧ w' = w := by
  by_cases h0 : s = []
  · subst h0
    go_enter Try.func37, Try.ntmps37
    simp only [S_lit]
    go_wp2_with fail
    go_ret
    exact ⟨rfl, rfl⟩
  · have hne : (s != []) = true := by simpa using h0
    by_cases h1 : 60 < s.length
    · have hd : decide ((s.length : Int) ≤ 60) = false := by simp; omega
      have hk : It.key s = false := by simp [It.key, It.noKey, h1]
      go_enter Try.func37, Try.ntmps37
      simp only [S_lit]
      go_wp2_with fail
      go_ret
      exact ⟨by rw [hk]; rfl, rfl⟩
    · have hd : (s.length : Int) ≤ 60 := by omega
      have hk : It.key s = (Mx.sqz s == s) := by simp [It.key, It.noKey, h0, h1]
      go_enter Try.func37, Try.ntmps37
      simp only [S_lit]
      go_wp2_with fail
      (with_reducible refine (refSqueezed_any s hs w).mono ?_); rintro e w1 ⟨rfl, rfl⟩
      go_wp2_with fail
      go_ret
      refine ⟨ret_bool ?_, rfl⟩
      have hie : s.isEmpty = false := by cases s with | nil => exact absurd rfl h0 | cons _ _ => rfl
      rw [hk, hie]; rfl

end Go.Proofs.Ytcdclkgfgieppaa
