
/- The macro layer: Group and Args at any place, the program's and the reference's; lists held against lists. No condition. -/
import Derived.Test.YtkpdhpbnbpjceaaMacArgsR
namespace Go.Proofs.Ytkpdhpbnbpjceaa
open Go.RowKit

/-- 'Args' at any place, for any number. -/
def argsAt (l : List Lx.Tok) (p n : Int) : List (List Lx.Tok) × Int × Int :=
  if p < 0 ∨ (l.length : Int) < p ∨ n < 0 ∨ 9 < n then ([], 0, 1) else ares p.toNat (Mx.args n.toNat (l.drop p.toNat))

set_option maxHeartbeats 800000 in
/-- Any place. -/
theorem group_any (v : Value) (l : List Lx.Tok) (p : Int) (w : World) (hl : Rt w v l) (hlen : l.length ≤ 1000000000) :
    Calls Try.prog 10 #[v, .int .i64 p] w fun e w' => e = .returned (.tuple #[.int .i64 (Mx.groupAt l p).1, .int .i64 (Mx.groupAt l p).2]) ∧ Below w.heap.size w w' := by
  by_cases h1 : p < 0
  · have hg : Mx.groupAt l p = (0, 1) := by rw [Mx.groupAt, if_pos (.inl h1)]
    rw [hg]
    obtain ⟨a0, c0, rfl⟩ := hl.shape
    clear hl
    go_enter Try.func10, Try.ntmps10
    go_wp2_with fail
    go_ret2
    exact ⟨rfl, Below.refl _ _⟩
  · by_cases h2 : (l.length : Int) < p
    · have hg : Mx.groupAt l p = (0, 1) := by rw [Mx.groupAt, if_pos (.inr h2)]
      rw [hg]
      obtain ⟨a0, c0, rfl⟩ := hl.shape
      clear hl
      go_enter Try.func10, Try.ntmps10
      go_wp2_with fail
      go_ret2
      exact ⟨rfl, Below.refl _ _⟩
    · obtain ⟨q, rfl⟩ := Int.eq_ofNat_of_zero_le (by omega : 0 ≤ p)
      have hq : q ≤ l.length := by omega
      have hg : Mx.groupAt l (q : Int) = gres q (Mx.group (l.drop q)) := groupAt_in l q hq
      refine (group_in v l q w hl hlen hq).mono fun e w' ⟨h3, h4⟩ => ⟨?_, h4⟩
      rw [h3, ← hg]

set_option maxHeartbeats 800000 in
/-- Any place. -/
theorem refGroup_any (v : Value) (l : List Lx.Tok) (p : Int) (w : World) (hl : Rt w v l) (hlen : l.length ≤ 1000000000) :
    Calls Try.prog 11 #[v, .int .i64 p] w fun e w' => e = .returned (.tuple #[.int .i64 (Mx.groupAt l p).1, .int .i64 (Mx.groupAt l p).2]) ∧ Below w.heap.size w w' := by
  by_cases h1 : p < 0
  · have hg : Mx.groupAt l p = (0, 1) := by rw [Mx.groupAt, if_pos (.inl h1)]
    rw [hg]
    obtain ⟨a0, c0, rfl⟩ := hl.shape
    clear hl
    go_enter Try.func11, Try.ntmps11
    go_wp2_with fail
    go_ret2
    exact ⟨rfl, Below.refl _ _⟩
  · by_cases h2 : (l.length : Int) < p
    · have hg : Mx.groupAt l p = (0, 1) := by rw [Mx.groupAt, if_pos (.inr h2)]
      rw [hg]
      obtain ⟨a0, c0, rfl⟩ := hl.shape
      clear hl
      go_enter Try.func11, Try.ntmps11
      go_wp2_with fail
      go_ret2
      exact ⟨rfl, Below.refl _ _⟩
    · obtain ⟨q, rfl⟩ := Int.eq_ofNat_of_zero_le (by omega : 0 ≤ p)
      have hq : q ≤ l.length := by omega
      have hg : Mx.groupAt l (q : Int) = gres q (Mx.group (l.drop q)) := groupAt_in l q hq
      refine (refGroup_in v l q w hl hlen hq).mono fun e w' ⟨h3, h4⟩ => ⟨?_, h4⟩
      rw [h3, ← hg]

set_option maxHeartbeats 1600000 in
/-- Any place, any number. -/
theorem args_any (v : Value) (l : List Lx.Tok) (p n : Int) (w : World) (hl : Rt w v l) (hlen : l.length ≤ 1000000000) :
    Calls Try.prog 13 #[v, .int .i64 p, .int .i64 n] w fun e w' => ∃ v', e = .returned (.tuple #[v', .int .i64 (argsAt l p n).2.1, .int .i64 (argsAt l p n).2.2]) ∧ Rts w' v' (argsAt l p n).1 ∧ Below w.heap.size w w' := by
  by_cases hbad : p < 0 ∨ (l.length : Int) < p ∨ n < 0 ∨ 9 < n
  · have hg : argsAt l p n = ([], 0, 1) := by rw [argsAt, if_pos hbad]
    rw [hg]
    obtain ⟨a0, c0, rfl⟩ := hl.shape
    clear hl
    by_cases h1 : p < 0
    · clear hbad
      go_enter Try.func13, Try.ntmps13
      go_wp2_with fail
      go_ret3
      exact ⟨_, rfl, Rts.nil _, Below.refl _ _⟩
    · by_cases h2 : (l.length : Int) < p
      · clear hbad
        go_enter Try.func13, Try.ntmps13
        go_wp2_with fail
        go_ret3
        exact ⟨_, rfl, Rts.nil _, Below.refl _ _⟩
      · by_cases h3 : n < 0
        · clear hbad
          go_enter Try.func13, Try.ntmps13
          go_wp2_with fail
          go_ret3
          exact ⟨_, rfl, Rts.nil _, Below.refl _ _⟩
        · have h4 : 9 < n := by omega
          clear hbad
          go_enter Try.func13, Try.ntmps13
          go_wp2_with fail
          go_ret3
          exact ⟨_, rfl, Rts.nil _, Below.refl _ _⟩
  · obtain ⟨q, rfl⟩ := Int.eq_ofNat_of_zero_le (by omega : 0 ≤ p)
    obtain ⟨m, rfl⟩ := Int.eq_ofNat_of_zero_le (by omega : 0 ≤ n)
    have hg : argsAt l (q : Int) (m : Int) = ares q (Mx.args m (l.drop q)) := by rw [argsAt, if_neg hbad]; rfl
    rw [hg]
    exact args_in v l q m w hl hlen (by omega) (by omega)

set_option maxHeartbeats 1600000 in
/-- Any place, any number. -/
theorem refArgs_any (v : Value) (l : List Lx.Tok) (p n : Int) (w : World) (hl : Rt w v l) (hlen : l.length ≤ 1000000000) :
    Calls Try.prog 14 #[v, .int .i64 p, .int .i64 n] w fun e w' => ∃ v', e = .returned (.tuple #[v', .int .i64 (argsAt l p n).2.1, .int .i64 (argsAt l p n).2.2]) ∧ Rts w' v' (argsAt l p n).1 ∧ Below w.heap.size w w' := by
  by_cases hbad : p < 0 ∨ (l.length : Int) < p ∨ n < 0 ∨ 9 < n
  · have hg : argsAt l p n = ([], 0, 1) := by rw [argsAt, if_pos hbad]
    rw [hg]
    obtain ⟨a0, c0, rfl⟩ := hl.shape
    clear hl
    by_cases h1 : p < 0
    · clear hbad
      go_enter Try.func14, Try.ntmps14
      go_wp2_with fail
      go_ret3
      exact ⟨_, rfl, Rts.nil _, Below.refl _ _⟩
    · by_cases h2 : (l.length : Int) < p
      · clear hbad
        go_enter Try.func14, Try.ntmps14
        go_wp2_with fail
        go_ret3
        exact ⟨_, rfl, Rts.nil _, Below.refl _ _⟩
      · by_cases h3 : n < 0
        · clear hbad
          go_enter Try.func14, Try.ntmps14
          go_wp2_with fail
          go_ret3
          exact ⟨_, rfl, Rts.nil _, Below.refl _ _⟩
        · have h4 : 9 < n := by omega
          clear hbad
          go_enter Try.func14, Try.ntmps14
          go_wp2_with fail
          go_ret3
          exact ⟨_, rfl, Rts.nil _, Below.refl _ _⟩
  · obtain ⟨q, rfl⟩ := Int.eq_ofNat_of_zero_le (by omega : 0 ≤ p)
    obtain ⟨m, rfl⟩ := Int.eq_ofNat_of_zero_le (by omega : 0 ≤ n)
    have hg : argsAt l (q : Int) (m : Int) = ares q (Mx.args m (l.drop q)) := by rw [argsAt, if_neg hbad]; rfl
    rw [hg]
    exact refArgs_in v l q m w hl hlen (by omega) (by omega)

end Go.Proofs.Ytkpdhpbnbpjceaa
