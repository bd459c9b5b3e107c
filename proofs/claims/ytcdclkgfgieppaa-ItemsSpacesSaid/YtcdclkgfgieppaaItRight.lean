
/- Which items are right: the reference's walk and the program's. No condition. -/
import Derived.Test.YtcdclkgfgieppaaItRef
import Derived.Test.YtcdclkgfgieppaaItNames
namespace Go.Proofs.Ytcdclkgfgieppaa
open Go.RowKit

/-- The kind ahead of the k-th item; 0: there is none. -/
def prevK (l : List Lx.Tok) (k : Nat) : Int := if k = 0 then 0 else (l.getD (k - 1) (0, [])).1
theorem right_from (l : List Lx.Tok) {k : Nat} (h : k < l.length) : It.right (prevK l k) (l.drop k) = (It.okItem (prevK l k) l[k] && It.right (prevK l (k + 1)) (l.drop (k + 1))) := by
  rw [List.drop_eq_getElem_cons h, It.right]
  have e : prevK l (k + 1) = l[k].1 := by unfold prevK; simp [h]
  rw [e]

set_option maxRecDepth 20000 in
set_option maxHeartbeats 4000000 in
/-- 'Right' of the reference. -/
theorem refRight9_any (v : Value) (l : List Lx.Tok) (w : World) (hl : Rt w v l) (hlen : l.length ≤ 1000000) (hs : ∀ t ∈ l, t.2.length ≤ 1000000000) :
    Calls Try.prog 17 #[v] w fun e w' => e = .returned (.bool (It.right 0 l)) ∧ Below w.heap.size w w' := by
  obtain ⟨a0, c0, rfl⟩ := hl.shape
  have HL := Lib.hid hl
  have HS := Lib.hid hs
  clear hl hs
  go_enter Try.func17, Try.ntmps17
  simp only [S_lit]
  go_wp2_with fail
  go_loopw [3] (fun i wr => ∃ k : Nat, k ≤ l.length ∧ i = .int .i64 k ∧ Hid (It.right 0 l = It.right (prevK l k) (l.drop k)) ∧ Below w.heap.size w wr) (fun i _ => l.length - (intOf i).toNat)
  case atStart => exact ⟨0, Nat.zero_le _, rfl, rfl, Below.refl _ _⟩
  case round =>
    obtain ⟨k, hk, rfl, HE, hbw⟩ := hrel
    have hsz := hbw.size
    by_cases hlt : k < l.length
    · obtain ⟨b1, o1, rfl, c10, c11⟩ := (HL.out.below' hbw).at hlt
      have hl1 := HS.out _ (List.getElem_mem hlt)
      have HR := Lib.hid (HE.out.trans (right_from l hlt))
      obtain ⟨⟨z, s⟩, hzs⟩ : ∃ x, x = l[k] := ⟨_, rfl⟩
      rw [← hzs] at c10 c11 hl1 HR
      clear hzs
      have HP := Lib.hid (show prevK l k = if k = 0 then 0 else (l.getD (k - 1) (0, [])).1 from rfl)
      obtain ⟨pk, hpk⟩ : ∃ pk, pk = prevK l k := ⟨_, rfl⟩
      rw [← hpk] at HR HP
      clear hpk
      go_wp2_with fail
      go_quiet (fail)
      have hbq : Below w.heap.size w (wr.drewN nq) := below_drewN hbw nq
      have hlw := HL.out.below' hbq
      rcases (by omega : z < 1 ∨ 16 < z ∨ z = 1 ∨ (z = 2 ∨ z = 3 ∨ (14 ≤ z ∧ z ≤ 16)) ∨ (4 ≤ z ∧ z ≤ 13)) with hz | hz | hz | hz | hz
      · have hok : It.okItem pk (z, s) = false := by simp [It.okItem]; intro h; omega
        go_wp2_with fail
        go_ret
        exact ⟨ret_bool (by rw [HR.out, hok]; rfl), hbq⟩
      · have hok : It.okItem pk (z, s) = false := by simp [It.okItem]; intro h h2; omega
        have hz1 : ¬ z < 1 := by omega
        go_wp2_with fail
        go_ret
        exact ⟨ret_bool (by rw [HR.out, hok]; rfl), hbq⟩
      · subst hz
        by_cases h0 : s = []
        · subst h0
          have hok : It.okItem pk (1, []) = false := by simp [It.okItem]
          go_wp2_with fail
          go_ret
          exact ⟨ret_bool (by rw [HR.out, hok]; rfl), hbq⟩
        · have hie : s.isEmpty = false := by cases s with | nil => exact absurd rfl h0 | cons _ _ => rfl
          cases k with
          | zero =>
            have hp0 : pk = 0 := HP.out
            have hok : It.okItem pk (1, s) = true := by subst hp0; simp [It.okItem, h0]
            go_wp2_with fail
            go_roundw
            case rel => exact ⟨1, by omega, by go_num, Lib.hid (by rw [HR.out, hok]; rfl), hbq⟩
            case measure => simp [intOf]; omega
          | succ m =>
            obtain ⟨b2, o2, e2, d0, _⟩ := hlw.at (i := m) (by omega)
            cases e2
            have hp0 : pk = l[m].1 := by
              have h := HP.out
              rw [if_neg (by omega), Nat.add_sub_cancel, List.getD_eq_getElem?_getD, List.getElem?_eq_getElem (by omega)] at h
              exact h
            rw [← hp0] at d0
            have hwr : IntKind.i64.wrap ((m : Int) + 1 - 1) = (m : Int) := (Go.IntWalk.i64_left _).trans ((Go.IntWalk.wrap64_in _ (by omega)).trans (by omega))
            have hml : (m : Int) < (l.length : Int) := by omega
            by_cases hp1 : pk = 1
            · have hok : It.okItem pk (1, s) = false := by subst hp1; simp [It.okItem]
              subst hp1
              clear hp0
              go_wp2_with fail
              go_ret
              exact ⟨ret_bool (by rw [HR.out, hok]; rfl), hbq⟩
            · have hok : It.okItem pk (1, s) = true := by simp [It.okItem, h0, hp1]
              have hpb : (pk == 1) = false := by simpa using hp1
              clear hp0
              go_wp2_with fail
              go_roundw
              case rel => exact ⟨m + 1 + 1, by omega, by go_num, Lib.hid (by rw [HR.out, hok]; rfl), hbq⟩
              case measure => simp [intOf]; omega
      · have hz1 : ¬ z < 1 := by omega
        have hz2 : (z == 1) = false := by simp; omega
        have hz3 : (decide (4 ≤ z) && decide (z ≤ 13)) = false := by simp; omega
        by_cases h0 : s = []
        · subst h0
          have hok : It.okItem pk (z, []) = true := by
            simp [It.okItem]; omega
          rcases hz with hz | hz | hz
          · subst hz
            go_wp2_with fail
            go_roundw
            case rel => exact ⟨k + 1, by omega, by go_num, Lib.hid (by rw [HR.out, hok]; rfl), hbq⟩
            case measure => simp [intOf]; omega
          · subst hz
            go_wp2_with fail
            go_roundw
            case rel => exact ⟨k + 1, by omega, by go_num, Lib.hid (by rw [HR.out, hok]; rfl), hbq⟩
            case measure => simp [intOf]; omega
          · have hz4 : ¬ z ≤ 13 := by omega
            have hz5 : 13 < z := by omega
            have hz6 : (z == 2) = false := by simp; omega
            have hz7 : (z == 3) = false := by simp; omega
            go_wp2_with fail
            go_roundw
            case rel => exact ⟨k + 1, by omega, by go_num, Lib.hid (by rw [HR.out, hok]; rfl), hbq⟩
            case measure => simp [intOf]; omega
        · have hie : s.isEmpty = false := by cases s with | nil => exact absurd rfl h0 | cons _ _ => rfl
          have hok : It.okItem pk (z, s) = false := by
            simp [It.okItem, h0]; omega
          rcases hz with hz | hz | hz
          · subst hz
            go_wp2_with fail
            go_ret
            exact ⟨ret_bool (by rw [HR.out, hok]; rfl), hbq⟩
          · subst hz
            go_wp2_with fail
            go_ret
            exact ⟨ret_bool (by rw [HR.out, hok]; rfl), hbq⟩
          · have hz4 : ¬ z ≤ 13 := by omega
            have hz5 : 13 < z := by omega
            have hz6 : (z == 2) = false := by simp; omega
            have hz7 : (z == 3) = false := by simp; omega
            go_wp2_with fail
            go_ret
            exact ⟨ret_bool (by rw [HR.out, hok]; rfl), hbq⟩
      · have hz1 : ¬ z < 1 := by omega
        have hz2 : (z == 1) = false := by simp; omega
        have hz5 : ¬ 13 < z := by omega
        have hz6 : (z == 2) = false := by simp; omega
        have hz7 : (z == 3) = false := by simp; omega
        cases hkey : It.key s
        · have hok : It.okItem pk (z, s) = false := by
            simp [It.okItem, hkey]; omega
          go_wp2_with (go_at_call 37; (with_reducible refine (refKey9_any s hl1 _).mono ?_); rintro e w3 ⟨rfl, rfl⟩; rw [hkey])
          go_ret
          exact ⟨ret_bool (by rw [HR.out, hok]; rfl), hbq⟩
        · have hok : It.okItem pk (z, s) = true := by
            simp [It.okItem, hkey]; omega
          go_wp2_with (go_at_call 37; (with_reducible refine (refKey9_any s hl1 _).mono ?_); rintro e w3 ⟨rfl, rfl⟩; rw [hkey])
          go_roundw
          case rel => exact ⟨k + 1, by omega, by go_num, Lib.hid (by rw [HR.out, hok]; rfl), hbq⟩
          case measure => simp [intOf]; omega
    · obtain rfl : k = l.length := by omega
      have he := HE.out
      rw [List.drop_length, It.right] at he
      go_wp2_with fail
      go_ret
      exact ⟨ret_bool he.symm, hbw⟩

end Go.Proofs.Ytcdclkgfgieppaa
