
/- 'Right' of the program, walked. No condition. -/
import Derived.Test.YtcdclkgfgieppaaItLook
import Derived.Test.YtcdclkgfgieppaaItRight
namespace Go.Proofs.Ytcdclkgfgieppaa
open Go.RowKit Go.Maps

theorem map_below {w w' : World} {P : Program} {k : TypeId} {R : Value → Option (DataW Unit × List MemPlace)} {b n : Nat} {D : DataW Unit} (h : w.ownsMap P k R b n D) (hb : Below w.heap.size w w') : w'.ownsMap P k R b n D := by
  have hlt := h.lt
  obtain ⟨es, clock, h1, h2⟩ := h
  exact ⟨es, clock, (hb.block _ hlt).trans h1, h2⟩

set_option maxRecDepth 20000 in
set_option maxHeartbeats 4000000 in
/-- 'Right'. -/
theorem right9_any (v : Value) (l : List Lx.Tok) (w : World) (hl : Rt w v l) (hlen : l.length ≤ 1000000) (hs : ∀ t ∈ l, t.2.length ≤ 1000000000) (hk : ∀ t ∈ l, (Lit.int .i64 t.1).wf = true) :
    Calls Try.prog 16 #[v] w fun e w' => e = .returned (.bool (It.right 0 l)) ∧ Below w.heap.size w w' := by
  obtain ⟨a0, c0, rfl⟩ := hl.shape
  have HL := Lib.hid hl
  have HS := Lib.hid hs
  have HK := Lib.hid hk
  clear hl hs hk
  go_enter Try.func16, Try.ntmps16
  simp only [S_lit]
  go_wp2_with fail
  (with_reducible refine (names_any _).mono ?_); rintro e w1 ⟨b, D, rfl, hown, hD, _, b1⟩
  have hm1 := hown
  go_wp2_with fail
  go_loopw [11] (fun i wr => ∃ k : Nat, k ≤ l.length ∧ i = .int .i64 k ∧ Hid (It.right 0 l = It.right (prevK l k) (l.drop k)) ∧ wr.ownsMap Try.prog 3 readN b 13 D ∧ Below w.heap.size w wr) (fun i _ => l.length - (intOf i).toNat)
  case atStart => exact ⟨0, Nat.zero_le _, rfl, rfl, hm1, b1⟩
  case round =>
    obtain ⟨k, hk, rfl, HE, hm, hbw⟩ := hrel
    have hsz := hbw.size
    by_cases hlt : k < l.length
    · obtain ⟨b1, o1, rfl, c10, c11⟩ := (HL.out.below' hbw).at hlt
      have hl1 := HS.out _ (List.getElem_mem hlt)
      have hwf := HK.out _ (List.getElem_mem hlt)
      have HR := Lib.hid (HE.out.trans (right_from l hlt))
      obtain ⟨⟨z, s⟩, hzs⟩ : ∃ x, x = l[k] := ⟨_, rfl⟩
      rw [← hzs] at c10 c11 hl1 HR hwf
      clear hzs
      have HP := Lib.hid (show prevK l k = if k = 0 then 0 else (l.getD (k - 1) (0, [])).1 from rfl)
      obtain ⟨pk, hpk⟩ : ∃ pk, pk = prevK l k := ⟨_, rfl⟩
      rw [← hpk] at HR HP
      clear hpk
      have hbQ : ∀ o : Obj, Below w.heap.size w ((wr.alloc (.cells #[.int .i64 z, .string (S s)] 49)).alloc o) := fun o => (hbw.alloc hsz _).alloc (hbw.alloc hsz _).size _
      have hmQ : ∀ o : Obj, ((wr.alloc (.cells #[.int .i64 z, .string (S s)] 49)).alloc o).ownsMap Try.prog 3 readN b 13 D := fun o => (hm.alloc _).alloc _
      rcases (by omega : (z < 1 ∨ 16 < z) ∨ z = 1 ∨ (z = 2 ∨ z = 3) ∨ (4 ≤ z ∧ z ≤ 13) ∨ (14 ≤ z ∧ z ≤ 16)) with hz | hz | hz | hz | hz
      · have hok : It.okItem pk (z, s) = false := by
          rcases hz with hz | hz
          · simp [It.okItem]; intro h; omega
          · simp [It.okItem]; intro h h2; omega
        have hnz : ¬ (4 ≤ z ∧ z ≤ 16) := by omega
        have hz2 : (z == 1) = false := by simp; omega
        have hz3 : (z == 2) = false := by simp; omega
        have hz4 : (z == 3) = false := by simp; omega
        go_wp2_with (first | (at_lookup; refine wp_name_miss _ rfl _ _ rfl b D rfl (hm.alloc _) hD z rfl hwf hnz ?_) | fail)
        go_ret
        exact ⟨ret_bool (by rw [HR.out, hok]; rfl), hbQ _⟩
      · subst hz
        have hnz : ¬ (4 ≤ (1 : Int) ∧ (1 : Int) ≤ 16) := by omega
        by_cases h0 : s = []
        · subst h0
          have hok : It.okItem pk (1, []) = false := by simp [It.okItem]
          go_wp2_with (first | (at_lookup; refine wp_name_miss _ rfl _ _ rfl b D rfl (hm.alloc _) hD 1 rfl hwf hnz ?_) | fail)
          go_ret
          exact ⟨ret_bool (by rw [HR.out, hok]; rfl), hbQ _⟩
        · have hie : s.isEmpty = false := by cases s with | nil => exact absurd rfl h0 | cons _ _ => rfl
          have hse : (s == []) = false := by simpa using h0
          cases k with
          | zero =>
            have hp0 : pk = 0 := HP.out
            simp only [Nat.zero_mul, Nat.add_zero] at c10 c11
            have hok : It.okItem pk (1, s) = true := by subst hp0; simp [It.okItem, h0]
            go_wp2_with (first | (at_lookup; refine wp_name_miss _ rfl _ _ rfl b D rfl (hm.alloc _) hD 1 rfl hwf hnz ?_) | fail)
            go_roundw
            case rel => exact ⟨1, by omega, by go_num, Lib.hid (by rw [HR.out, hok]; rfl), hmQ _, hbQ _⟩
            case measure => simp [intOf]; omega
          | succ m =>
            obtain ⟨b2, o2, e2, d0, _⟩ := (HL.out.below' hbw).at (i := m) (by omega)
            cases e2
            have hp0 : pk = l[m].1 := by
              have h := HP.out
              rw [if_neg (by omega), Nat.add_sub_cancel, List.getD_eq_getElem?_getD, List.getElem?_eq_getElem (by omega)] at h
              exact h
            rw [← hp0] at d0
            have hb1 : b1 < wr.heap.size := World.block_lt_of_cell? wr _ d0
            have d1 : ∀ o : Obj, ((wr.alloc (.cells #[.int .i64 1, .string (S s)] 49)).alloc o).cell? ⟨b1, o1 + m * 2, none⟩ = some (.int .i64 pk) := fun o => by
              rw [World.cell?_of_block (w := wr) ((Below.heap_alloc _ _ _ (by simp; omega)).trans (Below.heap_alloc _ _ _ hb1))]
              exact d0
            have d2 := d1 (.cells #[.string (S []), .int .i64 0] 82)
            have hwr : IntKind.i64.wrap ((m : Int) + 1 - 1) = (m : Int) := (Go.IntWalk.i64_left _).trans ((Go.IntWalk.wrap64_in _ (by omega)).trans (by omega))
            have hml : (m : Int) < (l.length : Int) := by omega
            clear d1
            by_cases hp1 : pk = 1
            · have hok : It.okItem pk (1, s) = false := by subst hp1; simp [It.okItem]
              subst hp1
              clear hp0
              go_wp2_with (first | (at_lookup; refine wp_name_miss _ rfl _ _ rfl b D rfl (hm.alloc _) hD 1 rfl hwf hnz ?_) | fail)
              go_ret
              exact ⟨ret_bool (by rw [HR.out, hok]; rfl), hbQ _⟩
            · have hok : It.okItem pk (1, s) = true := by simp [It.okItem, h0, hp1]
              have hpb : (pk == 1) = false := by simpa using hp1
              clear hp0
              go_wp2_with (first | (at_lookup; refine wp_name_miss _ rfl _ _ rfl b D rfl (hm.alloc _) hD 1 rfl hwf hnz ?_) | fail)
              go_roundw
              case rel => exact ⟨m + 1 + 1, by omega, by go_num, Lib.hid (by rw [HR.out, hok]; rfl), hmQ _, hbQ _⟩
              case measure => simp [intOf]; omega
      · have hnz : ¬ (4 ≤ z ∧ z ≤ 16) := by omega
        have hz2 : (z == 1) = false := by simp; omega
        by_cases h0 : s = []
        · subst h0
          have hok : It.okItem pk (z, []) = true := by
            simp [It.okItem]; omega
          rcases hz with hz | hz
          · subst hz
            go_wp2_with (first | (at_lookup; refine wp_name_miss _ rfl _ _ rfl b D rfl (hm.alloc _) hD 2 rfl hwf hnz ?_) | fail)
            go_roundw
            case rel => exact ⟨k + 1, by omega, by go_num, Lib.hid (by rw [HR.out, hok]; rfl), hmQ _, hbQ _⟩
            case measure => simp [intOf]; omega
          · subst hz
            go_wp2_with (first | (at_lookup; refine wp_name_miss _ rfl _ _ rfl b D rfl (hm.alloc _) hD 3 rfl hwf hnz ?_) | fail)
            go_roundw
            case rel => exact ⟨k + 1, by omega, by go_num, Lib.hid (by rw [HR.out, hok]; rfl), hmQ _, hbQ _⟩
            case measure => simp [intOf]; omega
        · have hie : s.isEmpty = false := by cases s with | nil => exact absurd rfl h0 | cons _ _ => rfl
          have hse : (s == []) = false := by simpa using h0
          have hok : It.okItem pk (z, s) = false := by
            simp [It.okItem, h0]; omega
          rcases hz with hz | hz
          · subst hz
            go_wp2_with (first | (at_lookup; refine wp_name_miss _ rfl _ _ rfl b D rfl (hm.alloc _) hD 2 rfl hwf hnz ?_) | fail)
            go_ret
            exact ⟨ret_bool (by rw [HR.out, hok]; rfl), hbQ _⟩
          · subst hz
            go_wp2_with (first | (at_lookup; refine wp_name_miss _ rfl _ _ rfl b D rfl (hm.alloc _) hD 3 rfl hwf hnz ?_) | fail)
            go_ret
            exact ⟨ret_bool (by rw [HR.out, hok]; rfl), hbQ _⟩
      · have hg : It.grp z.toNat = 1 := by unfold It.grp; rw [if_pos (by omega)]
        have hz2 : (z == 1) = false := by simp; omega
        have hz16 : 4 ≤ z ∧ z ≤ 16 := by omega
        cases hkey : It.key s
        · have hok : It.okItem pk (z, s) = false := by
            simp [It.okItem, hkey]; omega
          go_wp2_with (first | (at_lookup; refine wp_name_hit _ rfl _ _ rfl b D rfl (hm.alloc _) hD z rfl hz16 ?_; rw [hg]) | (go_at_call 36; (with_reducible refine (key_any s hl1 _).mono ?_); rintro e w3 ⟨rfl, b3⟩; rw [hkey]) | fail)
          go_ret
          exact ⟨ret_bool (by rw [HR.out, hok]; rfl), (hbQ _).trans (b3.mono (hbQ _).size)⟩
        · have hok : It.okItem pk (z, s) = true := by
            simp [It.okItem, hkey]; omega
          go_wp2_with (first | (at_lookup; refine wp_name_hit _ rfl _ _ rfl b D rfl (hm.alloc _) hD z rfl hz16 ?_; rw [hg]) | (go_at_call 36; (with_reducible refine (key_any s hl1 _).mono ?_); rintro e w3 ⟨rfl, b3⟩; rw [hkey]) | fail)
          go_roundw
          case rel => exact ⟨k + 1, by omega, by go_num, Lib.hid (by rw [HR.out, hok]; rfl), map_below (hmQ _) b3, (hbQ _).trans (b3.mono (hbQ _).size)⟩
          case measure => simp [intOf]; omega
      · have hg : It.grp z.toNat = 0 := by unfold It.grp; rw [if_neg (by omega)]
        have hz2 : (z == 1) = false := by simp; omega
        have hz3 : (z == 2) = false := by simp; omega
        have hz4 : (z == 3) = false := by simp; omega
        have hz16 : 4 ≤ z ∧ z ≤ 16 := by omega
        by_cases h0 : s = []
        · subst h0
          have hok : It.okItem pk (z, []) = true := by
            simp [It.okItem]; omega
          go_wp2_with (first | (at_lookup; refine wp_name_hit _ rfl _ _ rfl b D rfl (hm.alloc _) hD z rfl hz16 ?_; rw [hg]) | fail)
          go_roundw
          case rel => exact ⟨k + 1, by omega, by go_num, Lib.hid (by rw [HR.out, hok]; rfl), hmQ _, hbQ _⟩
          case measure => simp [intOf]; omega
        · have hie : s.isEmpty = false := by cases s with | nil => exact absurd rfl h0 | cons _ _ => rfl
          have hse : (s == []) = false := by simpa using h0
          have hok : It.okItem pk (z, s) = false := by
            simp [It.okItem, h0]; omega
          go_wp2_with (first | (at_lookup; refine wp_name_hit _ rfl _ _ rfl b D rfl (hm.alloc _) hD z rfl hz16 ?_; rw [hg]) | fail)
          go_ret
          exact ⟨ret_bool (by rw [HR.out, hok]; rfl), hbQ _⟩
    · obtain rfl : k = l.length := by omega
      have he := HE.out
      rw [List.drop_length, It.right] at he
      go_wp2_with fail
      go_ret
      exact ⟨ret_bool he.symm, hbw⟩

end Go.Proofs.Ytcdclkgfgieppaa
