
/- Tokens that say items: the reference's walk and the program's. No condition. -/
import Derived.Test.YtcdclkgfgieppaaItRightP
namespace Go.Proofs.Ytcdclkgfgieppaa
open Go.RowKit Go.Maps

theorem shown_snoc {l : List Lx.Tok} {k : Nat} (h : k < l.length) : It.shown (l.take (k + 1)) = It.shown (l.take k) ++ It.showOne l[k] := by
  rw [take_snoc l k h]; unfold It.shown; rw [List.flatMap_append, List.flatMap_singleton]
theorem shown_le (l : List Lx.Tok) : (It.shown l).length ≤ l.length * 4 := by
  induction l with
  | nil => simp [It.shown]
  | cons t r ih =>
    have e : It.shown (t :: r) = It.showOne t ++ It.shown r := by simp [It.shown]
    have h1 : (It.showOne t).length ≤ 4 := by
      unfold It.showOne
      repeat' split
      all_goals simp
    rw [e, List.length_append, List.length_cons]; omega

set_option maxRecDepth 20000 in
set_option maxHeartbeats 4000000 in
/-- 'Show' of the reference. -/
theorem refShow9_any (v : Value) (l : List Lx.Tok) (w : World) (hl : Rt w v l) (hlen : l.length ≤ 1000000) :
    Calls Try.prog 20 #[v] w fun e w' => ∃ v', e = .returned v' ∧ w'.ownsRow w.heap.size 71 2 v' (It.shown l).length (tcs (It.shown l)) ∧ Below w.heap.size w w' := by
  obtain ⟨a0, c0, rfl⟩ := hl.shape
  have HL := Lib.hid hl
  clear hl
  go_enter Try.func20, Try.ntmps20
  go_wp2_with fail
  go_loopw [3, 4] (fun v i wr => ∃ k : Nat, k ≤ l.length ∧ i = .int .i64 k ∧ wr.ownsRow w.heap.size 71 2 v (It.shown (l.take k)).length (tcs (It.shown (l.take k))) ∧ Below w.heap.size w wr) (fun _ i _ => l.length - (intOf i).toNat)
  case atStart => exact ⟨0, Nat.zero_le _, rfl, World.ownsRow_made w #[] 0 (Nat.le_refl _) (by decide) rfl, (Below.refl _ _).alloc (Nat.le_refl _) _⟩
  case round =>
    obtain ⟨k, hk, rfl, hown, hbw⟩ := hrel
    have hsz := hbw.size
    by_cases hlt : k < l.length
    · obtain ⟨b1, o1, rfl, c10, c11⟩ := (HL.out.below' hbw).at hlt
      have HN := Lib.hid (shown_snoc hlt)
      have hln := shown_le (l.take k)
      rw [List.length_take, Nat.min_eq_left hk] at hln
      obtain ⟨⟨z, s⟩, hzs⟩ : ∃ x, x = l[k] := ⟨_, rfl⟩
      rw [← hzs] at c10 c11 HN
      clear hzs
      obtain ⟨out, hout⟩ : ∃ out, out = It.shown (l.take k) := ⟨_, rfl⟩
      rw [← hout] at hown hln HN
      clear hout
      go_wp2_with fail
      go_quiet (fail)
      obtain ⟨W, hW⟩ : ∃ W, W = wr.drewN nq := ⟨_, rfl⟩
      have hbq : Below w.heap.size w W := by rw [hW]; exact below_drewN hbw nq
      have hq : W.ownsRow w.heap.size 71 2 u3 out.length (tcs out) := by rw [hW]; exact own_drewN hown nq
      rw [← hW]
      have hsq := hbq.size
      clear hW hown hbw c10 c11
      have hcur := hq
      have bcur := hbq
      clear hq hbq
      rcases (by omega : (z < 1 ∨ 16 < z) ∨ z = 1 ∨ (z = 2 ∨ z = 3) ∨ (4 ≤ z ∧ z ≤ 13) ∨ (14 ≤ z ∧ z ≤ 16)) with hz | hz | hz | hz | hz
      · have hso : It.showOne (z, s) = [] := by
          unfold It.showOne
          rw [if_neg (by simp; omega), if_neg (by simp; omega), if_neg (by simp; omega), if_neg (by simp; omega)]
        have hz2 : (z == 1) = false := by simp; omega
        have hz3 : (z == 2) = false := by simp; omega
        have hz4 : (z == 3) = false := by simp; omega
        rcases hz with hz | hz
        · have hz5 : decide (4 ≤ z) = false := by simp; omega
          go_wp2_with fail
          go_roundw
          case rel => exact ⟨k + 1, by omega, by go_num, (by rw [HN.out, hso, List.append_nil]; exact hcur), bcur⟩
          case measure => simp [intOf]; omega
        · have hz5 : decide (z ≤ 16) = false := by simp; omega
          have hz6 : decide (z ≤ 13) = false := by simp; omega
          go_wp2_with fail
          go_roundw
          case rel => exact ⟨k + 1, by omega, by go_num, (by rw [HN.out, hso, List.append_nil]; exact hcur), bcur⟩
          case measure => simp [intOf]; omega
      · subst hz
        have hso : It.showOne (1, s) = [(1, s)] := rfl
        go_wp2_with (first | (at_builtin; refine wp_app tyRef rfl _ _ rfl w.heap.size hcur rfl rfl rfl rfl tc_one (by omega) (by omega) bcur.size ?_; clear hcur; intro v2 w2 hcur b2 _; have bcur := bcur.trans b2; clear b2) | fail)
        go_roundw
        case rel =>
          have e1 : tcs (out ++ [(1, s)]) = tcs out ++ [.int .i64 1, .string (S s)] := by simp [tcs, tc]
          exact ⟨k + 1, by omega, by go_num, (by rw [HN.out, hso, e1, List.length_append]; exact hcur), bcur⟩
        case measure => simp [intOf]; omega
      · have hso : It.showOne (z, s) = [(z, [])] := by
          unfold It.showOne
          rw [if_neg (by simp; omega), if_pos (by simpa using hz)]
        have hz2 : (z == 1) = false := by simp; omega
        have hz5 : decide (4 ≤ z) = false := by simp; omega
        have hz6 : (z == 2 || z == 3) = true := by simpa using hz
        rcases hz with hz | hz
        all_goals (
          subst hz
          go_wp2_with (first | (at_builtin; refine wp_app tyRef rfl _ _ rfl w.heap.size hcur rfl rfl rfl rfl tc_one (by omega) (by omega) bcur.size ?_; clear hcur; intro v2 w2 hcur b2 _; have bcur := bcur.trans b2; clear b2) | fail)
          go_roundw
          case rel =>
            have e1 : ∀ q : Int, tcs (out ++ [(q, [])]) = tcs out ++ [.int .i64 q, .string (S [])] := fun q => by simp [tcs, tc]
            exact ⟨k + 1, by omega, by go_num, (by rw [HN.out, hso, e1, List.length_append]; exact hcur), bcur⟩
          case measure => simp [intOf]; omega
        )
      · obtain ⟨n, rfl⟩ : ∃ n : Nat, z = (n : Int) + 4 := ⟨(z - 4).toNat, by omega⟩
        have hn9 : n ≤ 9 := by omega
        have hz2 : ((n : Int) + 4 == 1) = false := by simp; omega
        have hz3 : ((n : Int) + 4 == 2) = false := by simp; omega
        have hz4 : ((n : Int) + 4 == 3) = false := by simp; omega
        have hwr : IntKind.i64.wrap ((n : Int) + 4 - 4) = (n : Int) := (Go.IntWalk.i64_left _).trans ((Go.IntWalk.wrap64_in _ (by omega)).trans (by omega))
        have hn13 : (n : Int) < 13 := by omega
        have hso : It.showOne ((n : Int) + 4, s) = [(4, It.nameOf (n + 4)), (5, []), (1, s), (6, [])] := by
          unfold It.showOne
          rw [if_neg (by simp; omega), if_neg (by simp; omega), if_pos (by simp; omega)]
          rfl
        go_wp2_with (first
          | (go_at_call 24; (with_reducible refine (refNames_any _).mono ?_); rintro e w3 ⟨g, rfl, hg, b3⟩; have c3 := (row_cell hg n).trans (nameCells_at (show n < 13 by omega)); have hcur := own_below hcur (own_under hcur) b3; have bcur := bcur.trans (b3.mono bcur.size); clear b3 hg)
          | (at_builtin; refine wp_app tyRef rfl _ _ rfl w.heap.size hcur rfl rfl rfl rfl tc_one (by omega) (by omega) bcur.size ?_; clear hcur; intro v2 w2 hcur b2 _; have bcur := bcur.trans b2; clear b2)
          | fail)
        go_roundw
        case rel =>
          have e1 : tcs (out ++ [(4, It.nameOf (n + 4)), (5, []), (1, s), (6, [])]) = tcs out ++ [.int .i64 4, .string (S (It.nameOf (n + 4)))] ++ [.int .i64 5, .string (S [])] ++ [.int .i64 1, .string (S s)] ++ [.int .i64 6, .string (S [])] := by simp [tcs, tc]
          exact ⟨k + 1, by omega, by go_num, (by rw [HN.out, hso, e1, List.length_append]; exact hcur), bcur⟩
        case measure => simp [intOf]; omega
      · obtain ⟨n, rfl⟩ : ∃ n : Nat, z = (n : Int) + 4 := ⟨(z - 4).toNat, by omega⟩
        have hn9 : 10 ≤ n := by omega
        have hn12 : n ≤ 12 := by omega
        have hz2 : ((n : Int) + 4 == 1) = false := by simp; omega
        have hz3 : ((n : Int) + 4 == 2) = false := by simp; omega
        have hz4 : ((n : Int) + 4 == 3) = false := by simp; omega
        have hz6 : decide ((n : Int) + 4 ≤ 13) = false := by simp; omega
        have hwr : IntKind.i64.wrap ((n : Int) + 4 - 4) = (n : Int) := (Go.IntWalk.i64_left _).trans ((Go.IntWalk.wrap64_in _ (by omega)).trans (by omega))
        have hn13 : (n : Int) < 13 := by omega
        have hso : It.showOne ((n : Int) + 4, s) = [(4, It.nameOf (n + 4))] := by
          unfold It.showOne
          rw [if_neg (by simp; omega), if_neg (by simp; omega), if_neg (by simp; omega), if_pos (by simp; omega)]
          rfl
        go_wp2_with (first
          | (go_at_call 24; (with_reducible refine (refNames_any _).mono ?_); rintro e w3 ⟨g, rfl, hg, b3⟩; have c3 := (row_cell hg n).trans (nameCells_at (show n < 13 by omega)); have hcur := own_below hcur (own_under hcur) b3; have bcur := bcur.trans (b3.mono bcur.size); clear b3 hg)
          | (at_builtin; refine wp_app tyRef rfl _ _ rfl w.heap.size hcur rfl rfl rfl rfl tc_one (by omega) (by omega) bcur.size ?_; clear hcur; intro v2 w2 hcur b2 _; have bcur := bcur.trans b2; clear b2)
          | fail)
        go_roundw
        case rel =>
          have e1 : tcs (out ++ [(4, It.nameOf (n + 4))]) = tcs out ++ [.int .i64 4, .string (S (It.nameOf (n + 4)))] := by simp [tcs, tc]
          exact ⟨k + 1, by omega, by go_num, (by rw [HN.out, hso, e1, List.length_append]; exact hcur), bcur⟩
        case measure => simp [intOf]; omega
    · obtain rfl : k = l.length := by omega
      rw [List.take_length] at hown
      go_wp2_with fail
      go_ret
      exact ⟨_, rfl, hown, hbw⟩

set_option maxRecDepth 20000 in
set_option maxHeartbeats 4000000 in
/-- 'Show'. -/
theorem show9_any (v : Value) (l : List Lx.Tok) (w : World) (hl : Rt w v l) (hlen : l.length ≤ 1000000) (hk : ∀ t ∈ l, (Lit.int .i64 t.1).wf = true) :
    Calls Try.prog 19 #[v] w fun e w' => ∃ v', e = .returned v' ∧ w'.ownsRow w.heap.size 48 2 v' (It.shown l).length (tcs (It.shown l)) ∧ Below w.heap.size w w' := by
  obtain ⟨a0, c0, rfl⟩ := hl.shape
  have HL := Lib.hid hl
  have HK := Lib.hid hk
  clear hl hk
  go_enter Try.func19, Try.ntmps19
  go_wp2_with fail
  (with_reducible refine (names_any _).mono ?_); rintro e w1 ⟨b, D, rfl, hown, hD, hbw0, b1⟩
  have HL1 := Lib.hid (HL.out.below' b1)
  have hm1 := hown
  clear HL
  go_wp2_with fail
  go_loopw [4, 12] (fun v i wr => ∃ k : Nat, k ≤ l.length ∧ i = .int .i64 k ∧ wr.ownsRow w1.heap.size 48 2 v (It.shown (l.take k)).length (tcs (It.shown (l.take k))) ∧ Below w1.heap.size w1 wr) (fun _ i _ => l.length - (intOf i).toNat)
  case atStart => exact ⟨0, Nat.zero_le _, rfl, World.ownsRow_nil _ _ _ _, Below.refl _ _⟩
  case round =>
    obtain ⟨k, hk, rfl, hown, hbw⟩ := hrel
    have hsz := hbw.size
    by_cases hlt : k < l.length
    · obtain ⟨b1, o1, rfl, c10, c11⟩ := (HL1.out.below' hbw).at hlt
      have hwf := HK.out _ (List.getElem_mem hlt)
      have HN := Lib.hid (shown_snoc hlt)
      have hln := shown_le (l.take k)
      rw [List.length_take, Nat.min_eq_left hk] at hln
      obtain ⟨⟨z, s⟩, hzs⟩ : ∃ x, x = l[k] := ⟨_, rfl⟩
      rw [← hzs] at c10 c11 HN hwf
      clear hzs
      obtain ⟨out, hout⟩ : ∃ out, out = It.shown (l.take k) := ⟨_, rfl⟩
      rw [← hout] at hown hln HN
      clear hout
      have hm := map_below hm1 hbw
      have hcur := hown.alloc (.cells #[.int .i64 z, .string (S s)] 49)
      have bcur : Below w1.heap.size w1 (wr.alloc (.cells #[.int .i64 z, .string (S s)] 49)) := hbw.alloc hsz _
      rcases (by omega : (z < 1 ∨ 16 < z) ∨ z = 1 ∨ (z = 2 ∨ z = 3) ∨ (4 ≤ z ∧ z ≤ 13) ∨ (14 ≤ z ∧ z ≤ 16)) with hz | hz | hz | hz | hz
      · have hso : It.showOne (z, s) = [] := by
          unfold It.showOne
          rw [if_neg (by simp; omega), if_neg (by simp; omega), if_neg (by simp; omega), if_neg (by simp; omega)]
        have hnz : ¬ (4 ≤ z ∧ z ≤ 16) := by omega
        have hz2 : (z == 1) = false := by simp; omega
        have hz3 : (z == 2) = false := by simp; omega
        have hz4 : (z == 3) = false := by simp; omega
        go_wp2_with (first | (at_lookup; refine wp_name_miss _ rfl _ _ rfl b D rfl (hm.alloc _) hD z rfl hwf hnz ?_) | fail)
        go_roundw
        case rel => exact ⟨k + 1, by omega, by go_num, (by rw [HN.out, hso, List.append_nil]; exact hcur.alloc _), bcur.alloc bcur.size _⟩
        case measure => simp [intOf]; omega
      · subst hz
        have hso : It.showOne (1, s) = [(1, s)] := rfl
        go_wp2_with (first | (at_builtin; refine wp_app tyTok rfl _ _ rfl w1.heap.size hcur rfl rfl (by simp) rfl tc_one (by omega) (by omega) bcur.size ?_; clear hcur; intro v2 w2 hcur b2 _; have bcur := bcur.trans b2; clear b2) | fail)
        go_roundw
        case rel =>
          have e1 : tcs (out ++ [(1, s)]) = tcs out ++ [.int .i64 1, .string (S s)] := by simp [tcs, tc]
          exact ⟨k + 1, by omega, by go_num, (by rw [HN.out, hso, e1, List.length_append]; exact hcur), bcur⟩
        case measure => simp [intOf]; omega
      · have hso : It.showOne (z, s) = [(z, [])] := by
          unfold It.showOne
          rw [if_neg (by simp; omega), if_pos (by simpa using hz)]
        have hz2 : (z == 1) = false := by simp; omega
        rcases hz with hz | hz
        all_goals (
          subst hz
          go_wp2_with (first | (at_builtin; refine wp_app tyTok rfl _ _ rfl w1.heap.size hcur rfl rfl (by simp) rfl tc_one (by omega) (by omega) bcur.size ?_; clear hcur; intro v2 w2 hcur b2 _; have bcur := bcur.trans b2; clear b2) | fail)
          go_roundw
          case rel =>
            have e1 : ∀ q : Int, tcs (out ++ [(q, [])]) = tcs out ++ [.int .i64 q, .string (S [])] := fun q => by simp [tcs, tc]
            exact ⟨k + 1, by omega, by go_num, (by rw [HN.out, hso, e1, List.length_append]; exact hcur), bcur⟩
          case measure => simp [intOf]; omega
        )
      · have hg : It.grp z.toNat = 1 := by unfold It.grp; rw [if_pos (by omega)]
        have hz2 : (z == 1) = false := by simp; omega
        have hz3 : (z == 2) = false := by simp; omega
        have hz4 : (z == 3) = false := by simp; omega
        have hz16 : 4 ≤ z ∧ z ≤ 16 := by omega
        have hso : It.showOne (z, s) = [(4, It.nameOf z.toNat), (5, []), (1, s), (6, [])] := by
          unfold It.showOne
          rw [if_neg (by simp; omega), if_neg (by simp; omega), if_pos (by simp; omega)]
        go_wp2_with (first
          | (at_lookup; refine wp_name_hit _ rfl _ _ rfl b D rfl (hm.alloc _) hD z rfl hz16 ?_; rw [hg];
              have hcur := hcur.alloc (.cells #[.string (S (It.nameOf z.toNat)), .int .i64 1] 82); have bcur := bcur.alloc bcur.size (.cells #[.string (S (It.nameOf z.toNat)), .int .i64 1] 82))
          | (at_builtin; refine wp_app tyTok rfl _ _ rfl w1.heap.size hcur rfl rfl (by simp) rfl tc_one (by omega) (by omega) bcur.size ?_; intro v2 w2 hcur2 b2 g2;
              have hC := pair_cell1 ((g2.block (wr.heap.size + 1) (by simp) (fun e => by have := hown.lt _ e.symm; omega)).trans (alloc2_second _ _ _));
              have hX := pair_cell1 ((g2.block wr.heap.size (by simp; omega) (fun e => by have := hown.lt _ e.symm; omega)).trans (alloc2_first _ _ _)); have bcur2 := bcur.trans b2; clear hcur bcur b2 g2)
          | (at_builtin; refine wp_app_all tyTok rfl _ _ rfl w1.heap.size (hcur2.alloc _) (rt_made _ [(5, []), (1, s), (6, [])] _) rfl rfl tcs_one (by simp; omega) (by simp; omega) (by simp; have := bcur2.size; omega) ?_; clear hcur2; intro v3 w3 hcur3 b3 g3; have bcur3 := (bcur2.alloc bcur2.size _).trans b3; clear b3 g3)
          | fail)
        go_roundw
        case rel =>
          have e1 : tcs (out ++ [(4, It.nameOf z.toNat), (5, []), (1, s), (6, [])]) = tcs out ++ [.int .i64 4, .string (S (It.nameOf z.toNat))] ++ tcs [(5, []), (1, s), (6, [])] := by simp [tcs, tc]
          exact ⟨k + 1, by omega, by go_num, (by rw [HN.out, hso, e1, List.length_append]; exact hcur3), bcur3⟩
        case measure => simp [intOf]; omega
      · have hg : It.grp z.toNat = 0 := by unfold It.grp; rw [if_neg (by omega)]
        have hz2 : (z == 1) = false := by simp; omega
        have hz3 : (z == 2) = false := by simp; omega
        have hz4 : (z == 3) = false := by simp; omega
        have hz16 : 4 ≤ z ∧ z ≤ 16 := by omega
        have hso : It.showOne (z, s) = [(4, It.nameOf z.toNat)] := by
          unfold It.showOne
          rw [if_neg (by simp; omega), if_neg (by simp; omega), if_neg (by simp; omega), if_pos (by simp; omega)]
        go_wp2_with (first
          | (at_lookup; refine wp_name_hit _ rfl _ _ rfl b D rfl (hm.alloc _) hD z rfl hz16 ?_; rw [hg];
              have hcur := hcur.alloc (.cells #[.string (S (It.nameOf z.toNat)), .int .i64 0] 82); have bcur := bcur.alloc bcur.size (.cells #[.string (S (It.nameOf z.toNat)), .int .i64 0] 82))
          | (at_builtin; refine wp_app tyTok rfl _ _ rfl w1.heap.size hcur rfl rfl (by simp) rfl tc_one (by omega) (by omega) bcur.size ?_; intro v2 w2 hcur2 b2 g2;
              have hC := pair_cell1 ((g2.block (wr.heap.size + 1) (by simp) (fun e => by have := hown.lt _ e.symm; omega)).trans (alloc2_second _ _ _));
              have hX := pair_cell1 ((g2.block wr.heap.size (by simp; omega) (fun e => by have := hown.lt _ e.symm; omega)).trans (alloc2_first _ _ _)); have bcur2 := bcur.trans b2; clear hcur bcur b2 g2)
          | (at_builtin; refine wp_app_all tyTok rfl _ _ rfl w1.heap.size (hcur2.alloc _) (rt_made _ [(5, []), (1, s), (6, [])] _) rfl rfl tcs_one (by simp; omega) (by simp; omega) (by simp; have := bcur2.size; omega) ?_; clear hcur2; intro v3 w3 hcur3 b3 g3; have bcur3 := (bcur2.alloc bcur2.size _).trans b3; clear b3 g3)
          | fail)
        go_roundw
        case rel =>
          have e1 : tcs (out ++ [(4, It.nameOf z.toNat)]) = tcs out ++ [.int .i64 4, .string (S (It.nameOf z.toNat))] := by simp [tcs, tc]
          exact ⟨k + 1, by omega, by go_num, (by rw [HN.out, hso, e1, List.length_append]; exact hcur2), bcur2⟩
        case measure => simp [intOf]; omega
    · obtain rfl : k = l.length := by omega
      rw [List.take_length] at hown
      go_wp2_with fail
      go_ret
      exact ⟨_, rfl, own_mono hown b1.size, b1.trans (hbw.mono b1.size)⟩

end Go.Proofs.Ytcdclkgfgieppaa
