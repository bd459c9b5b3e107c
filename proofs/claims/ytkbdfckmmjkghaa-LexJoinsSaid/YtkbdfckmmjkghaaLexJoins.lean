
/- 'LexJoins', walked: it answers true at every input. No condition. -/
import Derived.Test.YtkbdfckmmjkghaaLexTells
import Derived.Test.YtkbdfckmmjkghaaLexLawB
import Derived.BigQuiet
import Derived.Deep.QuietTactic
namespace Go.Proofs.Ytkbdfckmmjkghaa
open Go.RowKit

/-- The law at the two texts, said of the tokens that the code looks at. -/
theorem joins_at {s t : List UInt8} {n : Nat} (hs : s ≠ []) (ht : t ≠ []) (hl : s.length - 1 < s.length) (hc : (s[s.length - 1] == 92) = false) (hn : (Lx.lex s).length = n + 1) (h1 : n < (Lx.lex s).length) (h2 : 0 < (Lx.lex t).length)
    (hx : Lx.gaps ((Lx.lex s)[n]).1 = false) (hy : Lx.gaps ((Lx.lex t)[0]).1 = false) : Lx.lex (s ++ 10 :: 10 :: t) = Lx.lex s ++ (3, []) :: Lx.lex t := by
  refine Lx.lex_joins hs ?_ ?_ ?_
  · intro hk
    rw [Lx.lex_first ht] at hk
    cases hlt : Lx.lex t with
    | nil => rw [hlt] at h2; simp at h2
    | cons b l =>
      simp only [hlt] at hk hy
      have hy : Lx.gaps b.1 = false := hy
      rw [List.headD_cons, hy] at hk
      cases hk
  · rw [List.getLast?_eq_getElem?, List.getElem?_eq_getElem hl]
    intro e
    simp only [Option.some.injEq] at e
    simp [e] at hc
  · intro x h
    rw [List.getLast?_eq_getElem?, hn, Nat.add_sub_cancel, List.getElem?_eq_getElem h1] at h
    simp only [Option.some.injEq] at h
    rw [← h]; exact hx

set_option maxRecDepth 20000 in
set_option maxHeartbeats 1600000 in
theorem lexJoins_any (s t : List UInt8) (w : World) (hs : s.length ≤ 9223372036854775807) (ht : t.length ≤ 9223372036854775807) :
    Calls Try.prog 6 #[.string (S s), .string (S t)] w fun e w' => e = .returned (.bool true) ∧ Below w.heap.size w w' := by
  have hm := take_minI s 100
  have hm2 := take_minI t 100
  simp only [Int.cast_ofNat_Int] at hm hm2
  go_enter Try.func6, Try.ntmps6
  simp only [S_lit]
  go_wp2_with fail
  clear hm hm2
  have hs1 : (s.take 100).length ≤ 100 := by simp; omega
  have ht1 : (t.take 100).length ≤ 100 := by simp; omega
  have hlx := lex_len (s.take 100)
  have hly := lex_len (t.take 100)
  generalize s.take 100 = s1 at *
  generalize t.take 100 = t1 at *
  clear hs ht
  (with_reducible refine (lex_any _ (by omega) _).mono ?_); rintro e w1 ⟨v1, rfl, o1, b1⟩
  have r1 := rt_of_own o1
  obtain ⟨a1, k1, rfl⟩ := own_shape o1
  clear o1
  go_wp2_with fail
  (with_reducible refine (lex_any _ (by omega) _).mono ?_); rintro e w2 ⟨v2, rfl, o2, b2⟩
  have r2 := rt_of_own o2
  obtain ⟨a2, k2, rfl⟩ := own_shape o2
  have r1a := r1.below' b2
  clear o2 r1
  cases hq1 : (((Lx.lex s1).length : Int) == 0)
  · cases hq2 : (((Lx.lex t1).length : Int) == 0)
    · have hsne : s1 ≠ [] := by rintro rfl; simp [Lx.lex_nil] at hq1
      have htne : t1 ≠ [] := by rintro rfl; simp [Lx.lex_nil] at hq2
      have hq3 : ((s1.length : Int) == 0) = false := by cases s1 with
        | nil => exact absurd rfl hsne
        | cons c r => simp; omega
      have hlast : s1.length - 1 < s1.length := by cases s1 with
        | nil => exact absurd rfl hsne
        | cons c r => simp
      cases hc : (s1[s1.length - 1] == 92)
      · have hz1 : (Lx.lex s1).length ≠ 0 := by intro e; rw [e] at hq1; simp at hq1
        have hz2 : (Lx.lex t1).length ≠ 0 := by intro e; rw [e] at hq2; simp at hq2
        obtain ⟨n, hn⟩ : ∃ n, (Lx.lex s1).length = n + 1 := ⟨(Lx.lex s1).length - 1, by omega⟩
        have h1 : n < (Lx.lex s1).length := by omega
        have h2 : 0 < (Lx.lex t1).length := by omega
        have HJ : Hid (Lx.gaps ((Lx.lex s1)[n]).1 = false → Lx.gaps ((Lx.lex t1)[0]).1 = false → Lx.lex (s1 ++ 10 :: 10 :: t1) = Lx.lex s1 ++ (3, []) :: Lx.lex t1) := fun hx hy => joins_at hsne htne hlast hc hn h1 h2 hx hy
        clear hsne htne
        have r1b := r1a
        obtain ⟨ba, oa, rfl, c1, d1⟩ := r1b.at h1
        have r2b := r2
        obtain ⟨bb, ob, rfl, c2, d2⟩ := r2b.at h2
        clear d1 d2 hz1 hz2
        rw [show ob + 0 * 2 = ob by omega] at c2
        generalize ((Lx.lex s1)[n]).1 = X at *
        generalize ((Lx.lex t1)[0]).1 = Y at *
        generalize Lx.lex s1 = la at *
        generalize Lx.lex t1 = lb at *
        have HN := Lib.hid hn
        have R1 := Lib.hid r1a
        have R2 := Lib.hid r2
        clear r1b r2b r1a r2
        have hwr : IntKind.i64.wrap ((la.length : Int) - 1) = (n : Int) := (Go.IntWalk.i64_left _).trans ((Go.IntWalk.wrap64_in _ (by omega)).trans (by omega))
        clear hn
        cases hX2 : (X == 2)
        · cases hX3 : (X == 3)
          · cases hY2 : (Y == 2)
            · cases hY3 : (Y == 3)
              · go_wp2_with fail
                go_quiet (fail)
                have hbq : Below w2.heap.size w2 (w2.drewN nq) := below_drewN (Below.refl _ _) nq
                have hbm : Below w2.heap.size w2 ((w2.drewN nq).alloc (.cells #[] 37)) := hbq.alloc (Nat.le_refl _) _
                have hown0 := World.ownsRow_made (base := w2.heap.size) (e := 37) (size := 2) (w2.drewN nq) #[] 0 (Nat.le_refl _) (by decide) rfl
                have hrd1 := Rd.below' R1.out hbm
                have hu2 := Lib.hid (Rd.under R2.out h2)
                clear R1
                go_wp2_with (first
                  | (at_builtin; refine wp_app_all tyTok rfl _ _ rfl w2.heap.size hown0 hrd1 rfl rfl tcs_one (by omega) (by omega) (by simp) ?_; clear hown0 hrd1; intro v3 w3 o3 b3 _)
                  | (at_builtin; refine wp_app tyTok rfl _ _ rfl w2.heap.size o3 rfl rfl (by simp) rfl tc_one (by omega) (by omega) (by have := b3.size; simp at this; omega) ?_; clear o3; intro v4 w4 o4 b4 _)
                  | (at_builtin; refine wp_app_all tyTok rfl _ _ rfl w2.heap.size o4 (Rd.below R2.out hu2.out ((hbm.trans b3).trans b4)) rfl rfl tcs_one (by omega) (by omega) (by have h5 := b3.size; have h6 := b4.size; simp at h5; omega) ?_; clear o4; intro v5 w5 o5 b5 _)
                  | fail)
                have b35 := (((hbm.trans b3).trans b4).trans b5)
                have r5 : Rt w5 v5 (la ++ (3, []) :: lb) := by
                  refine own_rd (base := w2.heap.size) (e := 37) ?_
                  rw [show (la ++ (3, []) :: lb : List Lx.Tok) = (la ++ [(3, [])]) ++ lb by simp, tcs_append, tcs_append]
                  simpa [tcs, tc, Nat.add_assoc, Nat.add_comm, Nat.add_left_comm] using o5
                clear o5 hu2 R2
                have HL := Lib.hid (HJ.out (by simp [Lx.gaps, hX2, hX3]) (by simp [Lx.gaps, hY2, hY3]))
                (with_reducible refine (lex_any _ (by simp; omega) _).mono ?_); rintro e w6 ⟨v6, rfl, o6, b6⟩
                rw [HL.out] at o6
                have r6 := rt_of_own o6
                have r5a := r5.below' b6
                have hlen : (la ++ (3, []) :: lb).length ≤ 1000 := by simp; omega
                clear o6 r5 HJ HL HN
                generalize la ++ (3, []) :: lb = all at *
                go_wp2_with fail
                (with_reducible refine (refs_any _ _ _ r6 (by omega)).mono ?_); rintro e w7 ⟨v7, rfl, o7, b7⟩
                have r7 := rt_of_own o7
                have r5b := r5a.below' b7
                clear o7 r5a r6
                go_wp2_with fail
                (with_reducible refine (refs_any _ _ _ r5b (by omega)).mono ?_); rintro e w8 ⟨v8, rfl, o8, b8⟩
                have r8 := rt_of_own o8
                have r7a := r7.below' b8
                clear o8 r5b r7
                go_wp2_with fail
                (with_reducible refine (same_any _ _ _ _ _ r7a r8 (by omega) (by omega)).mono ?_); rintro e w9 ⟨rfl, b9⟩
                rw [show (all == all) = true from beq_self_eq_true _]
                clear r7a r8
                go_wp2_with fail
                (with_reducible refine (fixed_any _).mono ?_); rintro e wa ⟨rfl, ba⟩
                go_wp2_with fail
                go_ret
                have g1 := b1.trans (b2.mono b1.size)
                have g2 := g1.trans (b35.mono g1.size)
                have g3 := (g2.trans (b6.mono g2.size))
                have g4 := (g3.trans (b7.mono g3.size))
                have g5 := (g4.trans (b8.mono g4.size))
                have g6 := (g5.trans (b9.mono g5.size))
                exact ⟨rfl, g6.trans (ba.mono g6.size)⟩
              · clear R1 R2 HJ
                go_wp2_with fail
                go_quiet (fail)
                have hbq : Below w2.heap.size w2 (w2.drewN nq) := below_drewN (Below.refl _ _) nq
                go_wp2_with fail
                (with_reducible refine (fixed_any _).mono ?_); rintro e w3 ⟨rfl, b3⟩
                go_wp2_with fail
                go_ret
                have g1 := b1.trans (b2.mono b1.size)
                have g2 := g1.trans (hbq.mono g1.size)
                exact ⟨rfl, g2.trans (b3.mono g2.size)⟩
            · clear R1 R2 HJ
              go_wp2_with fail
              go_quiet (fail)
              have hbq : Below w2.heap.size w2 (w2.drewN nq) := below_drewN (Below.refl _ _) nq
              go_wp2_with fail
              (with_reducible refine (fixed_any _).mono ?_); rintro e w3 ⟨rfl, b3⟩
              go_wp2_with fail
              go_ret
              have g1 := b1.trans (b2.mono b1.size)
              have g2 := g1.trans (hbq.mono g1.size)
              exact ⟨rfl, g2.trans (b3.mono g2.size)⟩
          · clear R1 R2 HJ
            go_wp2_with fail
            go_quiet (fail)
            have hbq : Below w2.heap.size w2 (w2.drewN nq) := below_drewN (Below.refl _ _) nq
            go_wp2_with fail
            (with_reducible refine (fixed_any _).mono ?_); rintro e w3 ⟨rfl, b3⟩
            go_wp2_with fail
            go_ret
            have g1 := b1.trans (b2.mono b1.size)
            have g2 := g1.trans (hbq.mono g1.size)
            exact ⟨rfl, g2.trans (b3.mono g2.size)⟩
        · clear R1 R2 HJ
          go_wp2_with fail
          go_quiet (fail)
          have hbq : Below w2.heap.size w2 (w2.drewN nq) := below_drewN (Below.refl _ _) nq
          go_wp2_with fail
          (with_reducible refine (fixed_any _).mono ?_); rintro e w3 ⟨rfl, b3⟩
          go_wp2_with fail
          go_ret
          have g1 := b1.trans (b2.mono b1.size)
          have g2 := g1.trans (hbq.mono g1.size)
          exact ⟨rfl, g2.trans (b3.mono g2.size)⟩
      · go_wp2_with fail
        (with_reducible refine (fixed_any _).mono ?_); rintro e w3 ⟨rfl, b3⟩
        go_wp2_with fail
        go_ret
        have h1 := b1.trans (b2.mono b1.size)
        exact ⟨rfl, h1.trans (b3.mono h1.size)⟩
    · go_wp2_with fail
      (with_reducible refine (fixed_any _).mono ?_); rintro e w3 ⟨rfl, b3⟩
      go_wp2_with fail
      go_ret
      have h1 := b1.trans (b2.mono b1.size)
      exact ⟨rfl, h1.trans (b3.mono h1.size)⟩
  · go_wp2_with fail
    (with_reducible refine (fixed_any _).mono ?_); rintro e w3 ⟨rfl, b3⟩
    go_wp2_with fail
    go_ret
    have h1 := b1.trans (b2.mono b1.size)
    exact ⟨rfl, h1.trans (b3.mono h1.size)⟩

end Go.Proofs.Ytkbdfckmmjkghaa
