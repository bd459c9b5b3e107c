
/- The laws' fixed calls, walked. -/
import Derived.Test.YtkbdfckmmjkghaaLexRight
namespace Go.Proofs.Ytkbdfckmmjkghaa
open Go.RowKit

theorem rt_of_own {w : World} {base e : Nat} {v : Value} {l : List Lx.Tok} (h : w.ownsRow base e 2 v l.length (tcs l)) : Rt w v l := own_rd h

set_option maxHeartbeats 1600000 in
/-- The calls whose answers the document fixes: true. -/
theorem fixed_any (w : World) :
    Calls Try.prog 18 #[] w fun e w' => e = .returned (.bool true) ∧ Below w.heap.size w w' := by
  go_enter Try.func18, Try.ntmps18
  simp only [S_lit]
  go_wp2_with fail
  (with_reducible refine (lex_any _ (by decide) _).mono ?_); rintro e w1 ⟨va, rfl, oa, b1⟩
  have ra := rt_of_own oa
  go_wp2_with fail
  (with_reducible refine (lex_any _ (by decide) _).mono ?_); rintro e w2 ⟨vb, rfl, ob, b2⟩
  have rb := rt_of_own ob
  have ra2 := ra.below' b2
  go_wp2_with fail
  (with_reducible refine (lex_any _ (by decide) _).mono ?_); rintro e w3 ⟨vc, rfl, oc, b3⟩
  have rc := rt_of_own oc
  have ra3 := ra2.below' b3
  have rb3 := rb.below' b3
  clear oa ob oc ra ra2 rb
  go_wp2_with fail
  (with_reducible refine (refs_any _ _ _ ra3 (by decide)).mono ?_); rintro e w4 ⟨v4, rfl, o4, b4⟩
  have r4 := rt_of_own o4
  have ra4 := ra3.below' b4
  have rb4 := rb3.below' b4
  have rc4 := rc.below' b4
  clear o4 ra3 rb3 rc
  go_wp2_with fail
  have m4 : Rt (w4.alloc (.cells #[.int .i64 1, .string (S [97, 37, 98])] 40)) (.slice (some ⟨w4.heap.size, 0, none⟩) 1 1) [(1, [97, 37, 98])] := rt_made w4 [(1, [97, 37, 98])] _
  have al4 := (Below.refl w4.heap.size w4).alloc (Nat.le_refl _) (.cells #[.int .i64 1, .string (S [97, 37, 98])] 40)
  (with_reducible refine (same_any _ _ _ [(1, [97, 37, 98])] _ (r4.below' al4) m4 (by decide +kernel) (by decide)).mono ?_); rintro e w5 ⟨rfl, b5⟩
  rw [show (Lx.lex [97, 92, 37, 98] == [(1, [97, 37, 98])]) = true from by decide +kernel]
  have bb5 := al4.trans (b5.mono (by simp))
  have ra5 := ra4.below' bb5
  have rb5 := rb4.below' bb5
  have rc5 := rc4.below' bb5
  clear ra4 rb4 rc4 r4 m4 al4
  go_wp2_with fail
  (with_reducible refine (refs_any _ _ _ rb5 (by decide +kernel)).mono ?_); rintro e w6 ⟨v6, rfl, o6, b6⟩
  have r6 := rt_of_own o6
  have ra6 := ra5.below' b6
  have rb6 := rb5.below' b6
  have rc6 := rc5.below' b6
  clear o6 ra5 rb5 rc5
  go_wp2_with fail
  have m6 : Rt (w6.alloc (.cells #[.int .i64 4, .string (S [99, 105, 116, 101]), .int .i64 5, .string (S []), .int .i64 1, .string (S [120]), .int .i64 6, .string (S []), .int .i64 2, .string (S [])] 40)) (.slice (some ⟨w6.heap.size, 0, none⟩) 5 5) [(4, [99, 105, 116, 101]), (5, []), (1, [120]), (6, []), (2, [])] := rt_made w6 [(4, [99, 105, 116, 101]), (5, []), (1, [120]), (6, []), (2, [])] _
  have al6 := (Below.refl w6.heap.size w6).alloc (Nat.le_refl _) (.cells #[.int .i64 4, .string (S [99, 105, 116, 101]), .int .i64 5, .string (S []), .int .i64 1, .string (S [120]), .int .i64 6, .string (S []), .int .i64 2, .string (S [])] 40)
  (with_reducible refine (same_any _ _ _ [(4, [99, 105, 116, 101]), (5, []), (1, [120]), (6, []), (2, [])] _ (r6.below' al6) m6 (by decide +kernel) (by decide)).mono ?_); rintro e w7 ⟨rfl, b7⟩
  rw [show (Lx.lex [92, 99, 105, 116, 101, 123, 120, 125, 37, 121] == [(4, [99, 105, 116, 101]), (5, []), (1, [120]), (6, []), (2, [])]) = true from by decide +kernel]
  have bb7 := al6.trans (b7.mono (by simp))
  have ra7 := ra6.below' bb7
  have rb7 := rb6.below' bb7
  have rc7 := rc6.below' bb7
  clear ra6 rb6 rc6 r6 m6 al6
  go_wp2_with fail
  (with_reducible refine (refs_any _ _ _ rc7 (by decide +kernel)).mono ?_); rintro e w8 ⟨v8, rfl, o8, b8⟩
  have r8 := rt_of_own o8
  have ra8 := ra7.below' b8
  have rb8 := rb7.below' b8
  clear o8 ra7 rb7 rc7
  go_wp2_with fail
  have m8 : Rt (w8.alloc (.cells #[.int .i64 1, .string (S [97]), .int .i64 3, .string (S []), .int .i64 1, .string (S [98]), .int .i64 7, .string (S [49]), .int .i64 1, .string (S [35, 48])] 40)) (.slice (some ⟨w8.heap.size, 0, none⟩) 5 5) [(1, [97]), (3, []), (1, [98]), (7, [49]), (1, [35, 48])] := rt_made w8 [(1, [97]), (3, []), (1, [98]), (7, [49]), (1, [35, 48])] _
  have al8 := (Below.refl w8.heap.size w8).alloc (Nat.le_refl _) (.cells #[.int .i64 1, .string (S [97]), .int .i64 3, .string (S []), .int .i64 1, .string (S [98]), .int .i64 7, .string (S [49]), .int .i64 1, .string (S [35, 48])] 40)
  (with_reducible refine (same_any _ _ _ [(1, [97]), (3, []), (1, [98]), (7, [49]), (1, [35, 48])] _ (r8.below' al8) m8 (by decide +kernel) (by decide)).mono ?_); rintro e w9 ⟨rfl, b9⟩
  rw [show (Lx.lex [97, 32, 10, 37, 120, 10, 10, 98, 35, 49, 35, 48] == [(1, [97]), (3, []), (1, [98]), (7, [49]), (1, [35, 48])]) = true from by decide +kernel]
  have bb9 := al8.trans (b9.mono (by simp))
  have ra9 := ra8.below' bb9
  have rb9 := rb8.below' bb9
  clear ra8 rb8 r8 m8 al8
  go_wp2_with fail
  (with_reducible refine (text_any _ _ _ ra9 (by decide +kernel) (by decide +kernel)).mono ?_); rintro e wa ⟨rfl, ba⟩
  rw [show Lx.text (Lx.lex [97, 92, 37, 98]) = [97, 92, 37, 98] from by decide +kernel]
  have ra10 := ra9.below' ba
  have rb10 := rb9.below' ba
  clear ra9 rb9
  go_wp2_with fail
  (with_reducible refine (text_any _ _ _ rb10 (by decide +kernel) (by decide +kernel)).mono ?_); rintro e wb ⟨rfl, bb⟩
  rw [show Lx.text (Lx.lex [92, 99, 105, 116, 101, 123, 120, 125, 37, 121]) = [92, 99, 105, 116, 101, 123, 120, 125, 32] from by decide +kernel]
  have ra11 := ra10.below' bb
  clear ra10 rb10
  go_wp2_with fail
  (with_reducible refine (right_any _ _ _ ra11 (by decide +kernel) (by decide +kernel)).mono ?_); rintro e wc ⟨rfl, bc⟩
  rw [show Lx.right (Lx.lex [97, 92, 37, 98]) = true from by decide +kernel]
  clear ra11
  go_wp2_with fail
  have mc : Rt (wc.alloc (.cells #[.int .i64 1, .string (S [])] 37)) (.slice (some ⟨wc.heap.size, 0, none⟩) 1 1) [(1, [])] := rt_made wc [(1, [])] _
  (with_reducible refine (right_any _ [(1, [])] _ mc (by decide) (by decide)).mono ?_); rintro e wd ⟨rfl, bd⟩
  rw [show Lx.right [(1, [])] = false from by decide +kernel]
  clear mc
  go_wp2_with fail
  go_ret
  have h1 := ((b1.trans (b2.mono b1.size)).trans (b3.mono (Nat.le_trans b1.size b2.size)))
  have h2 := (h1.trans (b4.mono h1.size)).trans (bb5.mono (Nat.le_trans h1.size b4.size))
  have h3 := (h2.trans (b6.mono h2.size)).trans (bb7.mono (Nat.le_trans h2.size b6.size))
  have h4 := (h3.trans (b8.mono h3.size)).trans (bb9.mono (Nat.le_trans h3.size b8.size))
  have h5 := (h4.trans (ba.mono h4.size)).trans (bb.mono (Nat.le_trans h4.size ba.size))
  have h6 := h5.trans (bc.mono h5.size)
  exact ⟨rfl, (h6.alloc h6.size _).trans (bd.mono (by have := h6.size; simp; omega))⟩

end Go.Proofs.Ytkbdfckmmjkghaa
