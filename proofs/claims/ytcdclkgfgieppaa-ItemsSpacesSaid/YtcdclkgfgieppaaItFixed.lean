
/- The item laws' fixed calls, walked. No condition. -/
import Derived.Test.YtcdclkgfgieppaaItParseR
import Derived.Test.YtcdclkgfgieppaaItShow
import Derived.Test.YtcdclkgfgieppaaLexText
namespace Go.Proofs.Ytcdclkgfgieppaa
open Go.RowKit

theorem rt_of_own9 {w : World} {base e : Nat} {v : Value} {l : List Lx.Tok} (h : w.ownsRow base e 2 v l.length (tcs l)) : Rt w v l := own_rd h
abbrev itA : List Lx.Tok := [(1, [97]), (4, [114, 101, 102]), (5, []), (1, [107]), (6, []), (1, [46]), (4, [116, 111, 99])]
abbrev itB : List Lx.Tok := [(1, [97]), (5, []), (1, [98]), (6, []), (1, [99]), (4, [102, 111, 111]), (4, [99, 105, 116, 101]), (2, []), (1, [120]), (4, [108, 97, 98, 101, 108]), (5, []), (2, []), (6, [])]
abbrev itC : List Lx.Tok := [(1, [97]), (7, [107]), (1, [46]), (14, [])]
abbrev itD : List Lx.Tok := [(1, [97, 98, 99]), (2, []), (1, [120])]
abbrev itN : List Lx.Tok := [(11, [102, 111, 111]), (10, [99, 105, 116, 101]), (2, [108, 97, 98, 101, 108])]

set_option maxRecDepth 20000 in
set_option maxHeartbeats 4000000 in
/-- The calls whose answers the document fixes: true. -/
theorem itFixed_any (w : World) :
    Calls Try.prog 21 #[] w fun e w' => e = .returned (.bool true) ∧ Below w.heap.size w w' := by
  go_enter Try.func21, Try.ntmps21
  simp only [S_lit]
  go_wp2_with fail
  (with_reducible refine (lex_any _ (by decide) _).mono ?_); rintro e w1 ⟨v1, rfl, o1, b1⟩
  rw [show Lx.lex [97, 92, 114, 101, 102, 123, 107, 125, 46, 92, 116, 111, 99] = itA from by decide +kernel] at o1
  go_wp2_with fail
  (with_reducible refine (parse9_any _ itA _ (rt_of_own9 o1) (by decide) (by decide) (by decide +kernel)).mono ?_); rintro e w2 ⟨va, vb, rfl, oa, ob, b2⟩
  rw [show It.parsed itA = (itC, []) from by decide +kernel] at oa ob
  have ra := rt_of_own9 oa
  obtain ⟨ab, cb, rfl⟩ := own_shape ob
  have H2 := b1.trans (b2.mono b1.size)
  clear o1 b1 b2 oa ob
  go_wp2_with fail
  (with_reducible refine (lex_any _ (by decide) _).mono ?_); rintro e w3 ⟨v3, rfl, o3, b3⟩
  rw [show Lx.lex [97, 123, 98, 125, 99, 92, 102, 111, 111, 92, 99, 105, 116, 101, 32, 120, 92, 108, 97, 98, 101, 108, 123, 32, 125] = itB from by decide +kernel] at o3
  have ra3 := ra.below' b3
  have H3 := H2.trans (b3.mono H2.size)
  clear b3 H2 ra
  go_wp2_with fail
  (with_reducible refine (parse9_any _ itB _ (rt_of_own9 o3) (by decide) (by decide) (by decide +kernel)).mono ?_); rintro e w4 ⟨vc, vd, rfl, oc, od, b4⟩
  rw [show It.parsed itB = (itD, itN) from by decide +kernel] at oc od
  have rc := rt_of_own9 oc
  have rd := rt_of_own9 od
  have ra4 := ra3.below' b4
  have H4 := H3.trans (b4.mono H3.size)
  clear o3 b4 oc od ra3 H3
  go_wp2_with fail
  (with_reducible refine (show9_any _ itC _ ra4 (by decide) (by decide +kernel)).mono ?_); rintro e w5 ⟨ve, rfl, oe, b5⟩
  rw [show It.shown itC = itA from by decide +kernel] at oe
  have re := rt_of_own9 oe
  have ra5 := ra4.below' b5
  have rc5 := rc.below' b5
  have rd5 := rd.below' b5
  have H5 := H4.trans (b5.mono H4.size)
  clear oe b5 ra4 rc rd H4
  go_wp2_with fail
  (with_reducible refine (refsIt_any _ itC _ ra5 (by decide)).mono ?_); rintro e w6 ⟨v6, rfl, o6, b6⟩
  have r6 := rt_of_own9 o6
  have ra6 := ra5.below' b6
  have rc6 := rc5.below' b6
  have rd6 := rd5.below' b6
  have re6 := re.below' b6
  have H6 := H5.trans (b6.mono H5.size)
  clear o6 b6 ra5 rc5 rd5 re H5
  go_wp2_with fail
  have al : Below w6.heap.size w6 (w6.alloc (.cells #[.int .i64 1, .string (S [97]), .int .i64 7, .string (S [107]), .int .i64 1, .string (S [46]), .int .i64 14, .string (S [])] 72)) := (Below.refl w6.heap.size w6).alloc (Nat.le_refl _) _
  have m4 : Rt (w6.alloc (.cells #[.int .i64 1, .string (S [97]), .int .i64 7, .string (S [107]), .int .i64 1, .string (S [46]), .int .i64 14, .string (S [])] 72)) (.slice (some ⟨w6.heap.size, 0, none⟩) 4 4) itC := rt_made w6 itC _
  (with_reducible refine (sameIt_any _ _ itC itC _ (r6.below' al) m4 (by decide) (by decide)).mono ?_); rintro e w7 ⟨rfl, b7⟩
  rw [show (itC == itC) = true from by decide +kernel]
  have bb := al.trans (b7.mono (by simp))
  have ra7 := ra6.below' bb
  have rc7 := rc6.below' bb
  have rd7 := rd6.below' bb
  have re7 := re6.below' bb
  have H7 := H6.trans (bb.mono H6.size)
  clear b7 al m4 bb r6 ra6 rc6 rd6 re6 H6
  go_wp2_with fail
  (with_reducible refine (refsIt_any _ itD _ rc7 (by decide)).mono ?_); rintro e w8 ⟨v8, rfl, o8, b8⟩
  have r8 := rt_of_own9 o8
  have ra8 := ra7.below' b8
  have rd8 := rd7.below' b8
  have re8 := re7.below' b8
  have H8 := H7.trans (b8.mono H7.size)
  clear o8 b8 ra7 rc7 rd7 re7 H7
  go_wp2_with fail
  have al : Below w8.heap.size w8 (w8.alloc (.cells #[.int .i64 1, .string (S [97, 98, 99]), .int .i64 2, .string (S []), .int .i64 1, .string (S [120])] 72)) := (Below.refl w8.heap.size w8).alloc (Nat.le_refl _) _
  have m4 : Rt (w8.alloc (.cells #[.int .i64 1, .string (S [97, 98, 99]), .int .i64 2, .string (S []), .int .i64 1, .string (S [120])] 72)) (.slice (some ⟨w8.heap.size, 0, none⟩) 3 3) itD := rt_made w8 itD _
  (with_reducible refine (sameIt_any _ _ itD itD _ (r8.below' al) m4 (by decide) (by decide)).mono ?_); rintro e w9 ⟨rfl, b9⟩
  rw [show (itD == itD) = true from by decide +kernel]
  have bb := al.trans (b9.mono (by simp))
  have ra9 := ra8.below' bb
  have rd9 := rd8.below' bb
  have re9 := re8.below' bb
  have H9 := H8.trans (bb.mono H8.size)
  clear b9 al m4 bb r8 ra8 rd8 re8 H8
  go_wp2_with fail
  have al : Below w9.heap.size w9 (w9.alloc (.cells #[.int .i64 11, .string (S [102, 111, 111]), .int .i64 10, .string (S [99, 105, 116, 101]), .int .i64 2, .string (S [108, 97, 98, 101, 108])] 60)) := (Below.refl w9.heap.size w9).alloc (Nat.le_refl _) _
  have m4 : Rt (w9.alloc (.cells #[.int .i64 11, .string (S [102, 111, 111]), .int .i64 10, .string (S [99, 105, 116, 101]), .int .i64 2, .string (S [108, 97, 98, 101, 108])] 60)) (.slice (some ⟨w9.heap.size, 0, none⟩) 3 3) itN := rt_made w9 itN _
  (with_reducible refine (notes_any _ _ itN itN _ (rd9.below' al) m4 (by decide) (by decide)).mono ?_); rintro e wa ⟨rfl, ba⟩
  rw [show (itN == itN) = true from by decide +kernel]
  have bb := al.trans (ba.mono (by simp))
  have raa := ra9.below' bb
  have rea := re9.below' bb
  have Ha := H9.trans (bb.mono H9.size)
  clear ba al m4 bb ra9 rd9 re9 H9
  go_wp2_with fail
  (with_reducible refine (text_any _ itA _ rea (by decide) (by decide)).mono ?_); rintro e wb ⟨rfl, bb⟩
  rw [show Lx.text itA = [97, 92, 114, 101, 102, 123, 107, 125, 46, 92, 116, 111, 99] from by decide +kernel]
  have rab := raa.below' bb
  have Hb := Ha.trans (bb.mono Ha.size)
  clear bb raa rea Ha
  go_wp2_with fail
  (with_reducible refine (right9_any _ itC _ rab (by decide) (by decide) (by decide +kernel)).mono ?_); rintro e wc ⟨rfl, bc⟩
  rw [show It.right 0 itC = true from by decide +kernel]
  have Hc := Hb.trans (bc.mono Hb.size)
  clear bc rab Hb
  go_wp2_with fail
  have al : Below wc.heap.size wc (wc.alloc (.cells #[.int .i64 7, .string (S [])] 49)) := (Below.refl wc.heap.size wc).alloc (Nat.le_refl _) _
  have m4 : Rt (wc.alloc (.cells #[.int .i64 7, .string (S [])] 49)) (.slice (some ⟨wc.heap.size, 0, none⟩) 1 1) [(7, [])] := rt_made wc [(7, [])] _
  (with_reducible refine (right9_any _ [(7, [])] _ m4 (by decide) (by decide) (by decide +kernel)).mono ?_); rintro e wd ⟨rfl, bd⟩
  rw [show It.right 0 [(7, [])] = false from by decide +kernel]
  have bb := al.trans (bd.mono (by simp))
  have Hd := Hc.trans (bb.mono Hc.size)
  go_wp2_with fail
  go_ret
  exact ⟨rfl, Hd⟩

end Go.Proofs.Ytcdclkgfgieppaa
