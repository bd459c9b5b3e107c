
/- 'Parse' of the reference, walked. No condition. -/
import Derived.Test.YtcdclkgfgieppaaItParse
import Derived.StillTailTactics
namespace Go.Proofs.Ytcdclkgfgieppaa
open Go.RowKit

set_option maxRecDepth 20000 in
set_option maxHeartbeats 8000000 in
/-- 'Parse' of the reference. -/
theorem refParse9_any (v : Value) (l : List Lx.Tok) (w : World) (hl : Rt w v l) (hlen : l.length ≤ 1000) (hs : ∀ t ∈ l, t.2.length ≤ 100000) :
    Calls Try.prog 11 #[v] w fun e w' => ∃ vo vn, e = .returned (.tuple #[vo, vn]) ∧ w'.ownsRow w.heap.size 72 2 vo (It.parsed l).1.length (tcs (It.parsed l).1) ∧ w'.ownsRow w.heap.size 60 2 vn (It.parsed l).2.length (tcs (It.parsed l).2) ∧ Below w.heap.size w w' := by
  obtain ⟨a0, c0, rfl⟩ := hl.shape
  have HL := Lib.hid hl
  have HS := Lib.hid hs
  clear hl hs
  go_enter Try.func11, Try.ntmps11
  simp only [S_lit]
  go_wp2_with fail
  go_loopw [4, 5, 6] (fun vo vn i wr => ∃ (k : Nat) (out notes : List Lx.Tok), k ≤ l.length ∧ i = .int .i64 k ∧ Hid (It.parsed l = It.parse l.length (l.drop k) out notes) ∧ wr.ownsRow w.heap.size 72 2 vo out.length (tcs out) ∧ wr.ownsRow w.heap.size 60 2 vn notes.length (tcs notes) ∧ out.length ≤ k ∧ notes.length ≤ k ∧ Hid (∀ t ∈ out, t.2.length ≤ k * 100000) ∧ Below w.heap.size w wr) (fun _ _ i _ => l.length - (intOf i).toNat)
  case atStart =>
    refine ⟨0, [], [], Nat.zero_le _, rfl, Lib.hid rfl, ?_, ?_, Nat.le_refl _, Nat.le_refl _, Lib.hid (by simp), ?_⟩
    · exact (World.ownsRow_made w #[] 0 (Nat.le_refl _) (by decide) rfl).alloc _
    · have h := World.ownsRow_made (e := 60) (size := 2) (base := w.heap.size) (w.alloc (.cells #[] 72)) #[] 0 (by simp) (by decide) rfl
      rw [show (w.alloc (.cells #[] 72)).heap.size = w.heap.size + 1 by simp] at h
      exact h
    · exact ((Below.refl _ _).alloc (Nat.le_refl _) _).alloc (by simp) _
  case round =>
    obtain ⟨k, out, notes, hk, rfl, HE, hO, hN, hol, hnl, HO, hbw⟩ := hrel
    have hsz := hbw.size
    by_cases hlt : k < l.length
    · obtain ⟨b1, o1, rfl, c10, c11⟩ := (HL.out.below' hbw).at hlt
      have hst := HS.out _ (List.getElem_mem hlt)
      have HEN := Lib.hid (HE.out.trans ((congrArg (fun x => It.parse l.length x out notes) (drop_at hlt)).trans (It.parse_cons l.length l[k] (l.drop (k + 1)) out notes (by rw [List.length_drop]; omega))))
      obtain ⟨⟨z, s⟩, hzs⟩ : ∃ x, x = l[k] := ⟨_, rfl⟩
      rw [← hzs] at c10 c11 HEN hst
      clear hzs HE
      have hpos := Lib.hid (bound_mono HO.out (show k * 100000 ≤ (k + 1) * 100000 by omega))
      simp only at hst
      have hO := hO.alloc (.cells #[.int .i64 z, .string (S s)] 71)
      have hN := hN.alloc (.cells #[.int .i64 z, .string (S s)] 71)
      have hT := heap_alloc_new wr (.cells #[.int .i64 z, .string (S s)] 71)
      have hbw := hbw.alloc hsz (.cells #[.int .i64 z, .string (S s)] 71)
      rcases (by omega : (z < 1 ∨ 4 < z) ∨ z = 1 ∨ (z = 2 ∨ z = 3) ∨ z = 4) with hz | hz | hz | hz
      · have HE2 := HEN.out
        rw [if_neg (by simp only; omega), if_neg (by simp only; omega), if_neg (by simp only; omega)] at HE2
        have HE3 := Lib.hid HE2
        clear HE2 HEN
        have hz1 : (z == 1) = false := by simp; omega
        have hz2 : (z == 2) = false := by simp; omega
        have hz3 : (z == 3) = false := by simp; omega
        have hz4 : (z == 4) = false := by simp; omega
        go_wp2_with fail
        go_roundw
        case rel => exact ⟨k + 1, out, notes, by omega, by go_num, HE3, hO, hN, by omega, by omega, hpos, hbw⟩
        case measure => simp [intOf]; omega
      · subst hz
        have HE2 := HEN.out
        rw [if_pos rfl] at HE2
        have HE3 := Lib.hid HE2
        clear HE2 HEN
        have HB := Lib.hid (bound_mono (It.word_bound HO.out hst) (show k * 100000 + 100000 ≤ (k + 1) * 100000 by omega))
        clear HO hpos
        have hie : s ≠ [] → s.isEmpty = false := fun h0 => by cases s with | nil => exact absurd rfl h0 | cons _ _ => rfl
        rcases List.eq_nil_or_concat out with rfl | ⟨o', ⟨kx, y⟩, rfl⟩
        · obtain ⟨a2, k2, rfl⟩ := own_shape hO
          by_cases h0 : s = []
          · subst h0
            clear hie
            go_wp2_with fail
            go_roundw
            case rel => exact ⟨k + 1, [], notes, by omega, by go_num, HE3, hO, hN, by simp, by omega, HB, hbw⟩
            case measure => simp [intOf]; omega
          · have hie := hie h0
            have hw : It.word [] s = [] ++ [(1, s)] := by simp [It.word, h0]
            go_wp2_with (first | (at_builtin; refine wp_app tyItR rfl _ _ rfl w.heap.size hO rfl rfl (by simp) rfl tc_one (by omega) (by omega) hbw.size ?_; intro v2 w2 hO2 b2 g2; have hN2 := hN.kept g2 (rows_ne hN hO (by decide)); have bw2 := hbw.trans b2) | fail)
            go_roundw
            case rel =>
              refine ⟨k + 1, _, notes, by omega, by go_num, HE3, ?_, hN2, by rw [hw]; simp, by omega, HB, bw2⟩
              rw [hw, tcs_snoc]; exact hO2
            case measure => simp [intOf]; omega
        · rw [List.concat_eq_append] at *
          have hln : (o' ++ [(kx, y)]).length = o'.length + 1 := by simp
          have hO9 := hO
          have hol2 : o'.length + 1 ≤ k := by simpa using hol
          obtain ⟨b, cp, rfl⟩ := own_form hO (by omega)
          have hrt : Rt (wr.alloc (.cells #[.int .i64 1, .string (S s)] 71)) (.slice (some ⟨b, 0, none⟩) (o' ++ [(kx, y)]).length cp) (o' ++ [(kx, y)]) := own_rd hO
          obtain ⟨b4, q4, hb4, d0, d1⟩ := Rt.at hrt (i := o'.length) (by omega)
          cases hb4
          rw [List.getElem_append_right (Nat.le_refl _)] at d0 d1
          simp only [Nat.sub_self, List.getElem_cons_zero, Nat.zero_add] at d0 d1
          have hwr : IntKind.i64.wrap ((o'.length : Int) + 1 - 1) = (o'.length : Int) := (Go.IntWalk.i64_left _).trans ((Go.IntWalk.wrap64_in _ (by omega)).trans (by omega))
          have hwr2 : wrap64 (o'.length : Int) = (o'.length : Int) := Go.IntWalk.wrap64_in _ (by omega)
          have hwr3 : IntKind.i64.wrap (o'.length : Int) = (o'.length : Int) := (Go.IntWalk.i64_left _).trans hwr2
          have hcast : ((o' ++ [(kx, y)]).length : Int) = (o'.length : Int) + 1 := by rw [hln]; omega
          have fr1 := own_free9 hO (o'.length * 2 + 1)
          by_cases hkx : kx = 1
          · subst hkx
            have hw : It.word (o' ++ [(1, y)]) s = o' ++ [(1, y ++ s)] := by simp [It.word]
            rw [hw] at HE3 HB
            have hyl := HB.out (1, y ++ s) (by simp)
            simp only [List.length_append] at hyl
            have hcc : ¬ 9223372036854775807 < List.length y + s.length := by omega
            have hst2 := World.ownsRow.stored hO (o'.length * 2 + 1) (.string (S (y ++ s)))
            rw [tcs_set_last] at hst2
            have hN3 := hN.kept hst2.2 (rows_ne hN hO (by decide))
            have hO3 := hst2.1
            have bw3 := hbw.setCell (p := ⟨b, o'.length * 2 + 1, none⟩) (hO.lt b rfl).1 (.string (S (y ++ s)))
            have e5 : (o' ++ [(1, y ++ s)]).length = o'.length + 1 := by simp
            clear hst2 hyl hrt hO9
            rw [hln] at *
            go_wp2_with fail
            have hTc := pair_cell1 hT
            have i1 : (o'.length : Int) < (o'.length : Int) + 1 := by omega
            have i2 : (0 : Int) ≤ (o'.length : Int) := by omega
            obtain ⟨W, hW⟩ : ∃ W, W = wr.alloc (.cells #[.int .i64 1, .string (S s)] 71) := ⟨_, rfl⟩
            rw [← hW] at hTc d0 d1 fr1 hO3 hN3 bw3
            clear hbw hO hN hT
            go_wp2_with fail
            rw [← hW]
            clear hW
            go_still_tail 16, (by kernel_rfl)
            have d1 : W.drew.cell? ⟨b, o'.length * 2 + 1, none⟩ = some (.string (S y)) := d1
            have fr1 : W.drew.frozen? ⟨b, o'.length * 2 + 1, none⟩ = false := fr1
            go_wp2_with fail
            go_roundw
            case rel => exact ⟨k + 1, o' ++ [(1, y ++ s)], notes, by omega, by go_num, HE3, (by rw [e5]; exact hO3.drew), hN3.drew, by rw [e5]; omega, by omega, HB, below_drewN bw3 1⟩
            case measure => simp [intOf]; omega
          · have hkb : (kx == 1) = false := by simpa using hkx
            by_cases h0 : s = []
            · subst h0
              have hw : It.word (o' ++ [(kx, y)]) [] = o' ++ [(kx, y)] := by
                simp only [It.word, List.getLast?_append, List.getLast?_singleton, Option.some_or]
                split
                · rename_i e; cases e; exact absurd rfl hkx
                · rfl
              rw [hw] at HE3 HB
              clear hie hrt hO
              go_wp2_with fail
              go_roundw
              case rel => exact ⟨k + 1, _, notes, by omega, by go_num, HE3, hO9, hN, by omega, by omega, HB, hbw⟩
              case measure => simp [intOf]; omega
            · have hie := hie h0
              have hw : It.word (o' ++ [(kx, y)]) s = (o' ++ [(kx, y)]) ++ [(1, s)] := by
                simp only [It.word, List.getLast?_append, List.getLast?_singleton, Option.some_or]
                split
                · rename_i e; cases e; exact absurd rfl hkx
                · rw [if_neg h0]
              rw [hw] at HE3 HB
              clear hrt
              go_wp2_with (first | (at_builtin; refine wp_app tyItR rfl _ _ rfl w.heap.size hO rfl rfl (by simp) rfl tc_one (by omega) (by omega) hbw.size ?_; intro v2 w2 hO2 b2 g2; have hN2 := hN.kept g2 (rows_ne hN hO (by decide)); have bw2 := hbw.trans b2) | fail)
              go_roundw
              case rel =>
                refine ⟨k + 1, _, notes, by omega, by go_num, HE3, ?_, hN2, by simp at hol ⊢; omega, by omega, HB, bw2⟩
                rw [tcs_snoc, List.length_append]; exact hO2
              case measure => simp [intOf]; omega
      · have HE2 := HEN.out
        rw [if_neg (by simp only; omega), if_pos hz] at HE2
        have HE3 := Lib.hid HE2
        clear HE2 HEN
        have hz1 : (z == 1) = false := by simp; omega
        rcases hz with hz | hz
        all_goals (
          subst hz
          go_wp2_with (first | (at_builtin; refine wp_app tyItR rfl _ _ rfl w.heap.size hO rfl rfl (by simp) rfl tc_one (by omega) (by omega) hbw.size ?_; intro v2 w2 hO2 b2 g2; have hN2 := hN.kept g2 (rows_ne hN hO (by decide)); have bw2 := hbw.trans b2) | fail)
          go_roundw
          case rel =>
            refine ⟨k + 1, _, notes, by omega, by go_num, HE3, ?_, hN2, by simp; omega, by omega, Lib.hid (snoc_bound hpos.out (by simp)), bw2⟩
            rw [tcs_snoc, List.length_append]; exact hO2
          case measure => simp [intOf]; omega
        )
      · subst hz
        have HE2 := HEN.out
        rw [if_neg (by simp), if_neg (by simp), if_pos rfl] at HE2
        simp only at HE2
        have HK2 := It.kindOf_le s
        obtain ⟨kd, hkd⟩ : ∃ kd, kd = It.kindOf s := ⟨_, rfl⟩
        rw [← hkd] at HE2 HK2
        have HKD := Lib.hid hkd
        have HE3 := Lib.hid HE2
        clear HE2 HEN hkd
        have hargs : ∀ (W : World) (hlW : Rt W (.slice (some ⟨b1, o1, none⟩) l.length c0) l), _ := fun W hlW => refArgs_in _ l (k + 1) 1 W hlW (by omega) (by omega) (by omega)
        rcases (by omega : kd = 0 ∨ 13 < kd ∨ (4 ≤ kd ∧ kd ≤ 13)) with h0 | h13 | ⟨h4, h13⟩
        · subst h0
          have HE2 := HE3.out
          rw [if_pos rfl] at HE2
          have HE4 := Lib.hid HE2
          clear HE2 HE3 hargs
          go_wp2_with (first | (go_at_call 31; (with_reducible refine (refKind9_any s _).mono ?_); rintro e w3 ⟨rfl, b3⟩; rw [← HKD.out]; have hO3 := own_below hO (own_under hO) b3; have hN3 := own_below hN (own_under hN) b3; have hT3 := (b3.block _ (row_lt hT)).trans hT; have bw3 := hbw.trans (b3.mono hbw.size); have d2 := pair_cell1 hT3; have hl3 := HL.out.below' bw3; clear hO hN hT b3) | (at_builtin; refine wp_app tyNote rfl _ _ rfl w.heap.size hN3 rfl rfl rfl rfl tc_one (by omega) (by omega) bw3.size ?_; intro v4 w4 hN4 b4 g4; have hO4 := hO3.kept g4 (rows_ne hO3 hN3 (by decide)); have bw4 := bw3.trans b4) | fail)
          go_roundw
          case rel =>
            refine ⟨k + 1, out, _, by omega, by go_num, HE4, hO4, ?_, by omega, by simp; omega, hpos, bw4⟩
            rw [tcs_snoc, List.length_append]; exact hN4
          case measure => simp [intOf]; omega
        · have HE2 := HE3.out
          rw [if_neg (by omega), if_pos h13] at HE2
          have HE4 := Lib.hid HE2
          have hk0 : ((kd : Int) == 0) = false := by simp; omega
          have hk13 : (13 : Int) < (kd : Int) := by omega
          clear HE2 HE3 hargs
          go_wp2_with (first | (go_at_call 31; (with_reducible refine (refKind9_any s _).mono ?_); rintro e w3 ⟨rfl, b3⟩; rw [← HKD.out]; have hO3 := own_below hO (own_under hO) b3; have hN3 := own_below hN (own_under hN) b3; have hT3 := (b3.block _ (row_lt hT)).trans hT; have bw3 := hbw.trans (b3.mono hbw.size); have d2 := pair_cell1 hT3; have hl3 := HL.out.below' bw3; clear hO hN hT b3) | (at_builtin; refine wp_app tyItR rfl _ _ rfl w.heap.size hO3 rfl rfl rfl rfl tc_one (by omega) (by omega) bw3.size ?_; intro v4 w4 hO4 b4 g4; have hN4 := hN3.kept g4 (rows_ne hN3 hO3 (by decide)); have bw4 := bw3.trans b4) | fail)
          go_roundw
          case rel =>
            refine ⟨k + 1, _, notes, by omega, by go_num, HE4, ?_, hN4, by simp; omega, by omega, Lib.hid (snoc_bound hpos.out (by simp)), bw4⟩
            rw [tcs_snoc, List.length_append]; exact hO4
          case measure => simp [intOf]; omega
        · have HE2 := HE3.out
          rw [if_neg (by omega), if_neg (by omega)] at HE2
          have hk0 : ((kd : Int) == 0) = false := by simp; omega
          have hk13 : decide ((13 : Int) < (kd : Int)) = false := by simp; omega
          rcases args_one (l.drop (k + 1)) with hA | ⟨x, c, h1, hc2, hcl, hxl, hxm⟩
          · rw [hA] at HE2
            have HE4 := Lib.hid HE2
            clear HE2 HE3
            simp only [hA, ares, Int.cast_ofNat_Int, show ((k + 1 : Nat) : Int) = (k : Int) + 1 by omega] at hargs
            go_wp2_with (first | (go_at_call 31; (with_reducible refine (refKind9_any s _).mono ?_); rintro e w3 ⟨rfl, b3⟩; rw [← HKD.out]; have hO3 := own_below hO (own_under hO) b3; have hN3 := own_below hN (own_under hN) b3; have hT3 := (b3.block _ (row_lt hT)).trans hT; have bw3 := hbw.trans (b3.mono hbw.size); have d2 := pair_cell1 hT3; have hl3 := HL.out.below' bw3; clear hO hN hT b3) | (go_at_call 32; (with_reducible refine (hargs _ hl3).mono ?_); rintro e w5 ⟨v5, rfl, hx5, b5⟩; have hO5 := own_below hO3 (own_under hO3) b5; have hN5 := own_below hN3 (own_under hN3) b5; have hT5 := (b5.block _ (row_lt hT3)).trans hT3; have bw5 := bw3.trans (b5.mono bw3.size); have d3 := pair_cell1 hT5) | (at_builtin; refine wp_app tyNote rfl _ _ rfl w.heap.size hN5 rfl rfl rfl rfl tc_one (by omega) (by omega) bw5.size ?_; intro v6 w6 hN6 b6 g6; have hO6 := hO5.kept g6 (rows_ne hO5 hN5 (by decide)); have bw6 := bw5.trans b6) | fail)
            go_roundw
            case rel =>
              refine ⟨k + 1, out, _, by omega, by go_num, HE4, hO6, ?_, by omega, by simp; omega, hpos, bw6⟩
              rw [tcs_snoc, List.length_append]; exact hN6
            case measure => simp [intOf]; omega
          · rw [h1] at HE2
            rw [List.length_drop] at hcl
            simp only [h1, ares, Int.cast_ofNat_Int, show ((k + 1 : Nat) : Int) = (k : Int) + 1 by omega] at hargs
            obtain ⟨f, hf⟩ : ∃ f, f = Mx.flatOf x := ⟨_, rfl⟩
            have HF := Lib.hid hf
            have hfl : f.length ≤ 1000 * 100001 := by
              rw [hf]
              have h7 := Mx.flat_le (fun t ht => HS.out t (List.mem_of_mem_drop (hxm t ht)) : ∀ t ∈ x, t.2.length ≤ 100000)
              rw [List.length_drop] at hxl
              exact Nat.le_trans h7 (Nat.mul_le_mul (by omega) (Nat.le_refl _))
            clear hf HE3
            simp only [List.headD_cons, ← HF.out, List.drop_drop] at HE2
            have HE8 := Lib.hid HE2
            clear HE2
            have hpos2 := Lib.hid (bound_mono HO.out (show k * 100000 ≤ (k + 1 + c) * 100000 by omega))
            cases hno : It.noKey f
            · have HE7 := HE8.out
              rw [hno, if_neg (by simp)] at HE7
              have HE9 := Lib.hid HE7
              clear HE7 HE8
              have hf60 : (f.length : Int) ≤ 60 := by
                simp only [It.noKey, Bool.or_eq_false_iff, decide_eq_false_iff_not] at hno
                omega
              have hfb : (f == []) = false := by
                simp only [It.noKey, Bool.or_eq_false_iff] at hno
                exact hno.1
              have hfe : f.isEmpty = false := by
                cases f with | nil => simp at hfb | cons _ _ => rfl
              have hfd : decide (60 < (f.length : Int)) = false := by simp; omega
              go_wp2_with (first | (go_at_call 31; (with_reducible refine (refKind9_any s _).mono ?_); rintro e w3 ⟨rfl, b3⟩; rw [← HKD.out]; have hO3 := own_below hO (own_under hO) b3; have hN3 := own_below hN (own_under hN) b3; have hT3 := (b3.block _ (row_lt hT)).trans hT; have bw3 := hbw.trans (b3.mono hbw.size); have d2 := pair_cell1 hT3; have hl3 := HL.out.below' bw3; clear hO hN hT b3) | (go_at_call 32; (with_reducible refine (hargs _ hl3).mono ?_); rintro e w5 ⟨v5, rfl, hx5, b5⟩; obtain ⟨q3, p3, rfl⟩ := hx5.shape; obtain ⟨b7, o7, u7, eq7, d7, hu7, _⟩ := Rts.at hx5 (i := 0) (by simp); cases eq7; simp only [Nat.add_zero] at d7; have hu8 : Rt w5 u7 x := hu7; have hO5 := own_below hO3 (own_under hO3) b5; have hN5 := own_below hN3 (own_under hN3) b5; have hT5 := (b5.block _ (row_lt hT3)).trans hT3; have bw5 := bw3.trans (b5.mono bw3.size); have d3 := pair_cell1 hT5) | (go_at_call 33; (with_reducible refine (refFlat_any _ _ _ hu8 (by rw [List.length_drop] at hxl; omega) (fun t ht => HS.out t (List.mem_of_mem_drop (hxm t ht)))).mono ?_); rintro e w8 ⟨rfl, rfl⟩; rw [← HF.out]) | (at_builtin; refine wp_app tyItR rfl _ _ rfl w.heap.size hO5 rfl rfl rfl rfl tc_one (by omega) (by omega) bw5.size ?_; intro v6 w6 hO6 b6 g6; have hN6 := hN5.kept g6 (rows_ne hN5 hO5 (by decide)); have bw6 := bw5.trans b6) | fail)
              go_roundw
              case rel =>
                have hf61 : f.length ≤ 60 := Int.ofNat_le.1 hf60
                have hfk : f.length ≤ (k + 1 + c) * 100000 := le60 hf61 (Nat.lt_of_lt_of_le (Nat.succ_pos k) (Nat.le_add_right _ _))
                have h6 := snoc_bound (z := (kd : Int)) hpos2.out hfk
                refine ⟨k + 1 + c, _, notes, by omega, by go_num, HE9, ?_, hN6, by simp; omega, by omega, Lib.hid h6, bw6⟩
                rw [tcs_snoc, List.length_append]; exact hO6
              case measure => simp [intOf]; omega
            · have HE7 := HE8.out
              rw [hno, if_pos rfl] at HE7
              have HE9 := Lib.hid HE7
              clear HE7 HE8
              by_cases hf0 : f = []
              · subst hf0
                go_wp2_with (first | (go_at_call 31; (with_reducible refine (refKind9_any s _).mono ?_); rintro e w3 ⟨rfl, b3⟩; rw [← HKD.out]; have hO3 := own_below hO (own_under hO) b3; have hN3 := own_below hN (own_under hN) b3; have hT3 := (b3.block _ (row_lt hT)).trans hT; have bw3 := hbw.trans (b3.mono hbw.size); have d2 := pair_cell1 hT3; have hl3 := HL.out.below' bw3; clear hO hN hT b3) | (go_at_call 32; (with_reducible refine (hargs _ hl3).mono ?_); rintro e w5 ⟨v5, rfl, hx5, b5⟩; obtain ⟨q3, p3, rfl⟩ := hx5.shape; obtain ⟨b7, o7, u7, eq7, d7, hu7, _⟩ := Rts.at hx5 (i := 0) (by simp); cases eq7; simp only [Nat.add_zero] at d7; have hu8 : Rt w5 u7 x := hu7; have hO5 := own_below hO3 (own_under hO3) b5; have hN5 := own_below hN3 (own_under hN3) b5; have hT5 := (b5.block _ (row_lt hT3)).trans hT3; have bw5 := bw3.trans (b5.mono bw3.size); have d3 := pair_cell1 hT5) | (go_at_call 33; (with_reducible refine (refFlat_any _ _ _ hu8 (by rw [List.length_drop] at hxl; omega) (fun t ht => HS.out t (List.mem_of_mem_drop (hxm t ht)))).mono ?_); rintro e w8 ⟨rfl, rfl⟩; rw [← HF.out]) | (at_builtin; refine wp_app tyNote rfl _ _ rfl w.heap.size hN5 rfl rfl rfl rfl tc_one (by omega) (by omega) bw5.size ?_; intro v6 w6 hN6 b6 g6; have hO6 := hO5.kept g6 (rows_ne hO5 hN5 (by decide)); have bw6 := bw5.trans b6) | fail)
                go_roundw
                case rel =>
                  refine ⟨k + 1 + c, out, _, by omega, by go_num, HE9, hO6, ?_, by omega, by simp; omega, hpos2, bw6⟩
                  rw [tcs_snoc, List.length_append]; exact hN6
                case measure => simp [intOf]; omega
              · have hf60 : 60 < (f.length : Int) := by
                  simp only [It.noKey, Bool.or_eq_true, decide_eq_true_eq, beq_iff_eq] at hno
                  rcases hno with h | h
                  · exact absurd h hf0
                  · omega
                have hfe : f.isEmpty = false := by
                  cases f with | nil => exact absurd rfl hf0 | cons _ _ => rfl
                have hfb : (f == []) = false := by simpa using hf0
                go_wp2_with (first | (go_at_call 31; (with_reducible refine (refKind9_any s _).mono ?_); rintro e w3 ⟨rfl, b3⟩; rw [← HKD.out]; have hO3 := own_below hO (own_under hO) b3; have hN3 := own_below hN (own_under hN) b3; have hT3 := (b3.block _ (row_lt hT)).trans hT; have bw3 := hbw.trans (b3.mono hbw.size); have d2 := pair_cell1 hT3; have hl3 := HL.out.below' bw3; clear hO hN hT b3) | (go_at_call 32; (with_reducible refine (hargs _ hl3).mono ?_); rintro e w5 ⟨v5, rfl, hx5, b5⟩; obtain ⟨q3, p3, rfl⟩ := hx5.shape; obtain ⟨b7, o7, u7, eq7, d7, hu7, _⟩ := Rts.at hx5 (i := 0) (by simp); cases eq7; simp only [Nat.add_zero] at d7; have hu8 : Rt w5 u7 x := hu7; have hO5 := own_below hO3 (own_under hO3) b5; have hN5 := own_below hN3 (own_under hN3) b5; have hT5 := (b5.block _ (row_lt hT3)).trans hT3; have bw5 := bw3.trans (b5.mono bw3.size); have d3 := pair_cell1 hT5) | (go_at_call 33; (with_reducible refine (refFlat_any _ _ _ hu8 (by rw [List.length_drop] at hxl; omega) (fun t ht => HS.out t (List.mem_of_mem_drop (hxm t ht)))).mono ?_); rintro e w8 ⟨rfl, rfl⟩; rw [← HF.out]) | (at_builtin; refine wp_app tyNote rfl _ _ rfl w.heap.size hN5 rfl rfl rfl rfl tc_one (by omega) (by omega) bw5.size ?_; intro v6 w6 hN6 b6 g6; have hO6 := hO5.kept g6 (rows_ne hO5 hN5 (by decide)); have bw6 := bw5.trans b6) | fail)
                go_roundw
                case rel =>
                  refine ⟨k + 1 + c, out, _, by omega, by go_num, HE9, hO6, ?_, by omega, by simp; omega, hpos2, bw6⟩
                  rw [tcs_snoc, List.length_append]; exact hN6
                case measure => simp [intOf]; omega
    · obtain rfl : k = l.length := by omega
      have he := HE.out
      rw [List.drop_length] at he
      have he2 : It.parse l.length [] out notes = (out, notes) := by cases l.length <;> rfl
      rw [he2] at he
      have HF := Lib.hid he
      clear he
      go_wp2_with fail
      go_ret2
      exact ⟨_, _, rfl, by rw [HF.out]; exact hO, by rw [HF.out]; exact hN, hbw⟩

end Go.Proofs.Ytcdclkgfgieppaa
