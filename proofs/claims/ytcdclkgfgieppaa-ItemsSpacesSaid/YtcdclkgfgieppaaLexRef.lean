
/- The reference's 'word' and 'Lex', walked. -/
import Derived.Test.YtcdclkgfgieppaaLexWalks
import Derived.Test.YtcdclkgfgieppaaLexMem
import Derived.Deep.DeepCutAuto
import Derived.Deep.CutBlock
namespace Go.Proofs.Ytcdclkgfgieppaa
open Go.RowKit

set_option maxHeartbeats 400000 in
/-- The reference's 'word'. -/
theorem refWord_any (l : List UInt8) (k : Nat) (hk : k < l.length) (hl : l.length ≤ 1000000000000) (w : World) :
    Calls Try.prog 41 #[.string (S l), .int .i64 (k : Int)] w fun e w' =>
      ∃ e1 : Nat, e = .returned (.tuple #[.agg #[.int .i64 1, .string (S (Lx.word (l.drop k)).1)], .int .i64 e1]) ∧ e1 ≤ l.length ∧ l.drop e1 = (Lx.word (l.drop k)).2 ∧ Below w.heap.size w w' := by
  go_enter Try.func41, Try.ntmps41
  go_wp2_with fail
  go_loop [1, 6] (fun i v => ∃ (j : Nat) (acc : List UInt8), k ≤ j ∧ j ≤ l.length ∧ acc.length ≤ j ∧ i = .int .i64 j ∧ v = .string (S acc) ∧ Hid (acc ++ (Lx.word (l.drop j)).1 = (Lx.word (l.drop k)).1 ∧ (Lx.word (l.drop j)).2 = (Lx.word (l.drop k)).2)) (fun i _ => l.length - (intOf i).toNat)
  case atStart => exact ⟨k, [], by omega, by omega, by simp, rfl, rfl, by simp [Hid]⟩
  case round =>
    obtain ⟨j, acc, hkj, hj, hacc, rfl, rfl, HG⟩ := hrel
    by_cases hlt : j < l.length
    · have HC : Hid (l.drop j = l[j] :: l.drop (j + 1)) := drop_at hlt
      by_cases hk1 : Lx.kind (l.drop j) = 1
      · by_cases hesc : l[j] = 92 ∧ j + 1 < l.length
        · obtain ⟨h92, hj1⟩ := hesc
          have hrel : Hid ((acc ++ [l[j + 1]]) ++ (Lx.word (l.drop (j + 1 + 1))).1 = (Lx.word (l.drop k)).1 ∧ (Lx.word (l.drop (j + 1 + 1))).2 = (Lx.word (l.drop k)).2) := by
            have h := HG.out
            have hk1' := hk1
            rw [HC.out, drop_at hj1, h92] at h hk1'
            rw [Lx.word_esc hk1'] at h
            exact ⟨by rw [← h.1]; simp, h.2⟩
          go_wp2_with (first | (go_at_call 40; (with_reducible refine (refKind_any _ _ (by omega) hl _).mono ?_); rintro e w' ⟨rfl, rfl⟩) | fail)
          go_round
          case rel => exact ⟨j + 1 + 1, acc ++ [l[j + 1]], by omega, by omega, by simp; omega, by go_num, by simp [go_sem], hrel⟩
          case measure => simp [intOf]; omega
        · have hrel : Hid ((acc ++ [l[j]]) ++ (Lx.word (l.drop (j + 1))).1 = (Lx.word (l.drop k)).1 ∧ (Lx.word (l.drop (j + 1))).2 = (Lx.word (l.drop k)).2) := by
            have h := HG.out
            have hk1' := hk1
            rw [HC.out] at h hk1'
            rw [Lx.word_one hk1' (by
              by_cases h92 : l[j] = 92
              · exact .inr (List.drop_eq_nil_of_le (by have h := hesc; simp only [h92, true_and] at h; omega))
              · exact .inl h92)] at h
            exact ⟨by rw [← h.1]; simp, h.2⟩
          have HE := Lib.hid hesc
          clear hesc
          by_cases h92 : l[j] = 92
          · have hj1 : ¬ (j : Int) + 1 < (l.length : Int) := fun h => HE.out ⟨h92, by omega⟩
            go_wp2_with (first | (go_at_call 40; (with_reducible refine (refKind_any _ _ (by omega) hl _).mono ?_); rintro e w' ⟨rfl, rfl⟩) | fail)
            go_round
            case rel => exact ⟨j + 1, acc ++ [l[j]], by omega, by omega, by simp; omega, by go_num, by simp [go_sem, h92], hrel⟩
            case measure => simp [intOf]; omega
          · have h92' : (l[j] == 92) = false := by simpa using h92
            clear h92
            go_wp2_with (first | (go_at_call 40; (with_reducible refine (refKind_any _ _ (by omega) hl _).mono ?_); rintro e w' ⟨rfl, rfl⟩) | fail)
            go_round
            case rel => exact ⟨j + 1, acc ++ [l[j]], by omega, by omega, by simp; omega, by go_num, by simp [go_sem], hrel⟩
            case measure => simp [intOf]; omega
      · have hk1' : (Lx.kind (l.drop j) == 1) = false := by simpa using hk1
        have hx : Lx.word (l.drop j) = ([], l.drop j) := by
          rw [HC.out] at hk1 ⊢; exact Lx.word_stop hk1
        have HX : Hid (acc = (Lx.word (l.drop k)).1 ∧ l.drop j = (Lx.word (l.drop k)).2) := by
          have h := HG.out; rw [hx] at h; exact ⟨by simpa using h.1, h.2⟩
        clear hk1 hx
        go_wp2_with (first | (go_at_call 40; (with_reducible refine (refKind_any _ _ (by omega) hl _).mono ?_); rintro e w' ⟨rfl, rfl⟩) | fail)
        refine bodyPost_ret (v := .tuple #[.agg #[.int .i64 1, .string (S acc)], .int .i64 j]) (by simp [results, Try.results41, go_sem]) rfl ⟨j, by rw [HX.out.1], hj, HX.out.2, ?_⟩
        exact (Below.refl _ _).alloc (Nat.le_refl _) _
    · obtain rfl : j = l.length := by omega
      have HX : Hid (acc = (Lx.word (l.drop k)).1 ∧ [] = (Lx.word (l.drop k)).2) := by
        have h := HG.out; rw [List.drop_length] at h; exact ⟨by simpa [Lx.word] using h.1, h.2⟩
      go_wp2_with fail
      refine bodyPost_ret (v := .tuple #[.agg #[.int .i64 1, .string (S acc)], .int .i64 l.length]) (by simp [results, Try.results41, go_sem]) rfl ⟨l.length, by rw [HX.out.1], hj, by rw [← HX.out.2, List.drop_length], ?_⟩
      exact (Below.refl _ _).alloc (Nat.le_refl _) _

/-- A round's world: the token in a block of its own. -/
def TokAt (W : World) (g : Nat) (t : Lx.Tok) : Prop := W.heap[g]? = some (.cells #[.int .i64 t.1, .string (S t.2)] 71 (0, 0))

set_option maxHeartbeats 800000 in
/-- The reference's 'Lex'. -/
theorem refLex_any (l : List UInt8) (hl : l.length ≤ 1000000000) (w : World) :
    Calls Try.prog 23 #[.string (S l)] w fun e w' =>
      ∃ v', e = .returned v' ∧ w'.ownsRow w.heap.size 71 2 v' (Lx.lex l).length (tcs (Lx.lex l)) ∧ Below w.heap.size w w' := by
  go_enter Try.func23, Try.ntmps23
  go_wp2_with fail
  go_loopw [3, 4] (fun v i wr => ∃ (j : Nat) (acc : List Lx.Tok), j ≤ l.length ∧ acc.length ≤ j ∧ i = .int .i64 j ∧ wr.ownsRow w.heap.size 71 2 v acc.length (tcs acc) ∧ Hid (acc ++ Lx.lex (l.drop j) = Lx.lex l) ∧ Below w.heap.size w wr) (fun _ i _ => l.length - (intOf i).toNat)
  case atStart => exact ⟨0, [], by omega, by simp, rfl, World.ownsRow_made w #[] 0 (Nat.le_refl _) (by decide) rfl, rfl, (Below.refl _ _).alloc (Nat.le_refl _) _⟩
  case round =>
    obtain ⟨j, acc, hj, hacc, rfl, hown, HG, hbw⟩ := hrel
    have hsz := hbw.size
    by_cases hlt : j < l.length
    · have hlen1 : (Lx.one (l.drop j)).2.length ≤ (l.drop (j + 1)).length := by have := Lx.one_lt l[j] (l.drop (j + 1)); rwa [← drop_at hlt] at this
      have hlex : Lx.lex (l.drop j) = (Lx.one (l.drop j)).1 :: Lx.lex (Lx.one (l.drop j)).2 := Lx.lex_ne (by rw [drop_at hlt]; exact List.cons_ne_nil _ _)
      have HLEN := Lib.hid hlen1
      have HLEX := Lib.hid hlex
      clear hlen1 hlex
      go_upto_block 2 with (first | (go_at_call 40; (with_reducible refine (refKind_any _ _ (by omega) (by omega) _).mono ?_); rintro e w' ⟨rfl, rfl⟩) | fail)
      go_cut [7] (fun u W => ∃ e1 : Nat, u = .int .i64 e1 ∧ e1 ≤ l.length ∧ Hid (l.drop e1 = (Lx.one (l.drop j)).2) ∧ TokAt W wr.heap.size (Lx.one (l.drop j)).1 ∧ Below wr.heap.size wr W)
      case first =>
        have hkc : Lx.kind (l.drop j) = 2 ∨ Lx.kind (l.drop j) = 4 ∨ Lx.kind (l.drop j) = 5 ∨ Lx.kind (l.drop j) = 6 ∨ Lx.kind (l.drop j) = 7 ∨ Lx.kind (l.drop j) = 1 := by rw [drop_at hlt]; exact Lx.kind_cases _ _
        have HC : Hid (l.drop j = l[j] :: l.drop (j + 1)) := drop_at hlt
        have hg : ∀ (W : World), Below (wr.alloc (.cells #[.int .i64 (Lx.kind (l.drop j)), .string (S [])] 71)).heap.size (wr.alloc (.cells #[.int .i64 (Lx.kind (l.drop j)), .string (S [])] 71)) W → Hid (W.heap[wr.heap.size]? = some (.cells #[.int .i64 (Lx.kind (l.drop j)), .string (S [])] 71 (0, 0)) ∧ Below wr.heap.size wr W) := fun W h =>
          ⟨(h.block _ (by simp)).trans (heap_alloc_new _ _), ((Below.refl _ _).alloc (Nat.le_refl _) _).trans (h.mono (by simp))⟩
        have HGW := Lib.hid hg
        clear hg
        rcases hkc with hk | hk | hk | hk | hk | hk
        · have t1 : (Lx.kind (l.drop j) == 1) = false := by rw [hk]; rfl
          have t2 : (Lx.kind (l.drop j) == 2) = true := by rw [hk]; rfl
          have HO := Lib.hid (Lx.one_k2 hk)
          clear hk
          go_wp2_with (first | (go_at_call 42; (with_reducible refine (refGap_any _ _ hlt (by omega) _).mono ?_); rintro e w1 ⟨e1, rfl, he1, hd1, hb1⟩; have HW := HGW.out _ hb1; have q0 := pair_cell0 HW.out.1; have q1 := pair_cell1 HW.out.1; have f0 := pair_free HW.out.1 0; have f1 := pair_free HW.out.1 1; have HD1 := Lib.hid hd1; clear hd1 hb1) | fail)
          go_meet
          exact ⟨e1, rfl, he1, by show _ = _; rw [HO.out]; exact HD1.out, by show _ = _; rw [HO.out]; exact pair_set HW.out.1 _ _, below_setCell2 HW.out.2 (Nat.le_refl _) _ _ _ _⟩
        · have t1 : (Lx.kind (l.drop j) == 1) = false := by rw [hk]; rfl
          have t2 : (Lx.kind (l.drop j) == 2) = false := by rw [hk]; rfl
          have t4 : (Lx.kind (l.drop j) == 4) = true := by rw [hk]; rfl
          have HKK := Lib.hid hk
          have HO : Hid (Lx.one (l.drop j) = ((4, (l.drop (j + 1)).takeWhile Lx.letter), (l.drop (j + 1)).dropWhile Lx.letter)) := by
            show _ = _
            rw [HC.out] at hk ⊢; exact Lx.one_k4 hk
          clear hk
          go_wp2_with fail
          go_loop [7] (fun i => ∃ m : Nat, j + 1 ≤ m ∧ m ≤ l.length ∧ i = .int .i64 m ∧ Hid ((l.drop (j + 1)).takeWhile Lx.letter = (l.take m).drop (j + 1) ++ (l.drop m).takeWhile Lx.letter ∧ (l.drop (j + 1)).dropWhile Lx.letter = (l.drop m).dropWhile Lx.letter)) (fun i => l.length - (intOf i).toNat)
          case atStart => exact ⟨j + 1, by omega, by omega, by go_num, ⟨by rw [take_drop_self]; rfl, rfl⟩⟩
          case round =>
            obtain ⟨m, hjm, hm, rfl, HM⟩ := hrel
            by_cases hml : m < l.length
            · have hmi : (m : Int) < (l.length : Int) := by omega
              by_cases hlet : Lx.letter l[m] = true
              · go_wp2_with (first | (go_at_call 43; (with_reducible refine (refLetter_any _ _).mono ?_); rintro e w' ⟨rfl, rfl⟩) | fail)
                go_round
                case rel =>
                  refine ⟨m + 1, by omega, by omega, by go_num, ?_⟩
                  have h := HM.out
                  rw [drop_at hml, List.takeWhile_cons_of_pos hlet, List.dropWhile_cons_of_pos hlet] at h
                  exact ⟨by rw [h.1, take_drop_snoc hml hjm]; simp, h.2⟩
                case measure => simp [intOf]; omega
              · have hlet' : Lx.letter l[m] = false := by simpa using hlet
                have HX : Hid ((l.drop (j + 1)).takeWhile Lx.letter = (l.take m).drop (j + 1) ∧ (l.drop (j + 1)).dropWhile Lx.letter = l.drop m) := by
                  have h := HM.out
                  rw [drop_at hml, List.takeWhile_cons_of_neg hlet, List.dropWhile_cons_of_neg hlet] at h
                  exact ⟨by rw [h.1]; simp, by rw [h.2, drop_at hml]⟩
                clear hlet
                go_wp2_with (first | (go_at_call 43; (with_reducible refine (refLetter_any _ _).mono ?_); rintro e w' ⟨rfl, rfl⟩) | fail)
                go_meet
                exact ⟨m, rfl, hm, by show _ = _; rw [HO.out]; exact HX.out.2.symm, by show _ = _; rw [HO.out, heap_alloc_new, HKK.out, HX.out.1], (Below.refl _ _).alloc (Nat.le_refl _) _⟩
            · obtain rfl : m = l.length := by omega
              have HX : Hid ((l.drop (j + 1)).takeWhile Lx.letter = (l.take l.length).drop (j + 1) ∧ (l.drop (j + 1)).dropWhile Lx.letter = []) := by
                have h := HM.out
                rw [List.drop_length] at h
                exact ⟨by rw [h.1]; simp, h.2⟩
              go_wp2_with fail
              go_meet
              exact ⟨l.length, rfl, hm, by show _ = _; rw [HO.out, HX.out.2, List.drop_length], by show _ = _; rw [HO.out, heap_alloc_new, HKK.out, HX.out.1]; simp, (Below.refl _ _).alloc (Nat.le_refl _) _⟩
        · have t1 : (Lx.kind (l.drop j) == 1) = false := by rw [hk]; rfl
          have t2 : (Lx.kind (l.drop j) == 2) = false := by rw [hk]; rfl
          have t4 : (Lx.kind (l.drop j) == 4) = false := by rw [hk]; rfl
          have t7 : (Lx.kind (l.drop j) == 7) = false := by rw [hk]; rfl
          have HKK := Lib.hid hk
          have HO : Hid (Lx.one (l.drop j) = ((5, []), l.drop (j + 1))) := by
            show _ = _
            rw [HC.out] at hk ⊢; exact Lx.one_k5 hk
          clear hk
          go_wp2_with fail
          go_meet
          exact ⟨j + 1, by go_num, by omega, by show _ = _; rw [HO.out], by show _ = _; rw [HO.out, heap_alloc_new, HKK.out], (Below.refl _ _).alloc (Nat.le_refl _) _⟩
        · have t1 : (Lx.kind (l.drop j) == 1) = false := by rw [hk]; rfl
          have t2 : (Lx.kind (l.drop j) == 2) = false := by rw [hk]; rfl
          have t4 : (Lx.kind (l.drop j) == 4) = false := by rw [hk]; rfl
          have t7 : (Lx.kind (l.drop j) == 7) = false := by rw [hk]; rfl
          have HKK := Lib.hid hk
          have HO : Hid (Lx.one (l.drop j) = ((6, []), l.drop (j + 1))) := by
            show _ = _
            rw [HC.out] at hk ⊢; exact Lx.one_k6 hk
          clear hk
          go_wp2_with fail
          go_meet
          exact ⟨j + 1, by go_num, by omega, by show _ = _; rw [HO.out], by show _ = _; rw [HO.out, heap_alloc_new, HKK.out], (Below.refl _ _).alloc (Nat.le_refl _) _⟩
        · have t1 : (Lx.kind (l.drop j) == 1) = false := by rw [hk]; rfl
          have t2 : (Lx.kind (l.drop j) == 2) = false := by rw [hk]; rfl
          have t4 : (Lx.kind (l.drop j) == 4) = false := by rw [hk]; rfl
          have t7 : (Lx.kind (l.drop j) == 7) = true := by rw [hk]; rfl
          have HKK := Lib.hid hk
          have hj2 : j + 1 < l.length := by
            have h7 := hk
            rw [HC.out] at h7
            have := (Lx.kind_seven h7).2.1
            rcases Nat.lt_or_ge (j + 1) l.length with h | h
            · exact h
            · exact absurd (List.drop_eq_nil_of_le h) this
          have HO : Hid (Lx.one (l.drop j) = ((7, [l[j + 1]]), l.drop (j + 1 + 1))) := by
            show _ = _
            rw [HC.out] at hk ⊢; rw [Lx.one_k7 hk, drop_at hj2]; first | done | rfl
          clear hk
          go_wp2_with fail
          go_meet
          exact ⟨j + 1 + 1, by go_num, by omega, by show _ = _; rw [HO.out], by show _ = _; rw [HO.out, heap_alloc_new, HKK.out], (Below.refl _ _).alloc (Nat.le_refl _) _⟩
        · have t1 : (Lx.kind (l.drop j) == 1) = true := by rw [hk]; rfl
          have HO := Lib.hid (Lx.one_k1 hk)
          clear hk
          go_wp2_with (first | (go_at_call 41; (with_reducible refine (refWord_any _ _ hlt (by omega) _).mono ?_); rintro e w1 ⟨e1, rfl, he1, hd1, hb1⟩; have HW := HGW.out _ hb1; have q0 := pair_cell0 HW.out.1; have q1 := pair_cell1 HW.out.1; have f0 := pair_free HW.out.1 0; have f1 := pair_free HW.out.1 1; have HD1 := Lib.hid hd1; clear hd1 hb1) | fail)
          go_meet
          exact ⟨e1, rfl, he1, by show _ = _; rw [HO.out]; exact HD1.out, by show _ = _; rw [HO.out]; exact pair_set HW.out.1 _ _, below_setCell2 HW.out.2 (Nat.le_refl _) _ _ _ _⟩
      case rest =>
        obtain ⟨e1, rfl, he1, HD, HT, hb1⟩ := hcut
        have q0 : wc.cell? ⟨wr.heap.size, 0, none⟩ = some (.int .i64 (Lx.one (l.drop j)).1.1) := by simp [World.cell?, show wc.heap[wr.heap.size]? = _ from HT]
        have q1 : wc.cell? ⟨wr.heap.size, 1, none⟩ = some (.string (S (Lx.one (l.drop j)).1.2)) := by simp [World.cell?, show wc.heap[wr.heap.size]? = _ from HT]
        have hown1 := own_below hown (own_under hown) hb1
        have hsz1 := hb1.size
        have hj1 : j < e1 := by
          have h1 := HLEN.out; rw [← HD.out] at h1; simp at h1; omega
        go_wp2_with (at_builtin; refine wp_app tyRef rfl _ _ rfl w.heap.size hown1 rfl rfl (by simp) rfl tc_one (by omega) (by omega) (by omega) ?_; intro v2 w2 hown2 hb2 _)
        go_roundw
        case rel => exact ⟨e1, acc ++ [(Lx.one (l.drop j)).1], he1, by simp; omega, rfl, by rw [tcs_snoc, List.length_append]; exact hown2, by show _ = _; rw [← HG.out, HLEX.out, HD.out]; simp, (hbw.trans (hb1.mono hsz)).trans hb2⟩
        case measure => simp [intOf]; omega
    · obtain rfl : j = l.length := by omega
      have hx : acc = Lx.lex l := by rw [← HG.out, List.drop_length, Lx.lex_nil, List.append_nil]
      subst hx
      go_wp2_with fail
      go_ret
      exact ⟨_, rfl, hown, hbw⟩

end Go.Proofs.Ytcdclkgfgieppaa
