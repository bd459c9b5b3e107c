
/- The lexer's 'one' and 'Lex', walked. -/
import Derived.Test.YtkpdhpbnbpjceaaLexProg
namespace Go.Proofs.Ytkpdhpbnbpjceaa
open Go.RowKit

/-- What the tests of 'one' find, by what begins here. -/
theorem kind_tests {l : List UInt8} {j : Nat} (h : j < l.length) :
    (Lx.kind (l.drop j) = 2 ∧ (Lx.blank l[j] = true ∨ (Lx.blank l[j] = false ∧ (l[j] == 37) = true))) ∨
    (Lx.kind (l.drop j) = 5 ∧ Lx.blank l[j] = false ∧ (l[j] == 37) = false ∧ (l[j] == 123) = true) ∨
    (Lx.kind (l.drop j) = 6 ∧ Lx.blank l[j] = false ∧ (l[j] == 37) = false ∧ (l[j] == 123) = false ∧ (l[j] == 125) = true) ∨
    (Lx.kind (l.drop j) = 7 ∧ Lx.blank l[j] = false ∧ (l[j] == 37) = false ∧ (l[j] == 123) = false ∧ (l[j] == 125) = false ∧ Lx.param (l.drop j) = true) ∨
    (Lx.kind (l.drop j) = 4 ∧ Lx.blank l[j] = false ∧ (l[j] == 37) = false ∧ (l[j] == 123) = false ∧ (l[j] == 125) = false ∧ Lx.param (l.drop j) = false ∧ Lx.command (l.drop j) = true) ∨
    (Lx.kind (l.drop j) = 1 ∧ Lx.blank l[j] = false ∧ (l[j] == 37) = false ∧ (l[j] == 123) = false ∧ (l[j] == 125) = false ∧ Lx.param (l.drop j) = false ∧ Lx.command (l.drop j) = false) := by
  rw [drop_at h]
  rcases Lx.kind_cases l[j] (l.drop (j + 1)) with hk | hk | hk | hk | hk | hk
  · have := Lx.kind_two.1 hk
    refine .inl ⟨hk, ?_⟩
    cases hb : Lx.blank l[j]
    · right; simpa [hb] using this
    · left; rfl
  · have h4 := Lx.kind_four hk
    refine .inr (.inr (.inr (.inr (.inl ⟨hk, ?_⟩))))
    rw [h4.1]
    simp only [Lx.param, Lx.command, h4.2.2]
    exact ⟨rfl, rfl, rfl, rfl, rfl, rfl⟩
  · refine .inr (.inl ⟨hk, ?_⟩)
    have hk' := hk
    rw [Lx.kind_cons] at hk
    (repeat' split at hk) <;> simp_all
  · refine .inr (.inr (.inl ⟨hk, ?_⟩))
    rw [Lx.kind_cons] at hk
    (repeat' split at hk) <;> simp_all
  · have h7 := Lx.kind_seven hk
    refine .inr (.inr (.inr (.inl ⟨hk, ?_⟩)))
    rw [h7.1]
    simp only [Lx.param, h7.2.2]
    exact ⟨rfl, rfl, rfl, rfl, rfl⟩
  · refine .inr (.inr (.inr (.inr (.inr ⟨hk, ?_⟩))))
    have h1 : Lx.kind (l.drop j) = 1 := by rw [drop_at h]; exact hk
    have := (kind_word h).1 h1
    rw [drop_at h] at this
    simpa [and_assoc] using this


set_option maxHeartbeats 800000 in
/-- 'one': the token at a place, and the place behind it. -/
theorem lexOne_any (l : List UInt8) (k : Nat) (hlt : k < l.length) (hl : l.length ≤ 1000000000) (w : World) :
    Calls Try.prog 49 #[.string (S l), .int .i64 (k : Int)] w fun e w' =>
      ∃ e1 : Nat, e = .returned (.tuple #[.agg #[.int .i64 (Lx.one (l.drop k)).1.1, .string (S (Lx.one (l.drop k)).1.2)], .int .i64 e1]) ∧ e1 ≤ l.length ∧ l.drop e1 = (Lx.one (l.drop k)).2 ∧ Below w.heap.size w w' := by
  have hki : (k : Int) < (l.length : Int) := by omega
  have HC : Hid (l.drop k = l[k] :: l.drop (k + 1)) := drop_at hlt
  rcases kind_tests hlt with ⟨hk, ht⟩ | ⟨hk, t1, t2, t3⟩ | ⟨hk, t1, t2, t3, t4⟩ | ⟨hk, t1, t2, t3, t4, t5⟩ | ⟨hk, t1, t2, t3, t4, t5, t6⟩ | ⟨hk, t1, t2, t3, t4, t5, t6⟩
  · have HO := Lib.hid (Lx.one_k2 hk)
    clear hk
    by_cases hm : 2 ≤ (Lx.gap false 0 (l.drop k)).1
    all_goals (
      rcases ht with t1 | ⟨t1, t2⟩
      all_goals (
        go_enter Try.func49, Try.ntmps49
        go_wp2_with (first | (go_at_call 60; (with_reducible refine (blank_any _ _).mono ?_); rintro e w' ⟨rfl, rfl⟩) | (go_at_call 62; (with_reducible refine (param_any _ _ hlt (by omega) _).mono ?_); rintro e w' ⟨rfl, rfl⟩) | (go_at_call 63; (with_reducible refine (command_any _ _ hlt (by omega) _).mono ?_); rintro e w' ⟨rfl, rfl⟩) | (go_at_call 64; (with_reducible refine (letter_any _ _).mono ?_); rintro e w' ⟨rfl, rfl⟩) | (go_at_call 61; (with_reducible refine (blanks_any _ _ (by omega) (by omega) _).mono ?_); rintro e w1 ⟨e1, rfl, he1, hd1, rfl⟩; have HD := Lib.hid hd1; clear hd1))
        refine bodyPost_ret (v := .tuple #[.agg #[.int .i64 (Lx.gapKind (Lx.gap false 0 (l.drop k)).1), .string (S [])], .int .i64 e1]) (by simp [results, Try.results49, go_sem, Lx.gapKind, hm]) rfl ⟨e1, by rw [HO.out], he1, by rw [HO.out]; exact HD.out, ?_⟩
        exact (Below.refl _ _).alloc (Nat.le_refl _) _))
  · have HO : Hid (Lx.one (l.drop k) = ((5, []), l.drop (k + 1))) := by
      show _ = _
      rw [HC.out] at hk ⊢; exact Lx.one_k5 hk
    clear hk
    go_enter Try.func49, Try.ntmps49
    go_wp2_with (first | (go_at_call 60; (with_reducible refine (blank_any _ _).mono ?_); rintro e w' ⟨rfl, rfl⟩) | (go_at_call 62; (with_reducible refine (param_any _ _ hlt (by omega) _).mono ?_); rintro e w' ⟨rfl, rfl⟩) | (go_at_call 63; (with_reducible refine (command_any _ _ hlt (by omega) _).mono ?_); rintro e w' ⟨rfl, rfl⟩) | (go_at_call 64; (with_reducible refine (letter_any _ _).mono ?_); rintro e w' ⟨rfl, rfl⟩))
    refine bodyPost_ret (v := .tuple #[.agg #[.int .i64 5, .string (S [])], .int .i64 (k + 1 : Nat)]) (by simp [results, Try.results49, go_sem]) rfl ⟨k + 1, by rw [HO.out], by omega, by rw [HO.out], (Below.refl _ _).alloc (Nat.le_refl _) _⟩
  · have HO : Hid (Lx.one (l.drop k) = ((6, []), l.drop (k + 1))) := by
      show _ = _
      rw [HC.out] at hk ⊢; exact Lx.one_k6 hk
    clear hk
    go_enter Try.func49, Try.ntmps49
    go_wp2_with (first | (go_at_call 60; (with_reducible refine (blank_any _ _).mono ?_); rintro e w' ⟨rfl, rfl⟩) | (go_at_call 62; (with_reducible refine (param_any _ _ hlt (by omega) _).mono ?_); rintro e w' ⟨rfl, rfl⟩) | (go_at_call 63; (with_reducible refine (command_any _ _ hlt (by omega) _).mono ?_); rintro e w' ⟨rfl, rfl⟩) | (go_at_call 64; (with_reducible refine (letter_any _ _).mono ?_); rintro e w' ⟨rfl, rfl⟩))
    refine bodyPost_ret (v := .tuple #[.agg #[.int .i64 6, .string (S [])], .int .i64 (k + 1 : Nat)]) (by simp [results, Try.results49, go_sem]) rfl ⟨k + 1, by rw [HO.out], by omega, by rw [HO.out], (Below.refl _ _).alloc (Nat.le_refl _) _⟩
  · have hj2 : k + 1 < l.length := by
      have h7 := hk
      rw [HC.out] at h7
      have := (Lx.kind_seven h7).2.1
      rcases Nat.lt_or_ge (k + 1) l.length with h | h
      · exact h
      · exact absurd (List.drop_eq_nil_of_le h) this
    have HO : Hid (Lx.one (l.drop k) = ((7, [l[k + 1]]), l.drop (k + 1 + 1))) := by
      show _ = _
      rw [HC.out] at hk ⊢; rw [Lx.one_k7 hk, drop_at hj2]; first | done | rfl
    clear hk
    go_enter Try.func49, Try.ntmps49
    go_wp2_with (first | (go_at_call 60; (with_reducible refine (blank_any _ _).mono ?_); rintro e w' ⟨rfl, rfl⟩) | (go_at_call 62; (with_reducible refine (param_any _ _ hlt (by omega) _).mono ?_); rintro e w' ⟨rfl, rfl⟩) | (go_at_call 63; (with_reducible refine (command_any _ _ hlt (by omega) _).mono ?_); rintro e w' ⟨rfl, rfl⟩) | (go_at_call 64; (with_reducible refine (letter_any _ _).mono ?_); rintro e w' ⟨rfl, rfl⟩))
    refine bodyPost_ret (v := .tuple #[.agg #[.int .i64 7, .string (S [l[k + 1]])], .int .i64 (k + 1 + 1 : Nat)]) (by simp [results, Try.results49, go_sem]; omega) rfl ⟨k + 1 + 1, by rw [HO.out], by omega, by rw [HO.out], (Below.refl _ _).alloc (Nat.le_refl _) _⟩
  · have HO : Hid (Lx.one (l.drop k) = ((4, (l.drop (k + 1)).takeWhile Lx.letter), (l.drop (k + 1)).dropWhile Lx.letter)) := by
      show _ = _
      rw [HC.out] at hk ⊢; exact Lx.one_k4 hk
    clear hk
    go_enter Try.func49, Try.ntmps49
    go_wp2_with (first | (go_at_call 60; (with_reducible refine (blank_any _ _).mono ?_); rintro e w' ⟨rfl, rfl⟩) | (go_at_call 62; (with_reducible refine (param_any _ _ hlt (by omega) _).mono ?_); rintro e w' ⟨rfl, rfl⟩) | (go_at_call 63; (with_reducible refine (command_any _ _ hlt (by omega) _).mono ?_); rintro e w' ⟨rfl, rfl⟩) | (go_at_call 64; (with_reducible refine (letter_any _ _).mono ?_); rintro e w' ⟨rfl, rfl⟩))
    go_loop [9] (fun i => ∃ m : Nat, k + 1 ≤ m ∧ m ≤ l.length ∧ i = .int .i64 m ∧ Hid ((l.drop (k + 1)).takeWhile Lx.letter = (l.take m).drop (k + 1) ++ (l.drop m).takeWhile Lx.letter ∧ (l.drop (k + 1)).dropWhile Lx.letter = (l.drop m).dropWhile Lx.letter)) (fun i => l.length - (intOf i).toNat)
    case atStart => exact ⟨k + 1, by omega, by omega, by go_num, ⟨by rw [take_drop_self]; rfl, rfl⟩⟩
    case round =>
      obtain ⟨m, hjm, hm, rfl, HM⟩ := hrel
      by_cases hml : m < l.length
      · have hmi : (m : Int) < (l.length : Int) := by omega
        by_cases hlet : Lx.letter l[m] = true
        · go_wp2_with (first | (go_at_call 60; (with_reducible refine (blank_any _ _).mono ?_); rintro e w' ⟨rfl, rfl⟩) | (go_at_call 62; (with_reducible refine (param_any _ _ hlt (by omega) _).mono ?_); rintro e w' ⟨rfl, rfl⟩) | (go_at_call 63; (with_reducible refine (command_any _ _ hlt (by omega) _).mono ?_); rintro e w' ⟨rfl, rfl⟩) | (go_at_call 64; (with_reducible refine (letter_any _ _).mono ?_); rintro e w' ⟨rfl, rfl⟩))
          go_round
          case rel =>
            refine ⟨m + 1, by omega, by omega, by go_num, ?_⟩
            have h := HM.out
            rw [drop_at hml, List.takeWhile_cons_of_pos hlet, List.dropWhile_cons_of_pos hlet] at h
            exact ⟨by rw [h.1, take_drop_snoc hml hjm]; simp, h.2⟩
          case measure => simp [intOf]; omega
        · have hlet' : Lx.letter l[m] = false := by simpa using hlet
          have HX : Hid ((l.drop (k + 1)).takeWhile Lx.letter = (l.take m).drop (k + 1) ∧ (l.drop (k + 1)).dropWhile Lx.letter = l.drop m) := by
            have h := HM.out
            rw [drop_at hml, List.takeWhile_cons_of_neg hlet, List.dropWhile_cons_of_neg hlet] at h
            exact ⟨by rw [h.1]; simp, by rw [h.2, drop_at hml]⟩
          clear hlet
          go_wp2_with (first | (go_at_call 60; (with_reducible refine (blank_any _ _).mono ?_); rintro e w' ⟨rfl, rfl⟩) | (go_at_call 62; (with_reducible refine (param_any _ _ hlt (by omega) _).mono ?_); rintro e w' ⟨rfl, rfl⟩) | (go_at_call 63; (with_reducible refine (command_any _ _ hlt (by omega) _).mono ?_); rintro e w' ⟨rfl, rfl⟩) | (go_at_call 64; (with_reducible refine (letter_any _ _).mono ?_); rintro e w' ⟨rfl, rfl⟩))
          refine bodyPost_ret (v := .tuple #[.agg #[.int .i64 4, .string (S ((l.take m).drop (k + 1)))], .int .i64 m]) (by simp [results, Try.results49, go_sem]) rfl ⟨m, by rw [HO.out, HX.out.1], hm, by rw [HO.out]; exact HX.out.2.symm, (Below.refl _ _).alloc (Nat.le_refl _) _⟩
      · obtain rfl : m = l.length := by omega
        have HX : Hid ((l.drop (k + 1)).takeWhile Lx.letter = l.drop (k + 1) ∧ (l.drop (k + 1)).dropWhile Lx.letter = []) := by
          have h := HM.out
          rw [List.drop_length, List.take_length] at h
          exact ⟨by rw [h.1]; simp, h.2⟩
        go_wp2_with fail
        refine bodyPost_ret (v := .tuple #[.agg #[.int .i64 4, .string (S (l.drop (k + 1)))], .int .i64 l.length]) (by simp [results, Try.results49, go_sem]) rfl ⟨l.length, by rw [HO.out, HX.out.1], hm, by rw [HO.out, HX.out.2, List.drop_length], (Below.refl _ _).alloc (Nat.le_refl _) _⟩
  · have HO := Lib.hid (Lx.one_k1 hk)
    clear hk
    go_enter Try.func49, Try.ntmps49
    go_wp2_with (first | (go_at_call 60; (with_reducible refine (blank_any _ _).mono ?_); rintro e w' ⟨rfl, rfl⟩) | (go_at_call 62; (with_reducible refine (param_any _ _ hlt (by omega) _).mono ?_); rintro e w' ⟨rfl, rfl⟩) | (go_at_call 63; (with_reducible refine (command_any _ _ hlt (by omega) _).mono ?_); rintro e w' ⟨rfl, rfl⟩) | (go_at_call 64; (with_reducible refine (letter_any _ _).mono ?_); rintro e w' ⟨rfl, rfl⟩) | (go_at_call 65; (with_reducible refine (word_any _ _ hlt hl _).mono ?_); rintro e w1 ⟨e1, rfl, he1, hd1, hb1⟩; have HD := Lib.hid hd1; obtain ⟨hp, hb2⟩ := below_pair hb1; have q0 := pair_cell0 hp; have q1 := pair_cell1 hp; have f0 := pair_free hp 0; have f1 := pair_free hp 1; have HP := Lib.hid (pair_set hp (.int .i64 1) (.string (S (Lx.word (l.drop k)).1))); clear hd1 hb1 hp))
    have r0 := pair_cell0 HP.out
    have r1 := pair_cell1 HP.out
    refine bodyPost_ret (v := .tuple #[.agg #[.int .i64 1, .string (S (Lx.word (l.drop k)).1)], .int .i64 e1]) (by simp [results, Try.results49, go_sem, r0, r1]) rfl ⟨e1, by rw [HO.out], he1, by rw [HO.out]; exact HD.out, below_setCell2 hb2 (Nat.le_refl _) _ _ _ _⟩

set_option maxHeartbeats 400000 in
/-- 'Lex': the tokens of a text. -/
theorem lex_any (l : List UInt8) (hl : l.length ≤ 1000000000) (w : World) :
    Calls Try.prog 34 #[.string (S l)] w fun e w' =>
      ∃ v', e = .returned v' ∧ w'.ownsRow w.heap.size 41 2 v' (Lx.lex l).length (tcs (Lx.lex l)) ∧ Below w.heap.size w w' := by
  go_enter Try.func34, Try.ntmps34
  go_wp2_with fail
  go_loopw [3, 4] (fun v i wr => ∃ (j : Nat) (acc : List Lx.Tok), j ≤ l.length ∧ acc.length ≤ j ∧ i = .int .i64 j ∧ wr.ownsRow w.heap.size 41 2 v acc.length (tcs acc) ∧ Hid (acc ++ Lx.lex (l.drop j) = Lx.lex l) ∧ Below w.heap.size w wr) (fun _ i _ => l.length - (intOf i).toNat)
  case atStart => exact ⟨0, [], by omega, by simp, rfl, World.ownsRow_nil _ _ _ _, rfl, Below.refl _ _⟩
  case round =>
    obtain ⟨j, acc, hj, hacc, rfl, hown, HG, hbw⟩ := hrel
    have hsz := hbw.size
    by_cases hlt : j < l.length
    · have hlen1 : (Lx.one (l.drop j)).2.length ≤ (l.drop (j + 1)).length := by have := Lx.one_lt l[j] (l.drop (j + 1)); rwa [← drop_at hlt] at this
      have HLEX := Lib.hid (show Lx.lex (l.drop j) = (Lx.one (l.drop j)).1 :: Lx.lex (Lx.one (l.drop j)).2 from Lx.lex_ne (by rw [drop_at hlt]; exact List.cons_ne_nil _ _))
      have HLEN := Lib.hid hlen1
      clear hlen1
      go_wp2_with (first
        | (go_at_call 49; (with_reducible refine (lexOne_any _ _ hlt hl _).mono ?_); rintro e w1 ⟨e1, rfl, he1, hd1, hb1⟩; have HD := Lib.hid hd1; have hown1 := own_below hown (own_under hown) hb1; have hsz1 := hb1.size; clear hd1)
        | (at_builtin; refine wp_app tyTok rfl _ _ rfl w.heap.size (hown1.alloc _) rfl rfl (by simp) rfl tc_one (by omega) (by omega) (by simp; omega) ?_; intro v2 w2 hown2 hb2 _))
      have hj1 : j < e1 := by
        have h1 := HLEN.out; rw [← HD.out] at h1; simp at h1; omega
      go_roundw
      case rel => exact ⟨e1, acc ++ [(Lx.one (l.drop j)).1], he1, by simp; omega, rfl, by rw [tcs_snoc, List.length_append]; exact hown2, by show _ = _; rw [← HG.out, HLEX.out, HD.out]; simp, ((hbw.trans (hb1.mono hsz)).alloc (by omega) _).trans hb2⟩
      case measure => simp [intOf]; omega
    · obtain rfl : j = l.length := by omega
      have hx : acc = Lx.lex l := by rw [← HG.out, List.drop_length, Lx.lex_nil, List.append_nil]
      subst hx
      go_wp2_with fail
      go_ret
      exact ⟨_, rfl, hown, hbw⟩

end Go.Proofs.Ytkpdhpbnbpjceaa
