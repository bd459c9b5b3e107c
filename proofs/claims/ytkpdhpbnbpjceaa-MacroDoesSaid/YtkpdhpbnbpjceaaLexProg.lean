
/- The lexer's 'blanks', 'word', 'one' and 'Lex', walked. -/
import Derived.Test.YtkpdhpbnbpjceaaLexWalks
import Derived.Test.YtkpdhpbnbpjceaaLexMem
import Derived.Test.YtkpdhpbnbpjceaaLib
import Derived.Lib.SlBytesRow
import Derived.Deep.DeepCutAuto
import Derived.Deep.CutBlock
namespace Go.Proofs.Ytkpdhpbnbpjceaa
open Go.RowKit

theorem gap_true_none (n : Nat) (l : List UInt8) (h : Lib.indexByte l 10 = -1) : Lx.gap true n l = (n, []) := by
  induction l with
  | nil => rfl
  | cons c r ih =>
    unfold Lib.indexByte at h
    by_cases hc : c = 10
    · subst hc; simp at h
    · have hc' : (c == 10) = false := by simpa using hc
      have hr : Lib.indexByte r 10 = -1 := by
        have := Lib.indexByte_ge r 10
        rw [hc'] at h
        by_cases h2 : Lib.indexByte r 10 = -1
        · exact h2
        · simp [h2] at h; omega
      simp only [Lx.gap, hc', Bool.false_eq_true, if_false]
      exact ih hr
theorem gap_true_some (n i : Nat) (l : List UInt8) (h : Lib.indexByte l 10 = (i : Int)) : Lx.gap true n l = Lx.gap false n (l.drop (i + 1)) ∧ i < l.length := by
  induction l generalizing i with
  | nil => unfold Lib.indexByte at h; omega
  | cons c r ih =>
    unfold Lib.indexByte at h
    by_cases hc : c = 10
    · subst hc
      simp at h
      have hi : i = 0 := by omega
      subst hi
      simp [Lx.gap]
    · have hc' : (c == 10) = false := by simpa using hc
      rw [hc'] at h
      simp at h
      by_cases h2 : Lib.indexByte r 10 = -1
      · rw [if_pos h2] at h; omega
      · rw [if_neg h2] at h
        have hge := Lib.indexByte_ge r 10
        obtain ⟨i, rfl⟩ : ∃ i', i = i' + 1 := ⟨i - 1, by omega⟩
        have := ih i (by omega)
        simp only [Lx.gap, hc', Bool.false_eq_true, if_false, List.drop_succ_cons, List.length_cons]
        exact ⟨this.1, by omega⟩
theorem gap_remark (n : Nat) (r : List UInt8) : Lx.gap false n (37 :: r) = Lx.gap true n (37 :: r) := by simp [Lx.gap]

set_option maxHeartbeats 400000 in
/-- 'blanks': how many lines end, and the place behind. -/
theorem blanks_any (l : List UInt8) (k : Nat) (hk : k ≤ l.length) (hl : l.length ≤ 1000000000000) (w : World) :
    Calls Try.prog 61 #[.string (S l), .int .i64 (k : Int)] w fun e w' =>
      ∃ e1 : Nat, e = .returned (.tuple #[.int .i64 e1, .int .i64 (Lx.gap false 0 (l.drop k)).1]) ∧ e1 ≤ l.length ∧ l.drop e1 = (Lx.gap false 0 (l.drop k)).2 ∧ w = w' := by
  go_enter Try.func61, Try.ntmps61
  go_wp2_with fail
  go_step3
  go_wp2_with fail
  go_step3
  go_wp2_with fail
  go_loop [1, 6] (fun i n => ∃ (j m : Nat), k ≤ j ∧ j ≤ l.length ∧ m ≤ j ∧ i = .int .i64 j ∧ n = .int .i64 m ∧ Hid (Lx.gap false m (l.drop j) = Lx.gap false 0 (l.drop k))) (fun i _ => l.length - (intOf i).toNat)
  case atStart => exact ⟨k, 0, by omega, by omega, by omega, rfl, rfl, rfl⟩
  case round =>
    obtain ⟨j, m, hkj, hj, hm, rfl, rfl, HG⟩ := hrel
    by_cases hlt : j < l.length
    · have hrel : Hid (Lx.gap false m (l[j] :: l.drop (j + 1)) = Lx.gap false 0 (l.drop k)) := by
        show _ = _; rw [← drop_at hlt]; exact HG.out
      by_cases hbl : Lx.blank l[j] = true
      · by_cases c10 : l[j] = 10
        · have c10' : (l[j] == 10) = true := by simpa using c10
          have hr2 : Hid (Lx.gap false (m + 1) (l.drop (j + 1)) = Lx.gap false 0 (l.drop k)) := Lib.hid (by
            have := hrel.out; rw [c10] at this; simpa [Lx.gap] using this)
          clear c10
          go_wp2_with (go_at_call 60; (with_reducible refine (blank_any _ _).mono ?_); rintro e w' ⟨rfl, rfl⟩)
          go_round
          case rel => exact ⟨j + 1, m + 1, by omega, by omega, by omega, by go_num, by go_num, hr2⟩
          case measure => simp [intOf]; omega
        · have c10' : (l[j] == 10) = false := by simpa using c10
          have hr2 : Hid (Lx.gap false m (l.drop (j + 1)) = Lx.gap false 0 (l.drop k)) := Lib.hid (by
            have := hrel.out; simpa [Lx.gap, hbl, c10] using this)
          clear c10
          go_wp2_with (go_at_call 60; (with_reducible refine (blank_any _ _).mono ?_); rintro e w' ⟨rfl, rfl⟩)
          go_round
          case rel => exact ⟨j + 1, m, by omega, by omega, by omega, by go_num, rfl, hr2⟩
          case measure => simp [intOf]; omega
      · have hbl' : Lx.blank l[j] = false := by simpa using hbl
        clear hbl
        by_cases c37 : l[j] = 37
        · have c37' : (l[j] == 37) = true := by simpa using c37
          have hr2 : Hid (Lx.gap true m (l.drop j) = Lx.gap false 0 (l.drop k)) := by
            have := hrel.out
            rw [c37, gap_remark, ← c37, ← drop_at hlt] at this
            exact this
          clear c37
          have hge := Lib.indexByte_ge (l.drop j) 10
          obtain ⟨q, hq⟩ : ∃ q, q = Lib.indexByte (l.drop j) 10 := ⟨_, rfl⟩
          rw [← hq] at hge
          have HQ := Lib.hid hq
          rcases (by omega : q = -1 ∨ 0 ≤ q) with h1 | h0
          · subst h1
            have HX : Hid (Lx.gap false 0 (l.drop k) = (m, [])) := by
              show _ = _; rw [← hr2.out, gap_true_none m _ hq.symm]
            clear hq hge
            go_wp2_with (first | (go_at_call 60; (with_reducible refine (blank_any _ _).mono ?_); rintro e w' ⟨rfl, rfl⟩) | (go_at_call 72; (with_reducible refine (indexByte_any _ _ _).mono ?_); rintro e w' ⟨rfl, rfl⟩; rw [show Lib.indexByte (l.drop j) (Int.toNat 10).toUInt8 = -1 from HQ.out.symm]))
            rw [Exit.noGoto_ret]
            go_ret2
            exact ⟨l.length, by rw [HX.out]; rfl, Nat.le_refl _, by rw [HX.out, List.drop_length], rfl⟩
          · obtain ⟨i, rfl⟩ := Int.eq_ofNat_of_zero_le h0
            have hs := gap_true_some m i _ hq.symm
            have hi : i < l.length - j := by simpa using hs.2
            have hr3 : Hid (Lx.gap false m (l.drop (j + (i + 1))) = Lx.gap false 0 (l.drop k)) := by
              show _ = _; rw [← hr2.out, hs.1, List.drop_drop]
            clear hq hge hs
            go_wp2_with (first | (go_at_call 60; (with_reducible refine (blank_any _ _).mono ?_); rintro e w' ⟨rfl, rfl⟩) | (go_at_call 72; (with_reducible refine (indexByte_any _ _ _).mono ?_); rintro e w' ⟨rfl, rfl⟩; rw [show Lib.indexByte (l.drop j) (Int.toNat 10).toUInt8 = (i : Int) from HQ.out.symm]))
            go_round
            case rel => exact ⟨j + (i + 1), m, by omega, by omega, by omega, by go_num, rfl, hr3⟩
            case measure => simp [intOf]; omega
        · have c37' : (l[j] == 37) = false := by simpa using c37
          have HX : Hid (Lx.gap false 0 (l.drop k) = (m, l.drop j)) := by
            show _ = _; rw [← hrel.out, drop_at hlt]; simp [Lx.gap, hbl', c37]
          clear c37
          go_wp2_with (first | (go_at_call 60; (with_reducible refine (blank_any _ _).mono ?_); rintro e w' ⟨rfl, rfl⟩) | fail)
          try rw [Exit.noGoto_ret]
          go_ret2
          exact ⟨j, by rw [HX.out]; rfl, hj, by rw [HX.out], rfl⟩
    · obtain rfl : j = l.length := by omega
      have HX : Hid (Lx.gap false 0 (l.drop k) = (m, [])) := by
        show _ = _; rw [← HG.out, List.drop_length]; rfl
      go_wp2_with fail
      try rw [Exit.noGoto_ret]
      go_ret2
      exact ⟨l.length, by rw [HX.out]; rfl, Nat.le_refl _, by rw [HX.out, List.drop_length], rfl⟩

theorem tyByte : SlTy Try.prog 84 5 1 1 := SlTy.mk' (z := .int .u8 0) Try.underlying84 infoByte rfl (by decide)

theorem byteCells_snoc (a : List UInt8) (c : UInt8) : Lib.byteCells (a ++ [c]) = Lib.byteCells a ++ [.int .u8 c.toNat] := by simp [Lib.byteCells]

theorem conv_bytes {w : World} {v : Value} {l : List UInt8} (h : Rd w 1 v l.length (Lib.byteCells l)) :
    (convert 84 9 v).run Try.prog w = .ok (.string (S l)) w := by
  rcases h.2 with ⟨rfl | ⟨p, c, rfl⟩, h0⟩ | ⟨b, o, cap, rfl, _, hc, _⟩
  · have : l = [] := List.eq_nil_of_length_eq_zero h0
    subst this
    simp [convert, Conv.bytesToString, go_sem]
    rfl
  · have : l = [] := List.eq_nil_of_length_eq_zero h0
    subst this
    simp [convert, Conv.bytesToString, go_sem]
    rfl
  · have := Lib.run_convert_whole (P := Try.prog) w 84 5 9 Try.underlying84 Try.underlying5 Try.underlying9 b o (S l) (fun i hi => by
      have hi2 : i < l.length := by simpa using hi
      rw [hc i (.int .u8 (l[i]'hi2).toNat) (by simp [Lib.byteCells, hi2]), S_getElem]) cap
    rwa [S_size] at this

/-- Which of the tests ends a word. -/
theorem word_ends {b1 b5 b6 : Bool} {c : UInt8} (h : (!b1 && c != 37 && c != 123 && c != 125 && !b5 && !b6) = false) :
    b1 = true ∨ (b1 = false ∧ (c != 37) = false) ∨ (b1 = false ∧ (c != 37) = true ∧ (c != 123) = false) ∨ (b1 = false ∧ (c != 37) = true ∧ (c != 123) = true ∧ (c != 125) = false) ∨
      (b1 = false ∧ (c != 37) = true ∧ (c != 123) = true ∧ (c != 125) = true ∧ b5 = true) ∨ (b1 = false ∧ (c != 37) = true ∧ (c != 123) = true ∧ (c != 125) = true ∧ b5 = false ∧ b6 = true) := by
  generalize (c != 37) = b2, (c != 123) = b3, (c != 125) = b4 at *
  revert h; cases b1 <;> cases b2 <;> cases b3 <;> cases b4 <;> cases b5 <;> cases b6 <;> simp

/-- What ends a word. -/
theorem kind_word {l : List UInt8} {j : Nat} (h : j < l.length) : Lx.kind (l.drop j) = 1 ↔
    (!Lx.blank l[j] && l[j] != 37 && l[j] != 123 && l[j] != 125 && !Lx.param (l.drop j) && !Lx.command (l.drop j)) = true := by
  rw [drop_at h, Lx.kind_cons, Lx.param, Lx.command]
  simp only [bne]
  generalize Lx.blank l[j] = b1, (l[j] == 37) = b2, (l[j] == 92) = b3, (l[j] == 123) = b4, (l[j] == 125) = b5, (l[j] == 35) = b6, Lx.letter _ = b7, Lx.digit _ = b8
  cases b1 <;> cases b2 <;> cases b3 <;> cases b4 <;> cases b5 <;> cases b6 <;> cases b7 <;> cases b8 <;> simp

set_option maxHeartbeats 800000 in
/-- 'word'. -/
theorem word_any (l : List UInt8) (k : Nat) (hk : k < l.length) (hl : l.length ≤ 1000000000) (w : World) :
    Calls Try.prog 65 #[.string (S l), .int .i64 (k : Int)] w fun e w' =>
      ∃ e1 : Nat, e = .returned (.tuple #[.string (S (Lx.word (l.drop k)).1), .int .i64 e1]) ∧ e1 ≤ l.length ∧ l.drop e1 = (Lx.word (l.drop k)).2 ∧ Below w.heap.size w w' := by
  go_enter Try.func65, Try.ntmps65
  go_wp2_with fail
  simp only [S_lit]
  go_loopw [1, 6] (fun i v wr => ∃ (j : Nat) (acc : List UInt8), k ≤ j ∧ j ≤ l.length ∧ acc.length ≤ j ∧ i = .int .i64 j ∧ wr.ownsRow w.heap.size 5 1 v acc.length (Lib.byteCells acc) ∧ Below w.heap.size w wr ∧ Hid (acc ++ (Lx.word (l.drop j)).1 = (Lx.word (l.drop k)).1 ∧ (Lx.word (l.drop j)).2 = (Lx.word (l.drop k)).2)) (fun i _ _ => l.length - (intOf i).toNat)
  case atStart => exact ⟨k, [], by omega, by omega, by simp, rfl, World.ownsRow_nil _ _ _ _, Below.refl _ _, by simp [Hid]⟩
  case round =>
    obtain ⟨j, acc, hkj, hj, hacc, rfl, hown, hbw, HG⟩ := hrel
    have hsz := hbw.size
    by_cases hlt : j < l.length
    · have HC : Hid (l.drop j = l[j] :: l.drop (j + 1)) := drop_at hlt
      have hlti : (j : Int) < (l.length : Int) := by omega
      by_cases hk1 : Lx.kind (l.drop j) = 1
      · have hw := (kind_word hlt).1 hk1
        simp only [Bool.and_eq_true, Bool.not_eq_true'] at hw
        obtain ⟨⟨⟨⟨⟨t1, t2⟩, t3⟩, t4⟩, t5⟩, t6⟩ := hw
        by_cases hesc : l[j] = 92 ∧ j + 1 < l.length
        · obtain ⟨h92, hj1⟩ := hesc
          have hrel : Hid ((acc ++ [l[j + 1]]) ++ (Lx.word (l.drop (j + 1 + 1))).1 = (Lx.word (l.drop k)).1 ∧ (Lx.word (l.drop (j + 1 + 1))).2 = (Lx.word (l.drop k)).2) := by
            have h := HG.out
            have hk1' := hk1
            rw [HC.out, drop_at hj1, h92] at h hk1'
            rw [Lx.word_esc hk1'] at h
            exact ⟨by rw [← h.1]; simp, h.2⟩
          have c92 : (l[j] == 92) = true := by simpa using h92
          clear h92 hk1
          go_wp2_with (first | (go_at_call 60; (with_reducible refine (blank_any _ _).mono ?_); rintro e w' ⟨rfl, rfl⟩) | (go_at_call 62; (with_reducible refine (param_any _ _ hlt (by omega) _).mono ?_); rintro e w' ⟨rfl, rfl⟩) | (go_at_call 63; (with_reducible refine (command_any _ _ hlt (by omega) _).mono ?_); rintro e w' ⟨rfl, rfl⟩) | (at_builtin; refine wp_app tyByte rfl _ _ rfl w.heap.size hown rfl rfl (by simp) rfl byte_one (by omega) (by omega) (by omega) ?_; intro v2 w2 hown2 hb2 _))
          go_roundw
          case rel => exact ⟨j + 1 + 1, acc ++ [l[j + 1]], by omega, by omega, by simp; omega, by go_num, by rw [List.length_append, byteCells_snoc]; exact hown2, hbw.trans hb2, hrel⟩
          case measure => simp [intOf]; omega
        · have hrel : Hid ((acc ++ [l[j]]) ++ (Lx.word (l.drop (j + 1))).1 = (Lx.word (l.drop k)).1 ∧ (Lx.word (l.drop (j + 1))).2 = (Lx.word (l.drop k)).2) := by
            have h := HG.out
            have hk1' := hk1
            rw [HC.out] at h hk1'
            rw [Lx.word_one hk1' (by
              by_cases h92 : l[j] = 92
              · exact .inr (List.drop_eq_nil_of_le (by have h := hesc; simp only [h92, true_and] at h; omega))
              · exact .inl h92)] at h
            exact ⟨by rw [← h.1]; simp, h.2⟩
          have HE := Lib.hid hesc
          clear hesc hk1
          by_cases h92 : l[j] = 92
          · have c92 : (l[j] == 92) = true := by simpa using h92
            have hj1 : ¬ (j : Int) + 1 < (l.length : Int) := fun h => HE.out ⟨h92, by omega⟩
            clear h92
            go_wp2_with (first | (go_at_call 60; (with_reducible refine (blank_any _ _).mono ?_); rintro e w' ⟨rfl, rfl⟩) | (go_at_call 62; (with_reducible refine (param_any _ _ hlt (by omega) _).mono ?_); rintro e w' ⟨rfl, rfl⟩) | (go_at_call 63; (with_reducible refine (command_any _ _ hlt (by omega) _).mono ?_); rintro e w' ⟨rfl, rfl⟩) | (at_builtin; refine wp_app tyByte rfl _ _ rfl w.heap.size hown rfl rfl (by simp) rfl byte_one (by omega) (by omega) (by omega) ?_; intro v2 w2 hown2 hb2 _))
            go_roundw
            case rel => exact ⟨j + 1, acc ++ [l[j]], by omega, by omega, by simp; omega, by go_num, by rw [List.length_append, byteCells_snoc]; exact hown2, hbw.trans hb2, hrel⟩
            case measure => simp [intOf]; omega
          · have c92 : (l[j] == 92) = false := by simpa using h92
            clear h92
            go_wp2_with (first | (go_at_call 60; (with_reducible refine (blank_any _ _).mono ?_); rintro e w' ⟨rfl, rfl⟩) | (go_at_call 62; (with_reducible refine (param_any _ _ hlt (by omega) _).mono ?_); rintro e w' ⟨rfl, rfl⟩) | (go_at_call 63; (with_reducible refine (command_any _ _ hlt (by omega) _).mono ?_); rintro e w' ⟨rfl, rfl⟩) | (at_builtin; refine wp_app tyByte rfl _ _ rfl w.heap.size hown rfl rfl (by simp) rfl byte_one (by omega) (by omega) (by omega) ?_; intro v2 w2 hown2 hb2 _))
            go_roundw
            case rel => exact ⟨j + 1, acc ++ [l[j]], by omega, by omega, by simp; omega, by go_num, by rw [List.length_append, byteCells_snoc]; exact hown2, hbw.trans hb2, hrel⟩
            case measure => simp [intOf]; omega
      · have hk1' : (!Lx.blank l[j] && l[j] != 37 && l[j] != 123 && l[j] != 125 && !Lx.param (l.drop j) && !Lx.command (l.drop j)) = false := by
          rw [← Bool.not_eq_true]; exact fun h => hk1 ((kind_word hlt).2 h)
        have HX : Hid (acc = (Lx.word (l.drop k)).1 ∧ l.drop j = (Lx.word (l.drop k)).2) := by
          have h := HG.out
          have hx : Lx.word (l.drop j) = ([], l.drop j) := by
            rw [HC.out] at hk1 ⊢; exact Lx.word_stop hk1
          rw [hx] at h; exact ⟨by simpa using h.1, h.2⟩
        have hends := word_ends hk1'
        clear hk1 hk1'
        have hcv := conv_bytes (own_rd hown)
        rcases hends with t1 | ⟨t1, t2⟩ | ⟨t1, t2, t3⟩ | ⟨t1, t2, t3, t4⟩ | ⟨t1, t2, t3, t4, t5⟩ | ⟨t1, t2, t3, t4, t5, t6⟩
        all_goals (
          go_wp2_with (first | (go_at_call 60; (with_reducible refine (blank_any _ _).mono ?_); rintro e w' ⟨rfl, rfl⟩) | (go_at_call 62; (with_reducible refine (param_any _ _ hlt (by omega) _).mono ?_); rintro e w' ⟨rfl, rfl⟩) | (go_at_call 63; (with_reducible refine (command_any _ _ hlt (by omega) _).mono ?_); rintro e w' ⟨rfl, rfl⟩))
          go_ret2
          exact ⟨j, by rw [HX.out.1]; rfl, hj, HX.out.2, hbw⟩)
    · obtain rfl : j = l.length := by omega
      have HX : Hid (acc = (Lx.word (l.drop k)).1 ∧ [] = (Lx.word (l.drop k)).2) := by
        have h := HG.out; rw [List.drop_length] at h; exact ⟨by simpa [Lx.word] using h.1, h.2⟩
      have hcv := conv_bytes (own_rd hown)
      go_wp2_with fail
      go_ret2
      exact ⟨l.length, by rw [HX.out.1]; rfl, hj, by rw [← HX.out.2, List.drop_length], hbw⟩

end Go.Proofs.Ytkpdhpbnbpjceaa
