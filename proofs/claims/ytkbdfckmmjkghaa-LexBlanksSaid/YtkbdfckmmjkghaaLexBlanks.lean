
/- 'LexBlanks', walked: it answers true at every input. No condition. -/
import Derived.Test.YtkbdfckmmjkghaaLexTells
import Derived.Test.YtkbdfckmmjkghaaLexLawB
namespace Go.Proofs.Ytkbdfckmmjkghaa
open Go.RowKit

theorem flat_snoc (f : List UInt8) (s : List UInt8) (c : UInt8) : Lx.flat f (s ++ [c]) = Lx.flat f s ++ (if c == 9 then f else [c]) := by simp [Lx.flat]
theorem flat_len {f : List UInt8} (hf : Lx.Blanks f) (s : List UInt8) : (Lx.flat f s).length ≤ 2 * s.length := by
  induction s with
  | nil => simp [Lx.flat]
  | cons c s ih =>
    rw [Lx.flat_cons, List.length_append, List.length_cons]
    rcases hf with rfl | rfl <;> split <;> simp only [List.length_cons, List.length_nil] <;> omega

set_option maxRecDepth 20000 in
set_option maxHeartbeats 1600000 in
theorem lexBlanks_any (s : List UInt8) (w : World) (hs : s.length ≤ 9223372036854775807) :
    Calls Try.prog 8 #[.string (S s)] w fun e w' => e = .returned (.bool true) ∧ Below w.heap.size w w' := by
  have hm := take_minI s 150
  simp only [Int.cast_ofNat_Int] at hm
  go_enter Try.func8, Try.ntmps8
  simp only [S_lit]
  go_wp2_with fail
  go_loopw [3, 4, 5] (fun one two i wr => ∃ k : Nat, k ≤ s.length ∧ k ≤ 150 ∧ i = .int .i64 k ∧ one = .string (S (Lx.flat [32] (s.take k))) ∧ two = .string (S (Lx.flat [32, 32] (s.take k))) ∧ Hid ((92 : UInt8) ∉ s.take k) ∧ wr = w) (fun _ _ i _ => s.length - (intOf i).toNat)
  case atStart => exact ⟨0, Nat.zero_le _, Nat.zero_le _, rfl, rfl, rfl, by simp [Hid], rfl⟩
  case round =>
    obtain ⟨k, hk, hk2, rfl, rfl, rfl, h92, rfl⟩ := hrel
    by_cases hlt : k < s.length
    · by_cases hlm : k < 150
      · have hsn := take_snoc s k hlt
        have hsn1 : Hid (Lx.flat [32] (s.take (k + 1)) = Lx.flat [32] (s.take k) ++ (if s[k] == 9 then [32] else [s[k]])) := by rw [Hid, hsn, flat_snoc]
        have hsn2 : Hid (Lx.flat [32, 32] (s.take (k + 1)) = Lx.flat [32, 32] (s.take k) ++ (if s[k] == 9 then [32, 32] else [s[k]])) := by rw [Hid, hsn, flat_snoc]
        have hl1 := flat_len (.inl rfl) (s.take k)
        have hl2 := flat_len (.inr rfl) (s.take k)
        have hl3 : (s.take k).length = k := by simp; omega
        clear hm
        have HS := Lib.hid hsn
        clear hsn
        cases hc : (s[k] == 92)
        · have hne : s[k] ≠ 92 := by simpa using hc
          have h92' : Hid ((92 : UInt8) ∉ s.take (k + 1)) := by
            show _ ∉ _
            rw [HS.out]; simp only [List.mem_append, List.mem_singleton, not_or]; exact ⟨h92.out, fun e => hne e.symm⟩
          clear hne
          cases h9 : (s[k] == 9)
          · rw [h9] at hsn1 hsn2
            go_wp2_with fail
            go_roundw
            case rel => exact ⟨k + 1, by omega, by omega, by go_num, by rw [hsn1.out]; rfl, by rw [hsn2.out]; rfl, h92', trivial⟩
            case measure => simp [intOf]; omega
          · rw [h9] at hsn1 hsn2
            go_wp2_with fail
            go_roundw
            case rel => exact ⟨k + 1, by omega, by omega, by go_num, by rw [hsn1.out]; rfl, by rw [hsn2.out]; rfl, h92', trivial⟩
            case measure => simp [intOf]; omega
        · clear hl1 hl2 hl3 hsn1 hsn2 HS
          go_wp2_with fail
          (with_reducible refine (fixed_any _).mono ?_); rintro e w9 ⟨rfl, b9⟩
          go_wp2_with fail
          go_ret
          exact ⟨rfl, b9⟩
      · obtain rfl : k = 150 := by omega
        have hl1 := flat_len (.inl rfl) (s.take 150)
        have hl2 := flat_len (.inr rfl) (s.take 150)
        have hl3 : (s.take 150).length ≤ 150 := by simp; omega
        have e1 := Lx.lex_flat (.inl rfl) h92.out
        have e2 := Lx.lex_flat (.inr rfl) h92.out
        have HE1 := Lib.hid e1
        have HE2 := Lib.hid e2
        clear e1 e2 h92
        go_wp2_with fail
        clear hm
        generalize hs1 : s.take 150 = s1 at *
        have hlx := lex_len s1
        (with_reducible refine (lex_any _ (by omega) _).mono ?_); rintro e w1 ⟨v1, rfl, o1, b1⟩
        have r1 := rt_of_own o1
        clear o1 hs1
        go_wp2_with fail
        (with_reducible refine (refs_any _ _ _ r1 (by omega)).mono ?_); rintro e w2 ⟨v2, rfl, o2, b2⟩
        have r2 := rt_of_own o2
        have r1a := r1.below' b2
        clear o2 r1
        go_wp2_with fail
        (with_reducible refine (lex_any _ (by omega) _).mono ?_); rintro e w3 ⟨v3, rfl, o3, b3⟩
        have r3 := rt_of_own o3
        rw [HE1.out] at r3
        have r1b := r1a.below' b3
        have r2a := r2.below' b3
        clear o3 r1a r2
        go_wp2_with fail
        (with_reducible refine (refs_any _ _ _ r3 (by omega)).mono ?_); rintro e w4 ⟨v4, rfl, o4, b4⟩
        have r4 := rt_of_own o4
        have r1c := r1b.below' b4
        have r2b := r2a.below' b4
        clear o4 r1b r2a r3
        go_wp2_with fail
        (with_reducible refine (same_any _ _ _ _ _ r2b r4 (by omega) (by omega)).mono ?_); rintro e w5 ⟨rfl, b5⟩
        rw [show (Lx.lex s1 == Lx.lex s1) = true from beq_self_eq_true _]
        have r1d := r1c.below' b5
        clear r1c r2b r4
        go_wp2_with fail
        (with_reducible refine (refs_any _ _ _ r1d (by omega)).mono ?_); rintro e w6 ⟨v6, rfl, o6, b6⟩
        have r6 := rt_of_own o6
        clear o6 r1d
        go_wp2_with fail
        (with_reducible refine (lex_any _ (by omega) _).mono ?_); rintro e w7 ⟨v7, rfl, o7, b7⟩
        have r7 := rt_of_own o7
        rw [HE2.out] at r7
        have r6a := r6.below' b7
        clear o7 r6
        go_wp2_with fail
        (with_reducible refine (refs_any _ _ _ r7 (by omega)).mono ?_); rintro e w8 ⟨v8, rfl, o8, b8⟩
        have r8 := rt_of_own o8
        have r6b := r6a.below' b8
        clear o8 r6a r7
        go_wp2_with fail
        (with_reducible refine (same_any _ _ _ _ _ r6b r8 (by omega) (by omega)).mono ?_); rintro e w9 ⟨rfl, b9⟩
        rw [show (Lx.lex s1 == Lx.lex s1) = true from beq_self_eq_true _]
        clear r6b r8
        go_wp2_with fail
        (with_reducible refine (fixed_any _).mono ?_); rintro e wa ⟨rfl, ba⟩
        go_wp2_with fail
        go_ret
        have h1 := b1.trans (b2.mono b1.size)
        have h2 := (h1.trans (b3.mono h1.size))
        have h3 := (h2.trans (b4.mono h2.size))
        have h4 := (h3.trans (b5.mono h3.size))
        have h5 := (h4.trans (b6.mono h4.size))
        have h6 := (h5.trans (b7.mono h5.size))
        have h7 := (h6.trans (b8.mono h6.size))
        have h8 := (h7.trans (b9.mono h7.size))
        exact ⟨rfl, h8.trans (ba.mono h8.size)⟩
    · obtain rfl : k = s.length := by omega
      have e : s.take s.length = s.take 150 := by rw [List.take_length, List.take_of_length_le hk2]
      rw [e] at h92 ⊢
      clear e
      have hl1 := flat_len (.inl rfl) (s.take 150)
      have hl2 := flat_len (.inr rfl) (s.take 150)
      have hl3 : (s.take 150).length ≤ 150 := by simp; omega
      have e1 := Lx.lex_flat (.inl rfl) h92.out
      have e2 := Lx.lex_flat (.inr rfl) h92.out
      have HE1 := Lib.hid e1
      have HE2 := Lib.hid e2
      clear e1 e2 h92
      go_wp2_with fail
      clear hm
      generalize hs1 : s.take 150 = s1 at *
      have hlx := lex_len s1
      (with_reducible refine (lex_any _ (by omega) _).mono ?_); rintro e w1 ⟨v1, rfl, o1, b1⟩
      have r1 := rt_of_own o1
      clear o1 hs1
      go_wp2_with fail
      (with_reducible refine (refs_any _ _ _ r1 (by omega)).mono ?_); rintro e w2 ⟨v2, rfl, o2, b2⟩
      have r2 := rt_of_own o2
      have r1a := r1.below' b2
      clear o2 r1
      go_wp2_with fail
      (with_reducible refine (lex_any _ (by omega) _).mono ?_); rintro e w3 ⟨v3, rfl, o3, b3⟩
      have r3 := rt_of_own o3
      rw [HE1.out] at r3
      have r1b := r1a.below' b3
      have r2a := r2.below' b3
      clear o3 r1a r2
      go_wp2_with fail
      (with_reducible refine (refs_any _ _ _ r3 (by omega)).mono ?_); rintro e w4 ⟨v4, rfl, o4, b4⟩
      have r4 := rt_of_own o4
      have r1c := r1b.below' b4
      have r2b := r2a.below' b4
      clear o4 r1b r2a r3
      go_wp2_with fail
      (with_reducible refine (same_any _ _ _ _ _ r2b r4 (by omega) (by omega)).mono ?_); rintro e w5 ⟨rfl, b5⟩
      rw [show (Lx.lex s1 == Lx.lex s1) = true from beq_self_eq_true _]
      have r1d := r1c.below' b5
      clear r1c r2b r4
      go_wp2_with fail
      (with_reducible refine (refs_any _ _ _ r1d (by omega)).mono ?_); rintro e w6 ⟨v6, rfl, o6, b6⟩
      have r6 := rt_of_own o6
      clear o6 r1d
      go_wp2_with fail
      (with_reducible refine (lex_any _ (by omega) _).mono ?_); rintro e w7 ⟨v7, rfl, o7, b7⟩
      have r7 := rt_of_own o7
      rw [HE2.out] at r7
      have r6a := r6.below' b7
      clear o7 r6
      go_wp2_with fail
      (with_reducible refine (refs_any _ _ _ r7 (by omega)).mono ?_); rintro e w8 ⟨v8, rfl, o8, b8⟩
      have r8 := rt_of_own o8
      have r6b := r6a.below' b8
      clear o8 r6a r7
      go_wp2_with fail
      (with_reducible refine (same_any _ _ _ _ _ r6b r8 (by omega) (by omega)).mono ?_); rintro e w9 ⟨rfl, b9⟩
      rw [show (Lx.lex s1 == Lx.lex s1) = true from beq_self_eq_true _]
      clear r6b r8
      go_wp2_with fail
      (with_reducible refine (fixed_any _).mono ?_); rintro e wa ⟨rfl, ba⟩
      go_wp2_with fail
      go_ret
      have h1 := b1.trans (b2.mono b1.size)
      have h2 := (h1.trans (b3.mono h1.size))
      have h3 := (h2.trans (b4.mono h2.size))
      have h4 := (h3.trans (b5.mono h3.size))
      have h5 := (h4.trans (b6.mono h4.size))
      have h6 := (h5.trans (b7.mono h5.size))
      have h7 := (h6.trans (b8.mono h6.size))
      have h8 := (h7.trans (b9.mono h7.size))
      exact ⟨rfl, h8.trans (ba.mono h8.size)⟩

end Go.Proofs.Ytkbdfckmmjkghaa
