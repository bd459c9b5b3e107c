
/- 'LexTells', 'LexBack' and 'LexRight', walked: each answers true at every input. No condition. -/
import Derived.Test.YtkbdfckmmjkghaaLexFixed
import Derived.Test.YtkbdfckmmjkghaaLexLaw
import Derived.Test.YtkbdfckmmjkghaaLexRef
namespace Go.Proofs.Ytkbdfckmmjkghaa
open Go.RowKit

theorem cut_len (l : List Lx.Tok) : ((l.take 60).map cut40).length ≤ 60 := by simp; omega
theorem cut_each (l : List Lx.Tok) : ∀ t ∈ (l.take 60).map cut40, t.2.length ≤ 40 := by
  intro t ht
  obtain ⟨x, _, rfl⟩ := List.mem_map.1 ht
  simp [cut40]; omega
theorem each_le {l : List Lx.Tok} {a b : Nat} (h : ∀ t ∈ l, t.2.length ≤ a) (hab : a ≤ b) : ∀ t ∈ l, t.2.length ≤ b := fun t ht => Nat.le_trans (h t ht) hab

theorem lexF_len (n : Nat) : ∀ s : List UInt8, (Lx.lexF n s).length ≤ s.length := by
  induction n with
  | zero => intro s; simp [Lx.lexF]
  | succ n ih =>
    intro s
    cases s with
    | nil => simp [Lx.lexF]
    | cons c r =>
      have := ih (Lx.one (c :: r)).2
      have := Lx.one_lt c r
      simp [Lx.lexF]; omega
theorem lex_len (s : List UInt8) : (Lx.lex s).length ≤ s.length := lexF_len _ s

theorem word_each (s : List UInt8) : (Lx.word s).1.length ≤ s.length := by
  induction s using Lx.word.induct with
  | case1 => simp [Lx.word]
  | case2 c h => simp [Lx.word, h]
  | case3 c h => simp [Lx.word, h]
  | case4 c d r h h2 ih => rw [Lx.word, if_pos h, if_pos h2]; simp; omega
  | case5 c d r h h2 ih => rw [Lx.word, if_pos h, if_neg h2]; simp at ih ⊢; omega
  | case6 c d r h => rw [Lx.word, if_neg h]; simp

theorem takeWhile_le (p : UInt8 → Bool) (l : List UInt8) : (l.takeWhile p).length ≤ l.length := by
  induction l with
  | nil => simp
  | cons c r ih => rw [List.takeWhile_cons]; split <;> simp <;> omega

theorem one_each (c : UInt8) (r : List UInt8) : (Lx.one (c :: r)).1.2.length ≤ r.length + 1 := by
  have := word_each (c :: r)
  have := takeWhile_le Lx.letter r
  rw [Lx.one_cons]
  (repeat' split) <;> simp at * <;> omega

theorem lexF_each (n : Nat) : ∀ s : List UInt8, ∀ t ∈ Lx.lexF n s, t.2.length ≤ s.length := by
  induction n with
  | zero => intro s; simp [Lx.lexF]
  | succ n ih =>
    intro s
    cases s with
    | nil => simp [Lx.lexF]
    | cons c r =>
      intro t ht
      have h1 := Lx.one_lt c r
      rw [Lx.lexF, List.mem_cons] at ht
      rcases ht with rfl | ht
      · exact one_each c r
      · have := ih _ t ht
        simp; omega
theorem lex_each (s : List UInt8) : ∀ t ∈ Lx.lex s, t.2.length ≤ s.length := lexF_each _ s

theorem safe_len' (w : List UInt8) : (Lx.safe w).length ≤ 2 * w.length := by
  induction w with
  | nil => simp [Lx.safe]
  | cons c w ih =>
    have e : Lx.safe (c :: w) = (if Lx.special c then [92, c] else [c]) ++ Lx.safe w := rfl
    rw [e, List.length_append, List.length_cons]
    split <;> simp only [List.length_cons, List.length_nil] <;> omega
theorem textOf_len' (t : Lx.Tok) : (Lx.textOf t).length ≤ 2 * t.2.length + 2 := by
  have := safe_len' t.2
  unfold Lx.textOf
  (repeat' split) <;> simp <;> omega
theorem text_len' {l : List Lx.Tok} {m : Nat} (h : ∀ t ∈ l, t.2.length ≤ m) : (Lx.text l).length ≤ l.length * (2 * m + 2) := by
  induction l with
  | nil => simp [Lx.text]
  | cons t l ih =>
    have h1 := ih fun u hu => h u (by simp [hu])
    have h2 := textOf_len' t
    have h3 := h t (by simp)
    simp only [Lx.text, List.flatMap_cons, List.length_append, List.length_cons, Nat.succ_mul] at h1 ⊢
    omega
theorem text_len2 {l : List Lx.Tok} {m k : Nat} (h : ∀ t ∈ l, t.2.length ≤ m) (hk : l.length ≤ k) : (Lx.text l).length ≤ k * (2 * m + 2) := Nat.le_trans (text_len' h) (Nat.mul_le_mul_right _ hk)

theorem take_minI {α : Type} (l : List α) (n : Nat) : l.take (min (l.length : Int) (n : Int)).toNat = l.take n := by
  have e : (min (l.length : Int) (n : Int)).toNat = min l.length n := by omega
  rw [e]
  by_cases h : l.length ≤ n
  · rw [Nat.min_eq_left h, List.take_length, List.take_of_length_le h]
  · rw [Nat.min_eq_right (by omega)]

set_option maxHeartbeats 1600000 in
theorem lexTells_any (s : List UInt8) (v : Value) (l : List Lx.Tok) (w : World) (hs : s.length ≤ 9223372036854775807) (hl : Rt w v l) (hle : ∀ x ∈ l, x.2.length ≤ 9223372036854775807) :
    Calls Try.prog 3 #[.string (S s), v] w fun e w' => e = .returned (.bool true) ∧ Below w.heap.size w w' := by
  obtain ⟨a0, c0, rfl⟩ := hl.shape
  have hm := take_minI s 300
  simp only [Int.cast_ofNat_Int] at hm
  go_enter Try.func3, Try.ntmps3
  go_wp2_with fail
  clear hm
  have h300 : (s.take 300).length ≤ 300 := by simp; omega
  have hlx := lex_len (s.take 300)
  generalize s.take 300 = s1 at *
  clear hs
  have hcut := cut_any _ _ 60 _ hl (by decide) hle
  simp only [Int.cast_ofNat_Int] at hcut
  (with_reducible refine hcut.mono ?_); clear hcut; rintro e w1 ⟨v1, rfl, o1, b1⟩
  have hcl := cut_len l
  have hce := cut_each l
  generalize (l.take 60).map cut40 = l1 at *
  have r1 := rt_of_own o1
  clear o1 hl hle
  go_wp2_with fail
  (with_reducible refine (lex_any _ (by omega) _).mono ?_); rintro e w2 ⟨v2, rfl, o2, b2⟩
  have r2 := rt_of_own o2
  have r1a := r1.below' b2
  clear o2 r1
  go_wp2_with fail
  (with_reducible refine (refs_any _ _ _ r2 (by omega)).mono ?_); rintro e w3 ⟨v3, rfl, o3, b3⟩
  have r3 := rt_of_own o3
  have r1b := r1a.below' b3
  clear o3 r1a r2
  go_wp2_with fail
  (with_reducible refine (refLex_any _ (by omega) _).mono ?_); rintro e w4 ⟨v4, rfl, o4, b4⟩
  have r4 := rt_of_own o4
  have r1c := r1b.below' b4
  have r3a := r3.below' b4
  clear o4 r1b r3
  go_wp2_with fail
  (with_reducible refine (same_any _ _ _ _ _ r3a r4 (by omega) (by omega)).mono ?_); rintro e w5 ⟨rfl, b5⟩
  have r1d := r1c.below' b5
  clear r1c r3a r4
  rw [show (Lx.lex s1 == Lx.lex s1) = true from beq_self_eq_true _]
  go_wp2_with fail
  (with_reducible refine (text_any _ _ _ r1d (by omega) (each_le hce (by decide))).mono ?_); rintro e w6 ⟨rfl, b6⟩
  have r1e := r1d.below' b6
  clear r1d
  go_wp2_with fail
  (with_reducible refine (refs_any _ _ _ r1e (by omega)).mono ?_); rintro e w7 ⟨v7, rfl, o7, b7⟩
  have r7 := rt_of_own o7
  have r1f := r1e.below' b7
  clear o7 r1e
  go_wp2_with fail
  (with_reducible refine (refText_any _ _ _ r7 (by omega) (each_le hce (by decide))).mono ?_); rintro e w8 ⟨rfl, rfl⟩
  clear r7
  go_wp2_with fail
  (with_reducible refine (right_any _ _ _ r1f (by omega) (each_le hce (by decide))).mono ?_); rintro e w9 ⟨rfl, b9⟩
  have r1g := r1f.below' b9
  clear r1f
  go_wp2_with fail
  (with_reducible refine (refs_any _ _ _ r1g (by omega)).mono ?_); rintro e wa ⟨va, rfl, oa, ba⟩
  have ra := rt_of_own oa
  clear oa r1g
  go_wp2_with fail
  (with_reducible refine (refRight_any _ _ _ ra (by omega) (each_le hce (by decide))).mono ?_); rintro e wb ⟨rfl, bb⟩
  clear ra
  go_wp2_with fail
  (with_reducible refine (fixed_any _).mono ?_); rintro e wc ⟨rfl, bc⟩
  go_wp2_with fail
  go_ret
  have h1 := b1.trans (b2.mono b1.size)
  have h2 := (h1.trans (b3.mono h1.size))
  have h3 := (h2.trans (b4.mono h2.size))
  have h4 := (h3.trans (b5.mono h3.size))
  have h5 := (h4.trans (b6.mono h4.size))
  have h6 := (h5.trans (b7.mono h5.size))
  have h7 := (h6.trans (b9.mono h6.size))
  have h8 := (h7.trans (ba.mono h7.size))
  have h9 := (h8.trans (bb.mono h8.size))
  exact ⟨rfl, h9.trans (bc.mono h9.size)⟩

set_option maxHeartbeats 1600000 in
theorem lexBack_any (s : List UInt8) (w : World) (hs : s.length ≤ 9223372036854775807) :
    Calls Try.prog 4 #[.string (S s)] w fun e w' => e = .returned (.bool true) ∧ Below w.heap.size w w' := by
  have hm := take_minI s 300
  simp only [Int.cast_ofNat_Int] at hm
  go_enter Try.func4, Try.ntmps4
  go_wp2_with fail
  clear hm
  have h300 : (s.take 300).length ≤ 300 := by simp; omega
  generalize s.take 300 = s1 at *
  have hlx := lex_len s1
  have hls := lex_each s1
  clear hs
  (with_reducible refine (lex_any _ (by omega) _).mono ?_); rintro e w1 ⟨v1, rfl, o1, b1⟩
  have r1 := rt_of_own o1
  obtain ⟨a1, k1, rfl⟩ := own_shape o1
  clear o1
  go_wp2_with fail
  (with_reducible refine (text_any _ _ _ r1 (by omega) (each_le hls (by omega))).mono ?_); rintro e w2 ⟨rfl, b2⟩
  have r1a := r1.below' b2
  clear r1
  have htl := text_len2 (m := 300) (k := 300) (each_le hls h300) (by omega)
  go_wp2_with fail
  (with_reducible refine (lex_any _ (by omega) _).mono ?_); rintro e w3 ⟨v3, rfl, o3, b3⟩
  have r3 := rt_of_own o3
  have r1b := r1a.below' b3
  rw [Lx.lex_back] at r3
  clear o3 r1a
  go_wp2_with fail
  (with_reducible refine (right_any _ _ _ r1b (by omega) (each_le hls (by omega))).mono ?_); rintro e w4 ⟨rfl, b4⟩
  rw [Lx.right_lex]
  have r1c := r1b.below' b4
  have r3c := r3.below' b4
  clear r1b r3
  go_wp2_with fail
  (with_reducible refine (refs_any _ _ _ r1c (by omega)).mono ?_); rintro e w5 ⟨v5, rfl, o5, b5⟩
  have r5 := rt_of_own o5
  have r3d := r3c.below' b5
  clear o5 r1c r3c
  go_wp2_with fail
  (with_reducible refine (refs_any _ _ _ r3d (by omega)).mono ?_); rintro e w6 ⟨v6, rfl, o6, b6⟩
  have r6 := rt_of_own o6
  have r5a := r5.below' b6
  have r3e := r3d.below' b6
  clear o6 r5 r3d
  go_wp2_with fail
  (with_reducible refine (same_any _ _ _ _ _ r5a r6 (by omega) (by omega)).mono ?_); rintro e w7 ⟨rfl, b7⟩
  rw [show (Lx.lex s1 == Lx.lex s1) = true from beq_self_eq_true _]
  have r3f := r3e.below' b7
  clear r5a r6 r3e
  go_wp2_with fail
  (with_reducible refine (text_any _ _ _ r3f (by omega) (each_le hls (by omega))).mono ?_); rintro e w8 ⟨rfl, b8⟩
  clear r3f
  have hq : (((Lx.lex s1).length : Int) == 0) = s1.isEmpty := by
    cases s1 with
    | nil => rfl
    | cons c r => rw [Lx.lex_cons]; simp; omega
  go_wp2_with fail
  (with_reducible refine (fixed_any _).mono ?_); rintro e w9 ⟨rfl, b9⟩
  go_wp2_with fail
  go_ret
  have h1 := b1.trans (b2.mono b1.size)
  have h2 := (h1.trans (b3.mono h1.size))
  have h3 := (h2.trans (b4.mono h2.size))
  have h4 := (h3.trans (b5.mono h3.size))
  have h5 := (h4.trans (b6.mono h4.size))
  have h6 := (h5.trans (b7.mono h5.size))
  have h7 := (h6.trans (b8.mono h6.size))
  exact ⟨rfl, h7.trans (b9.mono h7.size)⟩

set_option maxHeartbeats 1600000 in
theorem lexRight_any (v : Value) (l : List Lx.Tok) (w : World) (hl : Rt w v l) (hle : ∀ x ∈ l, x.2.length ≤ 9223372036854775807) :
    Calls Try.prog 5 #[v] w fun e w' => e = .returned (.bool true) ∧ Below w.heap.size w w' := by
  obtain ⟨a0, c0, rfl⟩ := hl.shape
  go_enter Try.func5, Try.ntmps5
  go_wp2_with fail
  have hcut := cut_any _ _ 60 _ hl (by decide) hle
  simp only [Int.cast_ofNat_Int] at hcut
  (with_reducible refine hcut.mono ?_); clear hcut; rintro e w1 ⟨v1, rfl, o1, b1⟩
  have hcl := cut_len l
  have hce := cut_each l
  generalize (l.take 60).map cut40 = l1 at *
  have r1 := rt_of_own o1
  clear o1 hl hle
  go_wp2_with fail
  (with_reducible refine (text_any _ _ _ r1 (by omega) (each_le hce (by decide))).mono ?_); rintro e w2 ⟨rfl, b2⟩
  have r1a := r1.below' b2
  clear r1
  have htl := text_len2 (m := 40) (k := 60) hce hcl
  go_wp2_with fail
  (with_reducible refine (lex_any _ (by omega) _).mono ?_); rintro e w3 ⟨v3, rfl, o3, b3⟩
  have hlx := lex_len (Lx.text l1)
  have r3 := rt_of_own o3
  have r1b := r1a.below' b3
  clear o3 r1a
  go_wp2_with fail
  (with_reducible refine (refs_any _ _ _ r1b (by omega)).mono ?_); rintro e w4 ⟨v4, rfl, o4, b4⟩
  have r4 := rt_of_own o4
  have r1c := r1b.below' b4
  have r3a := r3.below' b4
  clear o4 r1b r3
  go_wp2_with fail
  (with_reducible refine (refs_any _ _ _ r3a (by omega)).mono ?_); rintro e w5 ⟨v5, rfl, o5, b5⟩
  have r5 := rt_of_own o5
  have r1d := r1c.below' b5
  have r4a := r4.below' b5
  clear o5 r1c r4 r3a
  go_wp2_with fail
  (with_reducible refine (same_any _ _ _ _ _ r4a r5 (by omega) (by omega)).mono ?_); rintro e w6 ⟨rfl, b6⟩
  have r1e := r1d.below' b6
  clear r4a r5 r1d
  rw [Lx.right_iff]
  go_wp2_with fail
  (with_reducible refine (right_any _ _ _ r1e (by omega) (each_le hce (by decide))).mono ?_); rintro e w7 ⟨rfl, b7⟩
  clear r1e
  go_wp2_with fail
  (with_reducible refine (fixed_any _).mono ?_); rintro e w8 ⟨rfl, b8⟩
  go_wp2_with fail
  go_ret
  have h1 := b1.trans (b2.mono b1.size)
  have h2 := (h1.trans (b3.mono h1.size))
  have h3 := (h2.trans (b4.mono h2.size))
  have h4 := (h3.trans (b5.mono h3.size))
  have h5 := (h4.trans (b6.mono h4.size))
  have h6 := (h5.trans (b7.mono h5.size))
  exact ⟨rfl, h6.trans (b8.mono h6.size)⟩

end Go.Proofs.Ytkbdfckmmjkghaa
