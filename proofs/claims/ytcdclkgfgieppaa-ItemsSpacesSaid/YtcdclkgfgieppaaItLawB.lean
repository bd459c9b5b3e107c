
/- 'ItemsTexts', walked: it answers true at every input. No condition. -/
import Derived.Test.YtcdclkgfgieppaaItLawA
import Derived.Test.YtcdclkgfgieppaaLexRef
import Derived.Test.YtcdclkgfgieppaaLexLaw
namespace Go.Proofs.Ytcdclkgfgieppaa
open Go.RowKit

theorem lexF_len (n : Nat) : ∀ s : List UInt8, (Lx.lexF n s).length ≤ s.length := by
  induction n with
  | zero => intro s; simp [Lx.lexF]
  | succ n ih =>
    intro s
    cases s with
    | nil => simp [Lx.lexF]
    | cons c r =>
      have := ih (Lx.one (c :: r)).2
      have := Lx.one_lt c r
      simp [Lx.lexF]; omega
theorem lex_len (s : List UInt8) : (Lx.lex s).length ≤ s.length := lexF_len _ s

theorem word_each (s : List UInt8) : (Lx.word s).1.length ≤ s.length := by
  induction s using Lx.word.induct with
  | case1 => simp [Lx.word]
  | case2 c h => simp [Lx.word, h]
  | case3 c h => simp [Lx.word, h]
  | case4 c d r h h2 ih => rw [Lx.word, if_pos h, if_pos h2]; simp; omega
  | case5 c d r h h2 ih => rw [Lx.word, if_pos h, if_neg h2]; simp at ih ⊢; omega
  | case6 c d r h => rw [Lx.word, if_neg h]; simp

theorem takeWhile_le (p : UInt8 → Bool) (l : List UInt8) : (l.takeWhile p).length ≤ l.length := by
  induction l with
  | nil => simp
  | cons c r ih => rw [List.takeWhile_cons]; split <;> simp <;> omega

theorem one_each (c : UInt8) (r : List UInt8) : (Lx.one (c :: r)).1.2.length ≤ r.length + 1 := by
  have := word_each (c :: r)
  have := takeWhile_le Lx.letter r
  rw [Lx.one_cons]
  (repeat' split) <;> simp at * <;> omega

theorem lexF_each (n : Nat) : ∀ s : List UInt8, ∀ t ∈ Lx.lexF n s, t.2.length ≤ s.length := by
  induction n with
  | zero => intro s; simp [Lx.lexF]
  | succ n ih =>
    intro s
    cases s with
    | nil => simp [Lx.lexF]
    | cons c r =>
      intro t ht
      have h1 := Lx.one_lt c r
      rw [Lx.lexF, List.mem_cons] at ht
      rcases ht with rfl | ht
      · exact one_each c r
      · have := ih _ t ht
        simp; omega
theorem lex_each (s : List UInt8) : ∀ t ∈ Lx.lex s, t.2.length ≤ s.length := lexF_each _ s

theorem take_minI {α : Type} (l : List α) (n : Nat) : l.take (min (l.length : Int) (n : Int)).toNat = l.take n := by
  have e : (min (l.length : Int) (n : Int)).toNat = min l.length n := by omega
  rw [e]
  by_cases h : l.length ≤ n
  · rw [Nat.min_eq_left h, List.take_length, List.take_of_length_le h]
  · rw [Nat.min_eq_right (by omega)]

theorem may_kind {t : Lx.Tok} (h : Lx.may t = true) : 1 ≤ t.1 ∧ t.1 ≤ 7 := by
  unfold Lx.may at h
  split at h
  · omega
  · split at h
    · omega
    · split at h
      · omega
      · simp only [Bool.and_eq_true, Bool.or_eq_true, beq_iff_eq] at h
        omega
theorem rightF_kinds : ∀ (l : List Lx.Tok) (p : Lx.Tok), Lx.rightF p l = true → ∀ t ∈ l, 1 ≤ t.1 ∧ t.1 ≤ 7 := by
  intro l
  induction l with
  | nil => intro p _ t ht; cases ht
  | cons x r ih =>
    intro p h t ht
    rw [Lx.rightF, Bool.and_eq_true, Bool.and_eq_true] at h
    rcases List.mem_cons.1 ht with rfl | ht
    · exact may_kind h.1.1
    · exact ih x h.2 t ht
theorem lex_kinds (s : List UInt8) : ∀ t ∈ Lx.lex s, (Lit.int .i64 t.1).wf = true := fun t ht => by
  have := rightF_kinds _ _ (Lx.right_lex s) t ht
  exact WalkArith.wf_i64 (by omega)

set_option maxRecDepth 20000 in
set_option maxHeartbeats 4000000 in
/-- 'ItemsTexts'. -/
theorem itemsTexts_any (s : List UInt8) (w : World) (hs : s.length ≤ 9223372036854775807) :
    Calls Try.prog 4 #[.string (S s)] w fun e w' => e = .returned (.bool true) ∧ Below w.heap.size w w' := by
  have hm := take_minI s 300
  simp only [Int.cast_ofNat_Int] at hm
  have h300 : (s.take 300).length ≤ 300 := by simp; omega
  obtain ⟨t, ht⟩ : ∃ t, t = s.take 300 := ⟨_, rfl⟩
  rw [← ht] at hm h300
  clear ht
  have hlen := lex_len t
  have HE := Lib.hid (lex_each t)
  have HW := Lib.hid (lex_kinds t)
  obtain ⟨lc, hlc⟩ : ∃ lc, Lx.lex t = lc := ⟨_, rfl⟩
  rw [hlc] at hlen HE HW
  have HL := Lib.hid hlc
  have hlen3 : lc.length ≤ 300 := Nat.le_trans hlen h300
  have hpl := parsed_len lc
  obtain ⟨⟨pa, pb⟩, hp⟩ : ∃ p, It.parsed lc = p := ⟨_, rfl⟩
  rw [hp] at hpl
  have hpa : pa.length ≤ 300 := Nat.le_trans hpl.1 hlen3
  have hpb : pb.length ≤ 300 := Nat.le_trans hpl.2 hlen3
  have HP := Lib.hid hp
  clear hp hpl hlc
  have h0 : (0 : Int) ≤ min (s.length : Int) 300 := by omega
  have h1 : min (s.length : Int) 300 ≤ (s.length : Int) := by omega
  go_enter Try.func4, Try.ntmps4
  go_wp2_with fail
  (with_reducible refine (lex_any t (by omega) w).mono ?_); rintro e w1 ⟨va, rfl, oa, b1⟩
  rw [HL.out] at oa
  have ra := rt_of_own9 oa
  clear oa
  go_wp2_with fail
  (with_reducible refine (parse9_any _ lc _ ra (by omega) (fun t ht => Nat.le_trans (HE.out t ht) (by omega)) HW.out).mono ?_); rintro e w3 ⟨vc, vd, rfl, oc, od, b3⟩
  rw [HP.out] at oc od
  have rc3 := rt_of_own9 oc
  have rd3 := rt_of_own9 od
  have B3 := b1.trans (b3.mono b1.size)
  clear oc od ra b1 b3
  go_wp2_with fail
  (with_reducible refine (refLex_any t (by omega) _).mono ?_); rintro e w4 ⟨ve, rfl, oe, b4⟩
  rw [HL.out] at oe
  have re4 := rt_of_own9 oe
  have rc4 := rc3.below' b4
  have rd4 := rd3.below' b4
  have B4 := B3.trans (b4.mono B3.size)
  clear oe rc3 rd3 b4 B3
  go_wp2_with fail
  (with_reducible refine (refParse9_any _ lc _ re4 (by omega) (fun t ht => Nat.le_trans (HE.out t ht) (by omega))).mono ?_); rintro e w5 ⟨vf, vg, rfl, of, og, b5⟩
  rw [HP.out] at of og
  have rf5 := rt_of_own9 of
  have rg5 := rt_of_own9 og
  have rc5 := rc4.below' b5
  have rd5 := rd4.below' b5
  have B5 := B4.trans (b5.mono B4.size)
  clear of og re4 rc4 rd4 b5 B4
  go_wp2_with fail
  (with_reducible refine (refsIt_any _ pa _ rc5 (by omega)).mono ?_); rintro e w6 ⟨vh, rfl, oh, b6⟩
  have rh6 := rt_of_own9 oh
  have rf6 := rf5.below' b6
  have rg6 := rg5.below' b6
  have rd6 := rd5.below' b6
  have B6 := B5.trans (b6.mono B5.size)
  clear oh rc5 rf5 rg5 rd5 b6 B5
  go_wp2_with fail
  (with_reducible refine (sameIt_any _ _ pa pa _ rh6 rf6 (by omega) (by omega)).mono ?_); rintro e w7 ⟨rfl, b7⟩
  rw [show (pa == pa) = true by simp]
  have rg7 := rg6.below' b7
  have rd7 := rd6.below' b7
  have B7 := B6.trans (b7.mono B6.size)
  clear rh6 rf6 rg6 rd6 b7 B6
  go_wp2_with fail
  (with_reducible refine (notes_any _ _ pb pb _ rd7 rg7 (by omega) (by omega)).mono ?_); rintro e w8 ⟨rfl, b8⟩
  rw [show (pb == pb) = true by simp]
  have B8 := B7.trans (b8.mono B7.size)
  clear rg7 rd7 b8 B7
  go_wp2_with fail
  (with_reducible refine (itFixed_any _).mono ?_); rintro e wh ⟨rfl, bh⟩
  go_wp2_with fail
  go_ret
  exact ⟨rfl, B8.trans (bh.mono B8.size)⟩

end Go.Proofs.Ytcdclkgfgieppaa
