
/- 'class', 'may' and 'Right', of the lexer and of its reference, walked. -/
import Derived.Test.YtkbdfckmmjkghaaLexText
namespace Go.Proofs.Ytkbdfckmmjkghaa
open Go.RowKit

/-- A kind, but that both blanks are one. -/
def classI (k : Int) : Int := if k = 3 then 2 else k
theorem classI_3 {k : Int} (h : (k == 3) = true) : classI k = 2 := by simp at h; simp [classI, h]
theorem classI_no {k : Int} (h : (k == 3) = false) : classI k = k := by simp at h; simp [classI, h]

theorem class_any (t : Lx.Tok) (w : World) :
    Calls Try.prog 30 #[.agg #[.int .i64 t.1, .string (S t.2)]] w fun e w' => e = .returned (.int .i64 (classI t.1)) ∧ Below w.heap.size w w' := by
  cases h3 : (t.1 == 3)
  · have H := Lib.hid (classI_no h3)
    go_enter Try.func30, Try.ntmps30
    go_wp2
    go_ret
    exact ⟨by rw [H.out]; rfl, (Below.refl _ _).alloc (Nat.le_refl _) _⟩
  · have H := Lib.hid (classI_3 h3)
    go_enter Try.func30, Try.ntmps30
    go_wp2
    go_ret
    exact ⟨by rw [H.out]; rfl, (Below.refl _ _).alloc (Nat.le_refl _) _⟩

theorem run_eql_tok (a b : Int) (s t : List UInt8) (w : World) : (binOp .eql 37 (.agg #[.int .i64 a, .string (S s)]) (.agg #[.int .i64 b, .string (S t)])).run Try.prog w = .ok (.bool (a == b && s == t)) w := by
  by_cases h : a = b <;> by_cases h2 : s = t <;> simp [go_sem, h, h2]

set_option maxHeartbeats 800000 in
/-- 'may': may a token be by itself? -/
theorem may_any (t : Lx.Tok) (hs : t.2.length ≤ 1000000000) (w : World) :
    Calls Try.prog 31 #[.agg #[.int .i64 t.1, .string (S t.2)]] w fun e w' => e = .returned (.bool (Lx.may t)) ∧ Below w.heap.size w w' := by
  rcases seven t.1 with t1 | ⟨t1, t2⟩ | ⟨t1, t2, t3⟩ | ⟨t1, t2, t3, t4⟩ | ⟨t1, t2, t3, t4, t5⟩ | ⟨t1, t2, t3, t4, t5, t6⟩ | ⟨t1, t2, t3, t4, t5, t6, t7⟩ | ⟨t1, t2, t3, t4, t5, t6, t7⟩
  · have H : Hid (Lx.may t = !t.2.isEmpty) := by show _ = _; simp only [Lx.may, beq_iff_eq.1 t1]; rfl
    go_enter Try.func31, Try.ntmps31
    go_wp2_with fail
    go_ret
    exact ⟨ret_bool H.out.symm, (Below.refl _ _).alloc (Nat.le_refl _) _⟩
  · (have H : Hid (Lx.may t = t.2.isEmpty) := (by show _ = _; simp only [Lx.may, beq_iff_eq.1 t2]; rfl)); (have he := run_eql_tok); (cases hem : t.2.isEmpty <;> (go_enter Try.func31, Try.ntmps31; go_wp2_with fail; go_ret; exact ⟨ret_bool (by rw [H.out, hem]), (Below.refl _ _).alloc (Nat.le_refl _) _⟩))
  · (have H : Hid (Lx.may t = t.2.isEmpty) := (by show _ = _; simp only [Lx.may, beq_iff_eq.1 t3]; rfl)); (have he := run_eql_tok); (cases hem : t.2.isEmpty <;> (go_enter Try.func31, Try.ntmps31; go_wp2_with fail; go_ret; exact ⟨ret_bool (by rw [H.out, hem]), (Below.refl _ _).alloc (Nat.le_refl _) _⟩))
  · have H : Hid (Lx.may t = (t.2.all Lx.letter && !t.2.isEmpty)) := by show _ = _; simp only [Lx.may, beq_iff_eq.1 t4]; rfl
    go_enter Try.func31, Try.ntmps31
    go_wp2_with fail
    go_loop [16] (fun i => ∃ j : Nat, j ≤ t.2.length ∧ i = .int .i64 j ∧ Hid ((t.2.drop j).all Lx.letter = t.2.all Lx.letter)) (fun i => t.2.length - (intOf i).toNat)
    case atStart => exact ⟨0, by omega, rfl, rfl⟩
    case round =>
      obtain ⟨j, hj, rfl, HG⟩ := hrel
      by_cases hlt : j < t.2.length
      · cases hl : Lx.letter t.2[j]
        · have HX : Hid (t.2.all Lx.letter = false) := by show _ = _; rw [← HG.out, drop_at hlt, List.all_cons, hl, Bool.false_and]
          go_wp2_with (first | (go_at_call 32; (with_reducible refine (letter_any _ _).mono ?_); rintro e w' ⟨rfl, rfl⟩))
          go_ret
          exact ⟨ret_bool (by rw [H.out, HX.out]; rfl), (Below.refl _ _).alloc (Nat.le_refl _) _⟩
        · have HX : Hid ((t.2.drop (j + 1)).all Lx.letter = t.2.all Lx.letter) := by show _ = _; rw [← HG.out, drop_at hlt, List.all_cons, hl, Bool.true_and]
          go_wp2_with (first | (go_at_call 32; (with_reducible refine (letter_any _ _).mono ?_); rintro e w' ⟨rfl, rfl⟩))
          go_round
          case rel => exact ⟨j + 1, by omega, by go_num, HX⟩
          case measure => simp [intOf]; omega
      · obtain rfl : j = t.2.length := by omega
        have HX : Hid (t.2.all Lx.letter = true) := by show _ = _; rw [← HG.out, List.drop_length]; rfl
        go_wp2_with fail
        go_ret
        exact ⟨ret_bool (by rw [H.out, HX.out]; rfl), (Below.refl _ _).alloc (Nat.le_refl _) _⟩
  · (have H : Hid (Lx.may t = t.2.isEmpty) := (by show _ = _; simp only [Lx.may, beq_iff_eq.1 t5]; rfl)); (have he := run_eql_tok); (cases hem : t.2.isEmpty <;> (go_enter Try.func31, Try.ntmps31; go_wp2_with fail; go_ret; exact ⟨ret_bool (by rw [H.out, hem]), (Below.refl _ _).alloc (Nat.le_refl _) _⟩))
  · (have H : Hid (Lx.may t = t.2.isEmpty) := (by show _ = _; simp only [Lx.may, beq_iff_eq.1 t6]; rfl)); (have he := run_eql_tok); (cases hem : t.2.isEmpty <;> (go_enter Try.func31, Try.ntmps31; go_wp2_with fail; go_ret; exact ⟨ret_bool (by rw [H.out, hem]), (Below.refl _ _).alloc (Nat.le_refl _) _⟩))
  · have H : Hid (Lx.may t = (match t.2 with | [c] => Lx.digit c | _ => false)) := by show _ = _; simp only [Lx.may, beq_iff_eq.1 t7]; rfl
    by_cases h1 : t.2.length = 1
    · have h0 : 0 < t.2.length := by omega
      have H2 : Hid (Lx.may t = Lx.digit (t.2[0]'h0)) := by
        show _ = _
        obtain ⟨c, hc⟩ := List.length_eq_one_iff.1 h1
        rw [H.out]; simp [hc]
      have e1 : ((t.2.length : Int) == 1) = true := by rw [beq_iff_eq]; omega
      have h00 : (0 : Int) < (t.2.length : Int) := by omega
      clear h1
      go_enter Try.func31, Try.ntmps31
      go_wp2_with (first | (go_at_call 45; (with_reducible refine (digit_any _ _).mono ?_); rintro e w' ⟨rfl, rfl⟩))
      go_ret
      exact ⟨ret_bool H2.out.symm, (Below.refl _ _).alloc (Nat.le_refl _) _⟩
    · have H2 : Hid (Lx.may t = false) := by
        show _ = _
        rw [H.out]
        split
        · rename_i c hc; rw [hc] at h1; simp at h1
        · rfl
      have e1 : ((t.2.length : Int) == 1) = false := by rw [beq_eq_false_iff_ne]; omega
      clear h1
      go_enter Try.func31, Try.ntmps31
      go_wp2_with (first | (go_at_call 45; (with_reducible refine (digit_any _ _).mono ?_); rintro e w' ⟨rfl, rfl⟩))
      go_ret
      exact ⟨ret_bool H2.out.symm, (Below.refl _ _).alloc (Nat.le_refl _) _⟩
  · have H : Hid (Lx.may t = false) := by
      show _ = _
      simp only [beq_eq_false_iff_ne] at t1 t2 t3 t4 t5 t6 t7
      simp [Lx.may, *]
    have he := run_eql_tok
    go_enter Try.func31, Try.ntmps31
    go_wp2_with fail
    all_goals (go_ret; exact ⟨ret_bool (by rw [H.out]), (Below.refl _ _).alloc (Nat.le_refl _) _⟩)

theorem gaps_any (k : Int) (w : World) :
    Calls Try.prog 34 #[.int .i64 k] w fun e w' => e = .returned (.bool (Lx.gaps k)) ∧ w = w' := by
  have H : Hid (Lx.gaps k = (k == 2 || k == 3)) := rfl
  go_enter Try.func34, Try.ntmps34
  go_wp2
  all_goals (go_ret; exact ⟨ret_bool (by rw [H.out]; try simp [*]), rfl⟩)

set_option maxHeartbeats 800000 in
/-- The reference's 'May'. -/
theorem refMay_any (t : Lx.Tok) (hs : t.2.length ≤ 1000000000) (w : World) :
    Calls Try.prog 33 #[.agg #[.int .i64 t.1, .string (S t.2)]] w fun e w' => e = .returned (.bool (Lx.may t)) ∧ Below w.heap.size w w' := by
  have hpos : ∀ b, t.2.isEmpty = b → Hid (decide (0 < t.2.length) = !b) := fun b h => by
    show _ = _
    rw [← h]
    cases hl : t.2 with
    | nil => rfl
    | cons c r => simp
  have HPOS := Lib.hid hpos
  clear hpos
  rcases seven t.1 with t1 | ⟨t1, t2⟩ | ⟨t1, t2, t3⟩ | ⟨t1, t2, t3, t4⟩ | ⟨t1, t2, t3, t4, t5⟩ | ⟨t1, t2, t3, t4, t5, t6⟩ | ⟨t1, t2, t3, t4, t5, t6, t7⟩ | ⟨t1, t2, t3, t4, t5, t6, t7⟩
  · have H : Hid (Lx.may t = !t.2.isEmpty) := by show _ = _; simp only [Lx.may, beq_iff_eq.1 t1]; rfl
    have hd := (HPOS.out _ rfl).out
    have HD := Lib.hid hd
    clear hd
    go_enter Try.func33, Try.ntmps33
    go_wp2_with fail
    all_goals (go_ret; exact ⟨ret_bool (by rw [H.out, ← HD.out]), (Below.refl _ _).alloc (Nat.le_refl _) _⟩)
  · (have H : Hid (Lx.may t = t.2.isEmpty) := (by show _ = _; simp only [Lx.may, beq_iff_eq.1 t2]; rfl)); (cases hem : t.2.isEmpty <;> (go_enter Try.func33, Try.ntmps33; go_wp2_with fail; go_ret; exact ⟨ret_bool (by rw [H.out, hem]), (Below.refl _ _).alloc (Nat.le_refl _) _⟩))
  · (have H : Hid (Lx.may t = t.2.isEmpty) := (by show _ = _; simp only [Lx.may, beq_iff_eq.1 t3]; rfl)); (cases hem : t.2.isEmpty <;> (go_enter Try.func33, Try.ntmps33; go_wp2_with fail; go_ret; exact ⟨ret_bool (by rw [H.out, hem]), (Below.refl _ _).alloc (Nat.le_refl _) _⟩))
  · have H : Hid (Lx.may t = (t.2.all Lx.letter && !t.2.isEmpty)) := by show _ = _; simp only [Lx.may, beq_iff_eq.1 t4]; rfl
    have hd := (HPOS.out _ rfl).out
    have HD := Lib.hid hd
    clear hd
    go_enter Try.func33, Try.ntmps33
    go_wp2_with fail
    go_loop [3] (fun i => ∃ j : Nat, j ≤ t.2.length ∧ i = .int .i64 j ∧ Hid ((t.2.drop j).all Lx.letter = t.2.all Lx.letter)) (fun i => t.2.length - (intOf i).toNat)
    case atStart => exact ⟨0, by omega, rfl, rfl⟩
    case round =>
      obtain ⟨j, hj, rfl, HG⟩ := hrel
      by_cases hlt : j < t.2.length
      · cases hl : Lx.letter t.2[j]
        · have HX : Hid (t.2.all Lx.letter = false) := by show _ = _; rw [← HG.out, drop_at hlt, List.all_cons, hl, Bool.false_and]
          go_wp2_with (first | (go_at_call 24; (with_reducible refine (refLetter_any _ _).mono ?_); rintro e w' ⟨rfl, rfl⟩))
          go_ret
          exact ⟨ret_bool (by rw [H.out, HX.out]; rfl), (Below.refl _ _).alloc (Nat.le_refl _) _⟩
        · have HX : Hid ((t.2.drop (j + 1)).all Lx.letter = t.2.all Lx.letter) := by show _ = _; rw [← HG.out, drop_at hlt, List.all_cons, hl, Bool.true_and]
          go_wp2_with (first | (go_at_call 24; (with_reducible refine (refLetter_any _ _).mono ?_); rintro e w' ⟨rfl, rfl⟩))
          go_round
          case rel => exact ⟨j + 1, by omega, by go_num, HX⟩
          case measure => simp [intOf]; omega
      · obtain rfl : j = t.2.length := by omega
        have HX : Hid (t.2.all Lx.letter = true) := by show _ = _; rw [← HG.out, List.drop_length]; rfl
        go_wp2_with fail
        all_goals (go_ret; exact ⟨ret_bool (by rw [H.out, HX.out, Bool.true_and, ← HD.out]), (Below.refl _ _).alloc (Nat.le_refl _) _⟩)
  · (have H : Hid (Lx.may t = t.2.isEmpty) := (by show _ = _; simp only [Lx.may, beq_iff_eq.1 t5]; rfl)); (cases hem : t.2.isEmpty <;> (go_enter Try.func33, Try.ntmps33; go_wp2_with fail; go_ret; exact ⟨ret_bool (by rw [H.out, hem]), (Below.refl _ _).alloc (Nat.le_refl _) _⟩))
  · (have H : Hid (Lx.may t = t.2.isEmpty) := (by show _ = _; simp only [Lx.may, beq_iff_eq.1 t6]; rfl)); (cases hem : t.2.isEmpty <;> (go_enter Try.func33, Try.ntmps33; go_wp2_with fail; go_ret; exact ⟨ret_bool (by rw [H.out, hem]), (Below.refl _ _).alloc (Nat.le_refl _) _⟩))
  · have H : Hid (Lx.may t = (match t.2 with | [c] => Lx.digit c | _ => false)) := by show _ = _; simp only [Lx.may, beq_iff_eq.1 t7]; rfl
    by_cases h1 : t.2.length = 1
    · have h0 : 0 < t.2.length := by omega
      have H2 : Hid (Lx.may t = Lx.digit (t.2[0]'h0)) := by
        show _ = _
        obtain ⟨c, hc⟩ := List.length_eq_one_iff.1 h1
        rw [H.out]; simp [hc]
      have e1 : ((t.2.length : Int) == 1) = true := by rw [beq_iff_eq]; omega
      have h00 : (0 : Int) < (t.2.length : Int) := by omega
      clear h1
      go_enter Try.func33, Try.ntmps33
      go_wp2_with (first | (go_at_call 41; (with_reducible refine (refDigit_any _ _).mono ?_); rintro e w' ⟨rfl, rfl⟩))
      go_ret
      exact ⟨ret_bool H2.out.symm, (Below.refl _ _).alloc (Nat.le_refl _) _⟩
    · have H2 : Hid (Lx.may t = false) := by
        show _ = _
        rw [H.out]
        split
        · rename_i c hc; rw [hc] at h1; simp at h1
        · rfl
      have e1 : ((t.2.length : Int) == 1) = false := by rw [beq_eq_false_iff_ne]; omega
      clear h1
      go_enter Try.func33, Try.ntmps33
      go_wp2_with (first | (go_at_call 41; (with_reducible refine (refDigit_any _ _).mono ?_); rintro e w' ⟨rfl, rfl⟩))
      go_ret
      exact ⟨ret_bool H2.out.symm, (Below.refl _ _).alloc (Nat.le_refl _) _⟩
  · have H : Hid (Lx.may t = false) := by
      show _ = _
      simp only [beq_eq_false_iff_ne] at t1 t2 t3 t4 t5 t6 t7
      simp [Lx.may, *]
    go_enter Try.func33, Try.ntmps33
    go_wp2_with fail
    all_goals (go_ret; exact ⟨ret_bool (by rw [H.out]), (Below.refl _ _).alloc (Nat.le_refl _) _⟩)

theorem joins_eq (a b : Lx.Tok) : Lx.joins b a = !((classI a.1 == classI b.1 && (classI a.1 == 1 || classI a.1 == 2)) || (classI a.1 == 1 && b.1 == 4 && Lx.letter (a.2.headD 0))) := by
  obtain ⟨x, s⟩ := a
  obtain ⟨y, t⟩ := b
  simp only [Lx.joins, Lx.gaps, classI]
  generalize Lx.letter (s.headD 0) = c
  have e : ∀ a b : Int, a ≠ b → (a == b) = false := fun a b h => by simpa using h
  rcases (by omega : x = 1 ∨ x = 2 ∨ x = 3 ∨ (x ≠ 1 ∧ x ≠ 2 ∧ x ≠ 3)) with rfl | rfl | rfl | ⟨h1, h2, h3⟩ <;>
  rcases (by omega : y = 1 ∨ y = 2 ∨ y = 3 ∨ y = 4 ∨ (y ≠ 1 ∧ y ≠ 2 ∧ y ≠ 3 ∧ y ≠ 4 ∧ 1 ≠ y ∧ 2 ≠ y)) with rfl | rfl | rfl | rfl | ⟨g1, g2, g3, g4, g5, g6⟩ <;> simp [*]


set_option maxHeartbeats 1600000 in
/-- 'Right'. -/
theorem right_any (v : Value) (l : List Lx.Tok) (w : World) (hl : Rt w v l) (hlen : l.length ≤ 1000000000) (hs : ∀ t ∈ l, t.2.length ≤ 1000000000) :
    Calls Try.prog 16 #[v] w fun e w' => e = .returned (.bool (Lx.right l)) ∧ Below w.heap.size w w' := by
  obtain ⟨a0, c0, rfl⟩ := hl.shape
  go_enter Try.func16, Try.ntmps16
  go_wp2_with fail
  go_loopw [10] (fun i wr => ∃ (j : Nat) (last : Lx.Tok), j ≤ l.length ∧ i = .int .i64 j ∧ Hid (wr.heap[w.heap.size]? = some (.cells #[.int .i64 last.1, .string (S last.2)] 37 (0, 0))) ∧ Hid (Lx.rightF last (l.drop j) = Lx.right l) ∧ Below w.heap.size w wr) (fun i _ => l.length - (intOf i).toNat)
  case atStart => exact ⟨0, (0, []), by omega, rfl, heap_alloc_new _ _, rfl, (Below.refl _ _).alloc (Nat.le_refl _) _⟩
  case round =>
    obtain ⟨j, last, hj, rfl, HLAST, HG, hbw⟩ := hrel
    have hsz := hbw.size
    have hlast := HLAST.out
    have hlt0 := pair_lt hlast
    by_cases hlt : j < l.length
    · have hs1 := hs _ (List.getElem_mem hlt)
      obtain ⟨b1, o1, rfl, c10, c11⟩ := (hl.below' hbw).at hlt
      have HR : Hid ((Lx.may l[j] && Lx.joins last l[j] && Lx.rightF l[j] (l.drop (j + 1))) = Lx.right l) := by
        show _ = _; rw [← HG.out, drop_at hlt]; rfl
      have HJ := Lib.hid (joins_eq l[j] last)
      have tok1 : True := trivial
      clear hl hs
      cases hm : Lx.may l[j]
      · have hx : Lx.right l = false := by rw [← HR.out, hm]; rfl
        have HX := Lib.hid hx
        clear hx
        go_wp2_with (first | (go_at_call 30; have _t := tok1; (with_reducible refine (class_any _ _).mono ?_); rintro e w1 ⟨rfl, hb1⟩; clear tok1 _t; obtain ⟨hp1, hbb1⟩ := below_pair hb1; have hl1 := (hbb1.block _ hlt0).trans hlast; have q10 := pair_cell0 hp1; have q11 := pair_cell1 hp1; have HP1 := Lib.hid hp1; have HL1 := Lib.hid hl1; have HB1 := Lib.hid hbb1; have hz1 := pair_lt hp1; have hy1 := pair_lt hl1; clear hb1 hp1 hl1 hbb1) | (go_at_call 31; (with_reducible refine (may_any _ hs1 _).mono ?_); rintro e w2 ⟨rfl, hb2⟩; have hp2 := (hb2.block _ hz1).trans HP1.out; have hl2 := (hb2.block _ hy1).trans HL1.out; have q20 := pair_cell0 hp2; have q21 := pair_cell1 hp2; have r20 := pair_cell0 hl2; have r21 := pair_cell1 hl2; have HP2 := Lib.hid hp2; have HL2 := Lib.hid hl2; have HB2 := Lib.hid (HB1.out.trans (hb2.mono (Nat.le_of_lt hz1))); have hz2 := pair_lt hp2; have hy2 := pair_lt hl2; clear hb2 hp2 hl2) | (go_at_call 30; (with_reducible refine (class_any _ _).mono ?_); rintro e w3 ⟨rfl, hb3⟩; have hp3 := (hb3.block _ hz2).trans HP2.out; have hl3 := (hb3.block _ hy2).trans HL2.out; have q30 := pair_cell0 hp3; have q31 := pair_cell1 hp3; have r30 := pair_cell0 hl3; have r31 := pair_cell1 hl3; have f30 := pair_free hl3 0; have f31 := pair_free hl3 1; have HS3 := Lib.hid (pair_set hl3 (.int .i64 l[j].1) (.string (S l[j].2))); have HB3 := Lib.hid (HB2.out.trans (hb3.mono (Nat.le_of_lt hz2))); clear hb3 hp3 hl3))
        go_ret
        exact ⟨ret_bool HX.out.symm, hbw.trans (HB2.out.mono hsz)⟩
      · cases hc1 : (classI l[j].1 == 1)
        · cases hce : (classI l[j].1 == classI last.1)
          · have HR2 : Hid (Lx.rightF l[j] (l.drop (j + 1)) = Lx.right l) := by show _ = _; rw [← HR.out, hm, HJ.out, hc1, hce]; simp
            go_wp2_with (first | (go_at_call 30; have _t := tok1; (with_reducible refine (class_any _ _).mono ?_); rintro e w1 ⟨rfl, hb1⟩; clear tok1 _t; obtain ⟨hp1, hbb1⟩ := below_pair hb1; have hl1 := (hbb1.block _ hlt0).trans hlast; have q10 := pair_cell0 hp1; have q11 := pair_cell1 hp1; have HP1 := Lib.hid hp1; have HL1 := Lib.hid hl1; have HB1 := Lib.hid hbb1; have hz1 := pair_lt hp1; have hy1 := pair_lt hl1; clear hb1 hp1 hl1 hbb1) | (go_at_call 31; (with_reducible refine (may_any _ hs1 _).mono ?_); rintro e w2 ⟨rfl, hb2⟩; have hp2 := (hb2.block _ hz1).trans HP1.out; have hl2 := (hb2.block _ hy1).trans HL1.out; have q20 := pair_cell0 hp2; have q21 := pair_cell1 hp2; have r20 := pair_cell0 hl2; have r21 := pair_cell1 hl2; have HP2 := Lib.hid hp2; have HL2 := Lib.hid hl2; have HB2 := Lib.hid (HB1.out.trans (hb2.mono (Nat.le_of_lt hz1))); have hz2 := pair_lt hp2; have hy2 := pair_lt hl2; clear hb2 hp2 hl2) | (go_at_call 30; (with_reducible refine (class_any _ _).mono ?_); rintro e w3 ⟨rfl, hb3⟩; have hp3 := (hb3.block _ hz2).trans HP2.out; have hl3 := (hb3.block _ hy2).trans HL2.out; have q30 := pair_cell0 hp3; have q31 := pair_cell1 hp3; have r30 := pair_cell0 hl3; have r31 := pair_cell1 hl3; have f30 := pair_free hl3 0; have f31 := pair_free hl3 1; have HS3 := Lib.hid (pair_set hl3 (.int .i64 l[j].1) (.string (S l[j].2))); have HB3 := Lib.hid (HB2.out.trans (hb3.mono (Nat.le_of_lt hz2))); clear hb3 hp3 hl3) | (go_at_call 32; (with_reducible refine (letter_any _ _).mono ?_); rintro e w' ⟨rfl, rfl⟩))
            go_roundw
            case rel => exact ⟨j + 1, l[j], by omega, by go_num, HS3, HR2, below_setCell2 (hbw.trans (HB3.out.mono hsz)) (Nat.le_refl _) _ _ _ _⟩
            case measure => simp [intOf]; omega
          · cases hc2 : (classI l[j].1 == 2)
            · have HR2 : Hid (Lx.rightF l[j] (l.drop (j + 1)) = Lx.right l) := by show _ = _; rw [← HR.out, hm, HJ.out, hc1, hce, hc2]; simp
              go_wp2_with (first | (go_at_call 30; have _t := tok1; (with_reducible refine (class_any _ _).mono ?_); rintro e w1 ⟨rfl, hb1⟩; clear tok1 _t; obtain ⟨hp1, hbb1⟩ := below_pair hb1; have hl1 := (hbb1.block _ hlt0).trans hlast; have q10 := pair_cell0 hp1; have q11 := pair_cell1 hp1; have HP1 := Lib.hid hp1; have HL1 := Lib.hid hl1; have HB1 := Lib.hid hbb1; have hz1 := pair_lt hp1; have hy1 := pair_lt hl1; clear hb1 hp1 hl1 hbb1) | (go_at_call 31; (with_reducible refine (may_any _ hs1 _).mono ?_); rintro e w2 ⟨rfl, hb2⟩; have hp2 := (hb2.block _ hz1).trans HP1.out; have hl2 := (hb2.block _ hy1).trans HL1.out; have q20 := pair_cell0 hp2; have q21 := pair_cell1 hp2; have r20 := pair_cell0 hl2; have r21 := pair_cell1 hl2; have HP2 := Lib.hid hp2; have HL2 := Lib.hid hl2; have HB2 := Lib.hid (HB1.out.trans (hb2.mono (Nat.le_of_lt hz1))); have hz2 := pair_lt hp2; have hy2 := pair_lt hl2; clear hb2 hp2 hl2) | (go_at_call 30; (with_reducible refine (class_any _ _).mono ?_); rintro e w3 ⟨rfl, hb3⟩; have hp3 := (hb3.block _ hz2).trans HP2.out; have hl3 := (hb3.block _ hy2).trans HL2.out; have q30 := pair_cell0 hp3; have q31 := pair_cell1 hp3; have r30 := pair_cell0 hl3; have r31 := pair_cell1 hl3; have f30 := pair_free hl3 0; have f31 := pair_free hl3 1; have HS3 := Lib.hid (pair_set hl3 (.int .i64 l[j].1) (.string (S l[j].2))); have HB3 := Lib.hid (HB2.out.trans (hb3.mono (Nat.le_of_lt hz2))); clear hb3 hp3 hl3) | (go_at_call 32; (with_reducible refine (letter_any _ _).mono ?_); rintro e w' ⟨rfl, rfl⟩))
              go_roundw
              case rel => exact ⟨j + 1, l[j], by omega, by go_num, HS3, HR2, below_setCell2 (hbw.trans (HB3.out.mono hsz)) (Nat.le_refl _) _ _ _ _⟩
              case measure => simp [intOf]; omega
            · have HX : Hid (Lx.right l = false) := by show _ = _; rw [← HR.out, hm, HJ.out, hc1, hce, hc2]; simp
              go_wp2_with (first | (go_at_call 30; have _t := tok1; (with_reducible refine (class_any _ _).mono ?_); rintro e w1 ⟨rfl, hb1⟩; clear tok1 _t; obtain ⟨hp1, hbb1⟩ := below_pair hb1; have hl1 := (hbb1.block _ hlt0).trans hlast; have q10 := pair_cell0 hp1; have q11 := pair_cell1 hp1; have HP1 := Lib.hid hp1; have HL1 := Lib.hid hl1; have HB1 := Lib.hid hbb1; have hz1 := pair_lt hp1; have hy1 := pair_lt hl1; clear hb1 hp1 hl1 hbb1) | (go_at_call 31; (with_reducible refine (may_any _ hs1 _).mono ?_); rintro e w2 ⟨rfl, hb2⟩; have hp2 := (hb2.block _ hz1).trans HP1.out; have hl2 := (hb2.block _ hy1).trans HL1.out; have q20 := pair_cell0 hp2; have q21 := pair_cell1 hp2; have r20 := pair_cell0 hl2; have r21 := pair_cell1 hl2; have HP2 := Lib.hid hp2; have HL2 := Lib.hid hl2; have HB2 := Lib.hid (HB1.out.trans (hb2.mono (Nat.le_of_lt hz1))); have hz2 := pair_lt hp2; have hy2 := pair_lt hl2; clear hb2 hp2 hl2) | (go_at_call 30; (with_reducible refine (class_any _ _).mono ?_); rintro e w3 ⟨rfl, hb3⟩; have hp3 := (hb3.block _ hz2).trans HP2.out; have hl3 := (hb3.block _ hy2).trans HL2.out; have q30 := pair_cell0 hp3; have q31 := pair_cell1 hp3; have r30 := pair_cell0 hl3; have r31 := pair_cell1 hl3; have f30 := pair_free hl3 0; have f31 := pair_free hl3 1; have HS3 := Lib.hid (pair_set hl3 (.int .i64 l[j].1) (.string (S l[j].2))); have HB3 := Lib.hid (HB2.out.trans (hb3.mono (Nat.le_of_lt hz2))); clear hb3 hp3 hl3) | (go_at_call 32; (with_reducible refine (letter_any _ _).mono ?_); rintro e w' ⟨rfl, rfl⟩))
              go_ret
              exact ⟨ret_bool HX.out.symm, hbw.trans (HB3.out.mono hsz)⟩
        · have hne : 0 < l[j].2.length := by
            rw [beq_iff_eq] at hc1
            have h1 : l[j].1 = 1 := by unfold classI at hc1; split at hc1 <;> omega
            simp only [Lx.may, h1] at hm
            cases hl2 : l[j].2 with
            | nil => rw [hl2] at hm; simp at hm
            | cons c r => simp
          have hne2 : (0 : Int) < (l[j].2.length : Int) := by omega
          have HH : Hid (l[j].2.headD 0 = l[j].2[0]'hne) := by
            show _ = _
            generalize l[j].2 = z at hne
            cases z with
            | nil => simp at hne
            | cons c r => rfl
          have HJ2 : Hid (Lx.joins last l[j] = !((classI l[j].1 == classI last.1 && (classI l[j].1 == 1 || classI l[j].1 == 2)) || (classI l[j].1 == 1 && last.1 == 4 && Lx.letter (l[j].2[0]'hne)))) := by
            have := HJ.out; rw [HH.out] at this; exact this
          have HJ := HJ2
          cases hce : (classI l[j].1 == classI last.1)
          · cases hk4 : (last.1 == 4)
            · have HR2 : Hid (Lx.rightF l[j] (l.drop (j + 1)) = Lx.right l) := by show _ = _; rw [← HR.out, hm, HJ.out, hc1, hce, hk4]; simp
              go_wp2_with (first | (go_at_call 30; have _t := tok1; (with_reducible refine (class_any _ _).mono ?_); rintro e w1 ⟨rfl, hb1⟩; clear tok1 _t; obtain ⟨hp1, hbb1⟩ := below_pair hb1; have hl1 := (hbb1.block _ hlt0).trans hlast; have q10 := pair_cell0 hp1; have q11 := pair_cell1 hp1; have HP1 := Lib.hid hp1; have HL1 := Lib.hid hl1; have HB1 := Lib.hid hbb1; have hz1 := pair_lt hp1; have hy1 := pair_lt hl1; clear hb1 hp1 hl1 hbb1) | (go_at_call 31; (with_reducible refine (may_any _ hs1 _).mono ?_); rintro e w2 ⟨rfl, hb2⟩; have hp2 := (hb2.block _ hz1).trans HP1.out; have hl2 := (hb2.block _ hy1).trans HL1.out; have q20 := pair_cell0 hp2; have q21 := pair_cell1 hp2; have r20 := pair_cell0 hl2; have r21 := pair_cell1 hl2; have HP2 := Lib.hid hp2; have HL2 := Lib.hid hl2; have HB2 := Lib.hid (HB1.out.trans (hb2.mono (Nat.le_of_lt hz1))); have hz2 := pair_lt hp2; have hy2 := pair_lt hl2; clear hb2 hp2 hl2) | (go_at_call 30; (with_reducible refine (class_any _ _).mono ?_); rintro e w3 ⟨rfl, hb3⟩; have hp3 := (hb3.block _ hz2).trans HP2.out; have hl3 := (hb3.block _ hy2).trans HL2.out; have q30 := pair_cell0 hp3; have q31 := pair_cell1 hp3; have r30 := pair_cell0 hl3; have r31 := pair_cell1 hl3; have f30 := pair_free hl3 0; have f31 := pair_free hl3 1; have HS3 := Lib.hid (pair_set hl3 (.int .i64 l[j].1) (.string (S l[j].2))); have HB3 := Lib.hid (HB2.out.trans (hb3.mono (Nat.le_of_lt hz2))); clear hb3 hp3 hl3) | (go_at_call 32; (with_reducible refine (letter_any _ _).mono ?_); rintro e w' ⟨rfl, rfl⟩))
              go_roundw
              case rel => exact ⟨j + 1, l[j], by omega, by go_num, HS3, HR2, below_setCell2 (hbw.trans (HB3.out.mono hsz)) (Nat.le_refl _) _ _ _ _⟩
              case measure => simp [intOf]; omega
            · cases hlt2 : Lx.letter (l[j].2[0]'hne)
              · have HR2 : Hid (Lx.rightF l[j] (l.drop (j + 1)) = Lx.right l) := by show _ = _; rw [← HR.out, hm, HJ.out, hc1, hce, hk4, hlt2]; simp
                go_wp2_with (first | (go_at_call 30; have _t := tok1; (with_reducible refine (class_any _ _).mono ?_); rintro e w1 ⟨rfl, hb1⟩; clear tok1 _t; obtain ⟨hp1, hbb1⟩ := below_pair hb1; have hl1 := (hbb1.block _ hlt0).trans hlast; have q10 := pair_cell0 hp1; have q11 := pair_cell1 hp1; have HP1 := Lib.hid hp1; have HL1 := Lib.hid hl1; have HB1 := Lib.hid hbb1; have hz1 := pair_lt hp1; have hy1 := pair_lt hl1; clear hb1 hp1 hl1 hbb1) | (go_at_call 31; (with_reducible refine (may_any _ hs1 _).mono ?_); rintro e w2 ⟨rfl, hb2⟩; have hp2 := (hb2.block _ hz1).trans HP1.out; have hl2 := (hb2.block _ hy1).trans HL1.out; have q20 := pair_cell0 hp2; have q21 := pair_cell1 hp2; have r20 := pair_cell0 hl2; have r21 := pair_cell1 hl2; have HP2 := Lib.hid hp2; have HL2 := Lib.hid hl2; have HB2 := Lib.hid (HB1.out.trans (hb2.mono (Nat.le_of_lt hz1))); have hz2 := pair_lt hp2; have hy2 := pair_lt hl2; clear hb2 hp2 hl2) | (go_at_call 30; (with_reducible refine (class_any _ _).mono ?_); rintro e w3 ⟨rfl, hb3⟩; have hp3 := (hb3.block _ hz2).trans HP2.out; have hl3 := (hb3.block _ hy2).trans HL2.out; have q30 := pair_cell0 hp3; have q31 := pair_cell1 hp3; have r30 := pair_cell0 hl3; have r31 := pair_cell1 hl3; have f30 := pair_free hl3 0; have f31 := pair_free hl3 1; have HS3 := Lib.hid (pair_set hl3 (.int .i64 l[j].1) (.string (S l[j].2))); have HB3 := Lib.hid (HB2.out.trans (hb3.mono (Nat.le_of_lt hz2))); clear hb3 hp3 hl3) | (go_at_call 32; (with_reducible refine (letter_any _ _).mono ?_); rintro e w' ⟨rfl, rfl⟩))
                go_roundw
                case rel => exact ⟨j + 1, l[j], by omega, by go_num, HS3, HR2, below_setCell2 (hbw.trans (HB3.out.mono hsz)) (Nat.le_refl _) _ _ _ _⟩
                case measure => simp [intOf]; omega
              · have HX : Hid (Lx.right l = false) := by show _ = _; rw [← HR.out, hm, HJ.out, hc1, hce, hk4, hlt2]; simp
                go_wp2_with (first | (go_at_call 30; have _t := tok1; (with_reducible refine (class_any _ _).mono ?_); rintro e w1 ⟨rfl, hb1⟩; clear tok1 _t; obtain ⟨hp1, hbb1⟩ := below_pair hb1; have hl1 := (hbb1.block _ hlt0).trans hlast; have q10 := pair_cell0 hp1; have q11 := pair_cell1 hp1; have HP1 := Lib.hid hp1; have HL1 := Lib.hid hl1; have HB1 := Lib.hid hbb1; have hz1 := pair_lt hp1; have hy1 := pair_lt hl1; clear hb1 hp1 hl1 hbb1) | (go_at_call 31; (with_reducible refine (may_any _ hs1 _).mono ?_); rintro e w2 ⟨rfl, hb2⟩; have hp2 := (hb2.block _ hz1).trans HP1.out; have hl2 := (hb2.block _ hy1).trans HL1.out; have q20 := pair_cell0 hp2; have q21 := pair_cell1 hp2; have r20 := pair_cell0 hl2; have r21 := pair_cell1 hl2; have HP2 := Lib.hid hp2; have HL2 := Lib.hid hl2; have HB2 := Lib.hid (HB1.out.trans (hb2.mono (Nat.le_of_lt hz1))); have hz2 := pair_lt hp2; have hy2 := pair_lt hl2; clear hb2 hp2 hl2) | (go_at_call 30; (with_reducible refine (class_any _ _).mono ?_); rintro e w3 ⟨rfl, hb3⟩; have hp3 := (hb3.block _ hz2).trans HP2.out; have hl3 := (hb3.block _ hy2).trans HL2.out; have q30 := pair_cell0 hp3; have q31 := pair_cell1 hp3; have r30 := pair_cell0 hl3; have r31 := pair_cell1 hl3; have f30 := pair_free hl3 0; have f31 := pair_free hl3 1; have HS3 := Lib.hid (pair_set hl3 (.int .i64 l[j].1) (.string (S l[j].2))); have HB3 := Lib.hid (HB2.out.trans (hb3.mono (Nat.le_of_lt hz2))); clear hb3 hp3 hl3) | (go_at_call 32; (with_reducible refine (letter_any _ _).mono ?_); rintro e w' ⟨rfl, rfl⟩))
                go_ret
                exact ⟨ret_bool HX.out.symm, hbw.trans (HB3.out.mono hsz)⟩
          · have HX : Hid (Lx.right l = false) := by show _ = _; rw [← HR.out, hm, HJ.out, hc1, hce]; simp
            go_wp2_with (first | (go_at_call 30; have _t := tok1; (with_reducible refine (class_any _ _).mono ?_); rintro e w1 ⟨rfl, hb1⟩; clear tok1 _t; obtain ⟨hp1, hbb1⟩ := below_pair hb1; have hl1 := (hbb1.block _ hlt0).trans hlast; have q10 := pair_cell0 hp1; have q11 := pair_cell1 hp1; have HP1 := Lib.hid hp1; have HL1 := Lib.hid hl1; have HB1 := Lib.hid hbb1; have hz1 := pair_lt hp1; have hy1 := pair_lt hl1; clear hb1 hp1 hl1 hbb1) | (go_at_call 31; (with_reducible refine (may_any _ hs1 _).mono ?_); rintro e w2 ⟨rfl, hb2⟩; have hp2 := (hb2.block _ hz1).trans HP1.out; have hl2 := (hb2.block _ hy1).trans HL1.out; have q20 := pair_cell0 hp2; have q21 := pair_cell1 hp2; have r20 := pair_cell0 hl2; have r21 := pair_cell1 hl2; have HP2 := Lib.hid hp2; have HL2 := Lib.hid hl2; have HB2 := Lib.hid (HB1.out.trans (hb2.mono (Nat.le_of_lt hz1))); have hz2 := pair_lt hp2; have hy2 := pair_lt hl2; clear hb2 hp2 hl2) | (go_at_call 30; (with_reducible refine (class_any _ _).mono ?_); rintro e w3 ⟨rfl, hb3⟩; have hp3 := (hb3.block _ hz2).trans HP2.out; have hl3 := (hb3.block _ hy2).trans HL2.out; have q30 := pair_cell0 hp3; have q31 := pair_cell1 hp3; have r30 := pair_cell0 hl3; have r31 := pair_cell1 hl3; have f30 := pair_free hl3 0; have f31 := pair_free hl3 1; have HS3 := Lib.hid (pair_set hl3 (.int .i64 l[j].1) (.string (S l[j].2))); have HB3 := Lib.hid (HB2.out.trans (hb3.mono (Nat.le_of_lt hz2))); clear hb3 hp3 hl3) | (go_at_call 32; (with_reducible refine (letter_any _ _).mono ?_); rintro e w' ⟨rfl, rfl⟩))
            go_ret
            exact ⟨ret_bool HX.out.symm, hbw.trans (HB3.out.mono hsz)⟩
    · obtain rfl : j = l.length := by omega
      have HX : Hid (Lx.right l = true) := by show _ = _; rw [← HG.out, List.drop_length]; rfl
      clear hl hlast
      go_wp2_with fail
      go_ret
      exact ⟨ret_bool HX.out.symm, hbw⟩

end Go.Proofs.Ytkbdfckmmjkghaa
