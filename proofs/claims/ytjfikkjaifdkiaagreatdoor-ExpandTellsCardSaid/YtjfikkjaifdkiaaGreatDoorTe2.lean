/- Walks and plain laws, 2: The macro layer: 'of', 'Group', walked. No condition. What the lexer's functions compute, each walked once: blank, letter, digit, param, command. The contracts of strings.Builder (its methods that write, and String) and of strings.IndexByte: after the kit's worked proofs, at this program's numbers. The builder is one that the call itself has made. The lexer's 'blanks', 'word', 'one' and 'Lex', walked. The macro layer: squeezed texts; the program's walks and the reference's. No condition. The macro layer: flat texts; the program's walk and the reference's. No condition. The macro layer: what stands within groups, the program's and the reference's walks. No condition. The macro layer: lists of macros in memory; Clone, own; what a name is. No condition. The order of texts. No program in sight. No condition. The macro layer: names; where a macro is. No condition. -/
import Derived.Test.YtjfikkjaifdkiaaGreatDoorTe1
import Derived.Lib.SlBytesConst
import Derived.Test.YtjfikkjaifdkiaaGreatDoorProg
import Derived.BigQuiet
import Derived.Deep.QuietTactic
import Derived.Lib.Strings
import Derived.Lib.Slices
import Derived.Lib.Walk
import Derived.Lib.Builder
import Derived.Lib.AppendStr
import Derived.Lib.UnsafeStr
import Derived.Lib.MakeNoZero
import Derived.Laws.Externs
import Derived.Laws.IdiomCopy
import Derived.Laws.BitsLemmas
import Derived.RegionTactic
import Derived.ChangeAlike
import Derived.Lib.SlBytesRow
import Derived.Deep.DeepCutAuto
import Derived.Deep.CutBlock
import Derived.OwnWalk
namespace Go.Proofs.YtjfikkjaifdkiaaGreatDoor
open Go.RowKit

/-- A token as a value. -/
abbrev tv (t : Lx.Tok) : Value := .agg #[.int .i64 t.1, .string (S t.2)]

/-- 'of': is a token one of some kinds? -/
theorem of_any (t : Lx.Tok) (b o c : Nat) (zs : List Int) (w : World) (hbig : zs.length ≤ 1000000000) (hc : ∀ j, j < zs.length → w.cell? ⟨b, o + j, none⟩ = some (.int .i64 (zs.getD j 0))) :
    Calls Tryz.prog 111 #[tv t, .slice (some ⟨b, o, none⟩) zs.length c] w fun e w' => e = .returned (.bool (zs.contains t.1)) ∧ Below w.heap.size w w' := by
  go_enter Tryz.func111, Tryz.ntmps111
  go_wp2_with fail
  (with_reducible refine (Tryz.slices_Contains_int b o zs.length c zs t.1 _ (Nat.le_refl _) (by omega) (fun j hj => Go.Lib.cell?_alloc_marked _ (hc j hj))).mono ?_); rintro e w' ⟨rfl, rfl⟩
  rw [List.take_length]
  obtain ⟨q, hq⟩ : ∃ q, q = zs.contains t.1 := ⟨_, rfl⟩
  rw [← hq]
  go_wp2_with fail
  go_ret
  exact ⟨by rw [List.contains_eq_mem]; rfl, (Below.refl _ _).alloc (Nat.le_refl _) _⟩

/-- 'of' at one kind that the call has just laid. -/
theorem of1_any (t : Lx.Tok) (k : Int) (w : World) (b : Nat) (hb : b = w.heap.size) :
    Calls Tryz.prog 111 #[tv t, .slice (some ⟨b, 0, none⟩) 1 1] (w.alloc (.cells #[.int .i64 k] 3)) fun e w' => e = .returned (.bool (t.1 == k)) ∧ Below w.heap.size w w' := by
  subst hb
  refine (of_any t w.heap.size 0 1 [k] _ (by simp) (fun j hj => ?_)).mono fun e w' ⟨h1, h2⟩ => ⟨by rw [h1]; simp [List.contains, List.elem]; cases t.1 == k <;> rfl, ((Below.refl _ _).alloc (Nat.le_refl _) _).trans (h2.mono (by simp))⟩
  have : j = 0 := by simp at hj; omega
  subst this
  rw [cell_of_row _ w.heap.size _ _ 3 (0, 0) (heap_alloc_new w _)]
  rfl
theorem of2_any (t : Lx.Tok) (k m : Int) (w : World) (b : Nat) (hb : b = w.heap.size) :
    Calls Tryz.prog 111 #[tv t, .slice (some ⟨b, 0, none⟩) 2 2] (w.alloc (.cells #[.int .i64 k, .int .i64 m] 3)) fun e w' => e = .returned (.bool (t.1 == k || t.1 == m)) ∧ Below w.heap.size w w' := by
  subst hb
  refine (of_any t w.heap.size 0 2 [k, m] _ (by simp) (fun j hj => ?_)).mono fun e w' ⟨h1, h2⟩ => ⟨by rw [h1]; simp only [List.contains, List.elem]; cases t.1 == k <;> cases t.1 == m <;> rfl, ((Below.refl _ _).alloc (Nat.le_refl _) _).trans (h2.mono (by simp))⟩
  have : j = 0 ∨ j = 1 := by simp at hj; omega
  rcases this with rfl | rfl <;> (rw [cell_of_row _ w.heap.size _ _ 3 (0, 0) (heap_alloc_new w _)]; rfl)

theorem close_next2 {l : List Lx.Tok} {p k dd d2 : Nat} (h : p + k < l.length) (hc : Mx.close 0 (l.drop p) = (Mx.close dd (l.drop (p + k))).map (· + k)) (hs : Mx.step dd l[p + k] = d2) (hd : d2 ≠ 0) :
    Mx.close 0 (l.drop p) = (Mx.close d2 (l.drop (p + (k + 1)))).map (· + (k + 1)) := by
  rw [hc, drop_at h, Mx.close, hs, if_neg hd, Option.map_map]
  congr 1
  funext x
  simp; omega
theorem close_stop2 {l : List Lx.Tok} {p k dd : Nat} (h : p + k < l.length) (hc : Mx.close 0 (l.drop p) = (Mx.close dd (l.drop (p + k))).map (· + k)) (hs : Mx.step dd l[p + k] = 0) :
    Mx.close 0 (l.drop p) = some (1 + k) := by
  rw [hc, drop_at h, Mx.close, hs, if_pos rfl]; rfl

/-- How often each kind was met. -/
abbrev deep (A B : Nat) : Array Value := #[.int .i64 0, .int .i64 0, .int .i64 0, .int .i64 0, .int .i64 0, .int .i64 A, .int .i64 B, .int .i64 0]

set_option maxHeartbeats 1600000 in
theorem group_in (v : Value) (l : List Lx.Tok) (p : Nat) (w : World) (hl : Rt w v l) (hlen : l.length ≤ 1000000000) (hp : p ≤ l.length) :
    Calls Tryz.prog 118 #[v, .int .i64 (p : Int)] w fun e w' => e = .returned (.tuple #[.int .i64 (gres p (Mx.group (l.drop p))).1, .int .i64 (gres p (Mx.group (l.drop p))).2]) ∧ Below w.heap.size w w' := by
  obtain ⟨a0, c0, rfl⟩ := hl.shape
  by_cases hlt : p < l.length
  · obtain ⟨b1, o1, rfl, c10, c11⟩ := hl.at hlt
    have hbe : ((p : Int) == (l.length : Int)) = false := by simp; omega
    cases h5 : (l[p].1 == 5)
    · have h5' : ¬ l[p].1 = 5 := by simpa using h5
      have hg : Mx.group (l.drop p) = none := by rw [drop_at hlt, Mx.group, if_neg h5']
      rw [hg]
      clear hg h5' hl
      go_enter Tryz.func118, Tryz.ntmps118
      go_wp2_with fail
      (with_reducible refine (of1_any l[p] 5 w _ rfl).mono ?_); rintro e w1 ⟨rfl, b1⟩
      rw [h5]
      go_wp2_with fail
      go_ret2
      exact ⟨rfl, b1⟩
    · have h5' : l[p].1 = 5 := by simpa using h5
      have hg : Mx.group (l.drop p) = Mx.close 0 (l.drop p) := by rw [drop_at hlt, Mx.group, if_pos h5']
      rw [hg]
      clear hg
      have HR := Lib.hid h5'
      have hcap := Rd.cap hl
      clear h5'
      go_enter Tryz.func118, Tryz.ntmps118
      go_wp2_with fail
      (with_reducible refine (of1_any l[p] 5 w _ rfl).mono ?_); rintro e w1 ⟨rfl, b1⟩
      rw [h5]
      go_wp2_with fail
      clear c10 c11
      have hgw : w.heap.size ≤ w1.heap.size := b1.size
      go_loopw [35] (fun i wr => ∃ k A B : Nat, i = .int .i64 k ∧ k ≤ l.length - p ∧ B ≤ A ∧ A ≤ k ∧ (k = 0 ∨ B < A) ∧ Hid (Mx.close 0 (l.drop p) = (Mx.close (A - B) (l.drop (p + k))).map (· + k)) ∧ wr.heap[w1.heap.size]? = some (.cells (deep A B) 206 (0, 0)) ∧ Below w.heap.size w wr) (fun i _ => l.length - (intOf i).toNat)
      case atStart => exact ⟨0, 0, 0, rfl, Nat.zero_le _, Nat.le_refl _, Nat.le_refl _, .inl rfl, by simp [Hid], heap_alloc_new w1 _, b1.alloc hgw _⟩
      case round =>
        obtain ⟨k, A, B, rfl, hk, hBA, hAk, hor, HC, hrow, bw⟩ := hrel
        by_cases hlk : k < l.length - p
        · have hlk2 : p + k < l.length := by omega
          obtain ⟨b2, o2, hb2, c20, c21⟩ := (hl.below' bw).at hlk2
          cases hb2
          obtain ⟨z, s, hzs⟩ : ∃ z s, l[p + k] = (z, s) := ⟨_, _, rfl⟩
          rw [hzs] at c20 c21
          rw [show o1 + (p + k) * 2 = o1 + p * 2 + k * 2 by omega] at c20 c21
          clear hl
          go_wp2_with fail
          (with_reducible refine (of2_any (z, s) 5 6 _ _ (by simp)).mono ?_); rintro e w2 ⟨rfl, b2⟩
          have hrl := row_lt hrow
          have hr2 := (b2.block w1.heap.size (by simp; omega)).trans ((Below.heap_alloc wr _ w1.heap.size hrl).trans hrow)
          have ht2 := (b2.block wr.heap.size (by simp)).trans (heap_alloc_new wr _)
          have bw2 := bw.trans ((((Below.refl _ wr).alloc (Nat.le_refl _) _).trans (b2.mono (by simp))).mono bw.size)
          have c5 : w2.cell? ⟨wr.heap.size, 0, none⟩ = some (.int .i64 z) := row_cell ht2 0
          have d5 : w2.cell? ⟨w1.heap.size, 5, none⟩ = some (.int .i64 A) := row_cell hr2 5
          have d6 : w2.cell? ⟨w1.heap.size, 6, none⟩ = some (.int .i64 B) := row_cell hr2 6
          have f5 := row_free hr2 5
          have f6 := row_free hr2 6
          cases h5z : (z == 5)
          · cases h6z : (z == 6)
            · have hs : Mx.step (A - B) l[p + k] = A - B := by
                unfold Mx.step; rw [hzs, if_neg (by simpa using h5z), if_neg (by simpa using h6z)]
              have hd0 : B < A := by
                rcases hor with rfl | h
                · have := HR.out; rw [show l[p] = (z, s) from hzs] at this; simp only at this; simp [this] at h5z
                · exact h
              have HN := Lib.hid (close_next2 (p := p) hlk2 HC.out hs (by omega))
              go_wp2_with fail
              go_roundw
              case rel => exact ⟨k + 1, A, B, by go_num, by omega, hBA, by omega, .inr hd0, HN, hr2, bw2⟩
              case measure => simp [intOf]; omega
            · have hz6 : z = 6 := by simpa using h6z
              subst hz6
              have hs : Mx.step (A - B) l[p + k] = A - (B + 1) := by
                unfold Mx.step; rw [hzs, if_neg (by simp), if_pos rfl]; omega
              have hd0 : B < A := by
                rcases hor with rfl | h
                · have := HR.out; rw [show l[p] = (6, s) from hzs] at this; simp at this
                · exact h
              have bw3 := bw2.setCell (p := ⟨w1.heap.size, 6, none⟩) hgw (.int .i64 ((B : Int) + 1))
              have hr3 := row_set hr2 6 (.int .i64 ((B : Int) + 1))
              cases hbe2 : ((A : Int) == ((B : Int) + 1))
              · have hAB : A ≠ B + 1 := by intro e; rw [e] at hbe2; simp at hbe2
                have HN := Lib.hid (close_next2 (p := p) hlk2 HC.out hs (by omega))
                go_wp2_with fail
                go_roundw
                case rel => exact ⟨k + 1, A, B + 1, by go_num, by omega, by omega, by omega, .inr (by omega), HN, hr3, bw3⟩
                case measure => simp [intOf]; omega
              · have hAB : A = B + 1 := by have : (A : Int) = (B : Int) + 1 := by simpa using hbe2
                                           omega
                have HN := Lib.hid (close_stop2 (p := p) hlk2 HC.out (hs.trans (by omega)))
                go_wp2_with fail
                go_ret2
                exact ⟨ret_two (by rw [HN.out]; simp only [gres]; omega) (by rw [HN.out]; rfl), bw3⟩
          · have hz5 : z = 5 := by simpa using h5z
            subst hz5
            have hs : Mx.step (A - B) l[p + k] = A + 1 - B := by
              unfold Mx.step; rw [hzs, if_pos rfl]; omega
            have HN := Lib.hid (close_next2 (p := p) hlk2 HC.out hs (by omega))
            have hbe2 : (((A : Int) + 1) == (B : Int)) = false := by simp; omega
            have bw3 := bw2.setCell (p := ⟨w1.heap.size, 5, none⟩) hgw (.int .i64 ((A : Int) + 1))
            have hr3 := row_set hr2 5 (.int .i64 ((A : Int) + 1))
            go_wp2_with fail
            go_roundw
            case rel => exact ⟨k + 1, A + 1, B, by go_num, by omega, by omega, by omega, .inr (by omega), HN, hr3, bw3⟩
            case measure => simp [intOf]; omega
        · have hkl : p + k = l.length := by omega
          have h0 := HC.out
          rw [hkl, List.drop_length, Mx.close] at h0
          have HN := Lib.hid h0
          clear h0 hl
          go_wp2_with fail
          go_ret2
          exact ⟨ret_two (by rw [HN.out]; rfl) (by rw [HN.out]; rfl), bw⟩
  · have he : p = l.length := by omega
    have hg : Mx.group (l.drop p) = none := by rw [he, List.drop_length]; rfl
    rw [hg]
    have hbe : ((p : Int) == (l.length : Int)) = true := by simp; omega
    clear hg hl
    go_enter Tryz.func118, Tryz.ntmps118
    go_wp2_with fail
    go_ret2
    exact ⟨rfl, Below.refl _ _⟩

end Go.Proofs.YtjfikkjaifdkiaaGreatDoor

namespace Go.Proofs.YtjfikkjaifdkiaaGreatDoor
open Go.RowKit

def blankI (n : Int) : Bool := n == 32 || n == 9 || n == 10
def letterI (n : Int) : Bool := (decide (97 ≤ n) && decide (n ≤ 122)) || (decide (65 ≤ n) && decide (n ≤ 90))
def digitI (n : Int) : Bool := decide (49 ≤ n) && decide (n ≤ 57)
@[go_sem] theorem blankI_u8 (c : UInt8) : blankI (c.toNat : Int) = Lx.blank c := by simp [blankI, Lx.blank, u8_beq_32, u8_beq_9, u8_beq_10]
@[go_sem] theorem letterI_u8 (c : UInt8) : letterI (c.toNat : Int) = Lx.letter c := by
  rw [Bool.eq_iff_iff]; simp [letterI, Lx.letter, UInt8.le_iff_toNat_le]; omega
@[go_sem] theorem digitI_u8 (c : UInt8) : digitI (c.toNat : Int) = Lx.digit c := by
  rw [Bool.eq_iff_iff]; simp [digitI, Lx.digit, UInt8.le_iff_toNat_le]; omega
@[go_sem] theorem letterI_0 : letterI 0 = false := rfl
@[go_sem] theorem digitI_0 : digitI 0 = false := rfl

set_option maxHeartbeats 400000 in
theorem blank_any (n : Int) (w : World) :
    Calls Tryz.prog 67 #[.int .u8 n] w fun e w' => e = .returned (.bool (blankI n)) ∧ w = w' := by
  go_enter Tryz.func67, Tryz.ntmps67
  go_wp2
  all_goals (go_ret; exact ⟨ret_bool (by simp [blankI, *]), rfl⟩)

set_option maxHeartbeats 400000 in
theorem letter_any (n : Int) (w : World) :
    Calls Tryz.prog 71 #[.int .u8 n] w fun e w' => e = .returned (.bool (letterI n)) ∧ w = w' := by
  go_enter Tryz.func71, Tryz.ntmps71
  go_wp2
  all_goals (go_ret; refine ⟨ret_bool ?_, rfl⟩; rw [Bool.eq_iff_iff]; simp [letterI]; omega)

set_option maxHeartbeats 400000 in
theorem digit_any (n : Int) (w : World) :
    Calls Tryz.prog 100 #[.int .u8 n] w fun e w' => e = .returned (.bool (digitI n)) ∧ w = w' := by
  go_enter Tryz.func100, Tryz.ntmps100
  go_wp2
  all_goals (go_ret; refine ⟨ret_bool ?_, rfl⟩; rw [Bool.eq_iff_iff]; simp [digitI]; omega)

set_option maxHeartbeats 400000 in
theorem param_any (l : List UInt8) (k : Nat) (hk : k < l.length) (hl : l.length ≤ 1000000000000) (w : World) :
    Calls Tryz.prog 69 #[.string (S l), .int .i64 (k : Int)] w fun e w' => e = .returned (.bool (Lx.param (l.drop k))) ∧ w = w' := by
  go_enter Tryz.func69, Tryz.ntmps69
  go_wp2_with (go_at_call 100; (with_reducible refine (digit_any _ _).mono ?_); rintro e w' ⟨rfl, rfl⟩)
  all_goals (go_ret; refine ⟨ret_bool ?_, rfl⟩; rw [drop_at hk])
  · rw [Lx.param, headD_drop (by omega)]; simp [*]
  · rw [Lx.param, headD_drop_ge (by omega)]; simp
  · simp [Lx.param, *]

set_option maxHeartbeats 400000 in
theorem command_any (l : List UInt8) (k : Nat) (hk : k < l.length) (hl : l.length ≤ 1000000000000) (w : World) :
    Calls Tryz.prog 70 #[.string (S l), .int .i64 (k : Int)] w fun e w' => e = .returned (.bool (Lx.command (l.drop k))) ∧ w = w' := by
  go_enter Tryz.func70, Tryz.ntmps70
  go_wp2_with (go_at_call 71; (with_reducible refine (letter_any _ _).mono ?_); rintro e w' ⟨rfl, rfl⟩)
  all_goals (go_ret; refine ⟨ret_bool ?_, rfl⟩; rw [drop_at hk])
  · rw [Lx.command, headD_drop (by omega)]; simp [*]
  · rw [Lx.command, headD_drop_ge (by omega)]; simp
  · simp [Lx.command, *]

/-- 'Is a byte one?', in the reference's words. -/
theorem refBlank_any (n : Int) (w : World) :
    Calls Tryz.prog 85 #[.int .u8 n] w fun e w' => e = .returned (.bool (blankI n)) ∧ w = w' := by
  go_enter Tryz.func85, Tryz.ntmps85
  go_wp2
  all_goals (go_ret; exact ⟨ret_bool (by simp [blankI, *]), rfl⟩)

theorem refLetter_any (n : Int) (w : World) :
    Calls Tryz.prog 48 #[.int .u8 n] w fun e w' => e = .returned (.bool (letterI n)) ∧ w = w' := by
  go_enter Tryz.func48, Tryz.ntmps48
  go_wp2
  all_goals (go_ret; refine ⟨ret_bool ?_, rfl⟩; rw [Bool.eq_iff_iff]; simp [letterI]; omega)

theorem refDigit_any (n : Int) (w : World) :
    Calls Tryz.prog 86 #[.int .u8 n] w fun e w' => e = .returned (.bool (digitI n)) ∧ w = w' := by
  go_enter Tryz.func86, Tryz.ntmps86
  go_wp2
  all_goals (go_ret; refine ⟨ret_bool ?_, rfl⟩; rw [Bool.eq_iff_iff]; simp [digitI]; omega)

set_option maxHeartbeats 400000 in
/-- The reference's 'Kind'. -/
theorem refKind_any (l : List UInt8) (k : Nat) (hk : k < l.length) (hl : l.length ≤ 1000000000000) (w : World) :
    Calls Tryz.prog 45 #[.string (S l), .int .i64 (k : Int)] w fun e w' => e = .returned (.int .i64 (Lx.kind (l.drop k))) ∧ w = w' := by
  go_enter Tryz.func45, Tryz.ntmps45
  go_wp2_with (first | (go_at_call 48; (with_reducible refine (refLetter_any _ _).mono ?_); rintro e w' ⟨rfl, rfl⟩) | (go_at_call 85; (with_reducible refine (refBlank_any _ _).mono ?_); rintro e w' ⟨rfl, rfl⟩) | (go_at_call 86; (with_reducible refine (refDigit_any _ _).mono ?_); rintro e w' ⟨rfl, rfl⟩))
  all_goals (go_tidy; go_ret; refine ⟨ret_int ?_, rfl⟩; rw [drop_at hk, Lx.kind_cons])
  all_goals first | rw [headD_drop (by omega)] | rw [headD_drop_ge (by omega)]
  all_goals simp [*]

set_option maxHeartbeats 400000 in
/-- The reference's 'gap': blanks and remarks. -/
theorem refGap_any (l : List UInt8) (k : Nat) (hk : k < l.length) (hl : l.length ≤ 1000000000000) (w : World) :
    Calls Tryz.prog 47 #[.string (S l), .int .i64 (k : Int)] w fun e w' =>
      ∃ e1 : Nat, e = .returned (.tuple #[.agg #[.int .i64 (Lx.gapKind (Lx.gap false 0 (l.drop k)).1), .string (S [])], .int .i64 e1]) ∧ e1 ≤ l.length ∧ l.drop e1 = (Lx.gap false 0 (l.drop k)).2 ∧ Below w.heap.size w w' := by
  go_enter Tryz.func47, Tryz.ntmps47
  go_wp2_with (first | (go_at_call 45; (with_reducible refine (refKind_any _ _ (by omega) hl _).mono ?_); rintro e w' ⟨rfl, rfl⟩) | fail)
  go_loop [1, 6, 7] (fun i n b => ∃ (j m : Nat) (r : Bool), k ≤ j ∧ j ≤ l.length ∧ m ≤ j ∧ i = .int .i64 j ∧ n = .int .i64 m ∧ b = .bool r ∧ Hid (Lx.gap r m (l.drop j) = Lx.gap false 0 (l.drop k))) (fun i _ _ => l.length - (intOf i).toNat)
  case atStart => exact ⟨k, 0, false, by omega, by omega, by omega, rfl, rfl, rfl, rfl⟩
  case round =>
    obtain ⟨j, m, r, hkj, hj, hm, rfl, rfl, rfl, HG⟩ := hrel
    by_cases hlt : j < l.length
    · have hkd : Lx.kind (l.drop j) = 2 ↔ (Lx.blank l[j] || l[j] == 37) = true := by rw [drop_at hlt, Lx.kind_two]
      have HC : Hid (l.drop j = l[j] :: l.drop (j + 1)) := drop_at hlt
      have close : ∀ (m' : Nat) (r' : Bool), m' ≤ j + 1 → Lx.gap r m (l[j] :: l.drop (j + 1)) = Lx.gap r' m' (l.drop (j + 1)) →
          Hid (Lx.gap r' m' (l.drop (j + 1)) = Lx.gap false 0 (l.drop k)) := fun m' r' _ h => by
        show _ = _; rw [← h, ← HC.out]; exact HG.out
      by_cases hin : r = true ∨ (Lx.blank l[j] || l[j] == 37) = true
      · have hm1 : m + 1 ≤ j + 1 := by omega
        have hm0 : m ≤ j + 1 := by omega
        have HI := Lib.hid hin
        have HKD := Lib.hid hkd
        have HCL := Lib.hid close
        clear hin hkd close
        by_cases c10 : l[j] = 10
        · have c37 : (l[j] == 37) = false := by rw [c10]; rfl
          have hk2 : Lx.kind (l.drop j) = 2 := HKD.out.2 (by rw [c10]; rfl)
          cases r
          · go_wp2_with (first | (go_at_call 45; (with_reducible refine (refKind_any _ _ (by omega) hl _).mono ?_); rintro e w' ⟨rfl, rfl⟩) | fail)
            go_round
            case rel => exact ⟨j + 1, m + 1, false, by omega, by omega, by omega, by go_num, by go_num, rfl, HCL.out _ _ hm1 (by rw [c10]; simp [Lx.gap])⟩
            case measure => simp [intOf]; omega
          · go_wp2_with (first | (go_at_call 45; (with_reducible refine (refKind_any _ _ (by omega) hl _).mono ?_); rintro e w' ⟨rfl, rfl⟩) | fail)
            go_round
            case rel => exact ⟨j + 1, m, false, by omega, by omega, by omega, by go_num, rfl, rfl, HCL.out _ _ hm0 (by rw [c10]; simp [Lx.gap])⟩
            case measure => simp [intOf]; omega
        · have c10' : (l[j] == 10) = false := by simpa using c10
          have C10 := Lib.hid c10
          clear c10
          cases r
          · have hk2 : Lx.kind (l.drop j) = 2 := HKD.out.2 (by simpa using HI.out)
            by_cases c37 : l[j] = 37
            · go_wp2_with (first | (go_at_call 45; (with_reducible refine (refKind_any _ _ (by omega) hl _).mono ?_); rintro e w' ⟨rfl, rfl⟩) | fail)
              go_round
              case rel => exact ⟨j + 1, m, true, by omega, by omega, by omega, by go_num, rfl, rfl, HCL.out _ _ hm0 (by rw [c37]; simp [Lx.gap])⟩
              case measure => simp [intOf]; omega
            · have c37' : (l[j] == 37) = false := by simpa using c37
              have hbl : Lx.blank l[j] = true := by have := HI.out; simpa [c37] using this
              clear c37
              go_wp2_with (first | (go_at_call 45; (with_reducible refine (refKind_any _ _ (by omega) hl _).mono ?_); rintro e w' ⟨rfl, rfl⟩) | fail)
              go_round
              case rel => exact ⟨j + 1, m, false, by omega, by omega, by omega, by go_num, rfl, rfl, HCL.out _ _ hm0 (by simp [Lx.gap, hbl, C10.out])⟩
              case measure => simp [intOf]; omega
          · go_wp2_with (first | (go_at_call 45; (with_reducible refine (refKind_any _ _ (by omega) hl _).mono ?_); rintro e w' ⟨rfl, rfl⟩) | fail)
            all_goals (
              go_round
              case rel => exact ⟨j + 1, m, true, by omega, by omega, by omega, by go_num, rfl, rfl, HCL.out _ _ hm0 (by simp [Lx.gap, C10.out])⟩
              case measure => simp [intOf]; omega)
      · have hr : r = false := by cases r <;> simp_all
        subst hr
        have hk2 : (Lx.kind (l.drop j) == 2) = false := by
          rw [beq_eq_false_iff_ne]; exact fun h => hin (.inr (hkd.1 h))
        have hx : Lx.gap false 0 (l.drop k) = (m, l.drop j) := by
          rw [← HG.out, HC.out]
          have : Lx.blank l[j] = false ∧ ¬ l[j] = 37 := by simpa using hin
          simp [Lx.gap, this]
        have HX := Lib.hid hx
        clear hkd hin close hx
        by_cases hm2 : 2 ≤ m
        all_goals (
          go_wp2_with (first | (go_at_call 45; (with_reducible refine (refKind_any _ _ (by omega) hl _).mono ?_); rintro e w' ⟨rfl, rfl⟩) | fail)
          refine bodyPost_ret (v := .tuple #[.agg #[.int .i64 (Lx.gapKind m), .string (S [])], .int .i64 j]) (by simp [results, Tryz.results47, go_sem, Lx.gapKind, hm2]) rfl ⟨j, by rw [HX.out], hj, by rw [HX.out], ?_⟩
          exact (Below.refl _ _).alloc (Nat.le_refl _) _)
    · obtain rfl : j = l.length := by omega
      have hx : Lx.gap false 0 (l.drop k) = (m, []) := by rw [← HG.out, List.drop_length]; cases r <;> rfl
      have HX := Lib.hid hx
      clear hx
      by_cases hm2 : 2 ≤ m
      all_goals (
        go_wp2
        refine bodyPost_ret (v := .tuple #[.agg #[.int .i64 (Lx.gapKind m), .string (S [])], .int .i64 l.length]) (by simp [results, Tryz.results47, go_sem, Lx.gapKind, hm2]) rfl ⟨l.length, by rw [HX.out], hj, by rw [HX.out, List.drop_length], ?_⟩
        exact (Below.refl _ _).alloc (Nat.le_refl _) _)

end Go.Proofs.YtjfikkjaifdkiaaGreatDoor

namespace Go.Proofs.YtjfikkjaifdkiaaGreatDoor
open Go.RowKit

set_option maxRecDepth 100000 in
set_option maxHeartbeats 1000000 in
/-- internal/stringslite.IndexByte. -/
theorem liteIndexByte_any (s : ByteArray) (c : Int) (w : World) :
    Calls Tryz.prog 116 #[.string s, .int .u8 c] w fun e w' => e = .returned (.int .i64 (Lib.indexByte s.data.toList c.toNat.toUInt8)) ∧ w = w' := by
  go_enter Tryz.func116, Tryz.ntmps116
  go_wp2
  rw [run_callFunc_extern Tryz.func122 (by kernel_rfl) (by kernel_rfl) (by kernel_rfl) (e := Extern.BytealgIndexByte.indexByte) (by kernel_rfl), Lib.run_indexByteString]
  simp only [Result.andThen]
  rw [Oper.upon_value]
  go_wp2
  go_ret
  exact ⟨rfl, rfl⟩

set_option maxRecDepth 100000 in
set_option maxHeartbeats 1000000 in
/-- strings.IndexByte: the first place of a byte, or -1. -/
theorem indexByte_any (l : List UInt8) (c : Int) (w : World) :
    Calls Tryz.prog 94 #[.string (S l), .int .u8 c] w fun e w' => e = .returned (.int .i64 (Lib.indexByte l c.toNat.toUInt8)) ∧ w = w' := by
  go_enter Tryz.func94, Tryz.ntmps94
  go_wp2_with (go_at_call 116; (with_reducible refine (liteIndexByte_any _ _ _).mono ?_); rintro e w' ⟨rfl, rfl⟩)
  go_ret
  exact ⟨by simp, rfl⟩

theorem sizeBuilder : (Tryz.prog.info? 120).map (·.size) = some 2 := by kernel_rfl
theorem liesBuilder : liesAt Tryz.prog Tryz.prog.depth 120 (2 / Tryz.prog.cellsOf 120) 0 120 1 = true := by kernel_rfl
theorem infoByte : (Tryz.prog.info? 5).map (fun i => (i.zero, i.size, i.bytes)) = some (some (.int .u8 0), 1, 1) := by kernel_rfl
theorem cellsByte : Tryz.prog.cellsOf 5 = 1 := by kernel_rfl

set_option maxHeartbeats 1000000 in
set_option maxRecDepth 100000 in
/-- copyCheck at a builder that has been used: nothing turns. -/
theorem Builder_copyCheck_used (b : Nat) (w : World) (h0 : w.cell? ⟨b, 0, none⟩ = some (.pointer (some ⟨b, 0, none⟩))) :
    Calls Tryz.prog 93 #[.pointer (some ⟨b, 0, none⟩)] w fun e w' => e = .returned (.tuple #[]) ∧ w' = w := by
  obtain ⟨j, hj, _⟩ := Option.map_eq_some_iff.1 (sizeBuilder)
  go_enter Tryz.func93, Tryz.ntmps93
  go_wp2
  rw [Lib.run_neq_ptr_same w _ Tryz.underlying117 hj]
  go_wp2
  go_end0
  exact ⟨rfl, rfl⟩

set_option maxHeartbeats 1000000 in
set_option maxRecDepth 100000 in
/-- copyCheck at a fresh builder: it stores its own address. -/
theorem Builder_copyCheck_fresh (b : Nat) (w : World) (h0 : w.cell? ⟨b, 0, none⟩ = some (.pointer none)) (hsh : w.shape? b = some (120, 2)) (hfz : w.frozen? ⟨b, 0, none⟩ = false) :
    Calls Tryz.prog 93 #[.pointer (some ⟨b, 0, none⟩)] w fun e w' => e = .returned (.tuple #[]) ∧ w' = w.setCell ⟨b, 0, none⟩ (.pointer (some ⟨b, 0, none⟩)) := by
  obtain ⟨j, hj, hjs⟩ := Option.map_eq_some_iff.1 (sizeBuilder)
  go_enter Tryz.func93, Tryz.ntmps93
  go_wp2
  rw [Lib.run_to_unsafe w ⟨b, 0, none⟩ Tryz.underlying117 Tryz.underlying129 hj (by rw [hjs]; decide) hsh (Nat.zero_lt_succ 1)]
  simp only [Result.andThen]
  rw [Oper.upon_value]
  go_wp2
  rw [run_callFunc_extern Tryz.func115 (by kernel_rfl) (by kernel_rfl) (by kernel_rfl) (e := Extern.AbiNoEscape.same) (by kernel_rfl)]
  rw [Lib.run_noEscape]
  simp only [Result.andThen]
  rw [Oper.upon_value]
  go_wp2
  rw [Lib.run_from_unsafe w ⟨b, 0, none⟩ Tryz.underlying129 Tryz.underlying117 hj hsh liesBuilder]
  simp only [Result.andThen]
  rw [Oper.upon_value]
  go_wp2
  go_end0
  exact ⟨rfl, rfl⟩

/-- (*strings.Builder).copyCheck (what every writing method calls first): behind it the builder is 'used': 'addr' holds its own address; its bytes are as they were. -/
theorem Builder_copyCheck (B b : Nat) (bs : List Value) (w : World) (h : Lib.IsBuilder 120 5 B b bs w) :
    Calls Tryz.prog 93 #[.pointer (some ⟨b, 0, none⟩)] w fun e w' => e = .returned (.tuple #[]) ∧ (Lib.BuilderAt 120 5 B b (.pointer (some ⟨b, 0, none⟩)) bs w' ∧ Below B w w') := by
  rcases h with h | h
  · refine (Builder_copyCheck_fresh b w h.cell0 h.shape h.frozen0).mono ?_
    rintro e w' ⟨rfl, rfl⟩
    exact ⟨rfl, h.used _, (Below.refl B w).setCell (p := ⟨b, 0, none⟩) h.1 _⟩
  · refine (Builder_copyCheck_used b w h.cell0).mono ?_
    rintro e w' ⟨rfl, rfl⟩
    exact ⟨rfl, h, Below.refl B _⟩


set_option maxHeartbeats 2000000 in
set_option maxRecDepth 100000 in
/-- (*strings.Builder).WriteByte: "WriteByte appends the byte c to b's buffer. The returned error is always nil.": UNDER Go's OWN LIMIT: the new length takes at most 2^47 bytes. -/
theorem Builder_WriteByte (B b : Nat) (bs : List Value) (c : Int) (w : World) (h : Lib.IsBuilder 120 5 B b bs w) (hlen : bs.length + 1 ≤ 140737488355328) (hBw : B ≤ w.heap.size) :
    Calls Tryz.prog 59 #[.pointer (some ⟨b, 0, none⟩), .int .u8 c] w fun e w' => e = .returned .nilIface ∧ (Lib.BuilderAt 120 5 B b (.pointer (some ⟨b, 0, none⟩)) (bs ++ [.int .u8 c]) w' ∧ Below B w w') := by
  obtain ⟨i0, hi, hz0, hz1, hz2⟩ := info_parts infoByte
  go_enter Tryz.func59, Tryz.ntmps59
  go_wp2_with (go_at_call 93; refine (Builder_copyCheck B b bs _ h).mono ?_)
  rintro e w1 ⟨rfl, h1, hb1⟩
  obtain ⟨hB, v, hbk, hown, hne⟩ := h1
  have c0 : w1.cell? ⟨b, 0, none⟩ = some (.pointer (some ⟨b, 0, none⟩)) := by rw [Lib.cell_of_heap hbk]; rfl
  have c1 : w1.cell? ⟨b, 1, none⟩ = some v := by rw [Lib.cell_of_heap hbk]; rfl
  go_wp2_with (at_builtin; refine wpList_append_own _ rfl _ _ 118 rfl B 5 i0 (.int .u8 0) 1 1 Tryz.underlying118 hi hz0 hz1 hz2 rfl (by decide) _ _ _ rfl (hown.alloc _) ⟨w1.heap.size, 0, none⟩ 1 1 [.int .u8 c] rfl rfl ?c1 ?c2 ?c3 ?c4 ?c5 ?_)
  case c1 =>
    intro j u hj
    match j, hj with
    | 0, hj => simp at hj; subst hj; simp [Addr.add]
  case c2 => intro u hu; simp at hu; subst hu; rfl
  case c3 => unfold maxLen; omega
  case c4 => omega
  case c5 => have := hb1.size; simp; omega
  intro v' w2 hown' hgrow _
  have hlt : b < w1.heap.size := by
    rcases Nat.lt_or_ge b w1.heap.size with h' | h'
    · exact h'
    · simp [Array.getElem?_eq_none h'] at hbk
  have hb2 : w2.heap[b]? = some (.cells #[.pointer (some ⟨b, 0, none⟩), v] 120 (0, 0)) := by
    rw [hgrow.block b (by simp; omega) (fun e => hne e.symm), Lib.alloc_old w1 _ b hlt]
    exact hbk
  have d0 : w2.cell? ⟨b, 0, none⟩ = some (.pointer (some ⟨b, 0, none⟩)) := by rw [Lib.cell_of_heap hb2]; rfl
  have d1 : w2.cell? ⟨b, 1, none⟩ = some v := by rw [Lib.cell_of_heap hb2]; rfl
  have f1 : w2.frozen? ⟨b, 1, none⟩ = false := Lib.frozen_of_heap hb2 1
  obtain ⟨g, cap, rfl⟩ : ∃ g cap, v' = .slice (some ⟨g, 0, none⟩) (bs.length + 1) cap := by
    rcases hown'.2 with ⟨_, h0⟩ | ⟨g, cap, cur, hv, _⟩
    · omega
    · exact ⟨g, cap, hv⟩
  go_wp2
  go_ret
  refine ⟨rfl, ?_, ?_⟩
  · exact Lib.BuilderAt.put (T := 120) (e := 5) hB hb2 (bs' := bs ++ [.int .u8 c]) (by simpa using hown') (by decide)
  · exact ((hb1.alloc (by have := hb1.size; omega) _).grown hgrow (by have := hb1.size; simp; omega) (fun k hk => (hown.lt k hk).1)).setCell (p := ⟨b, 1, none⟩) hB _


set_option maxHeartbeats 2000000 in
set_option maxRecDepth 100000 in
/-- (*strings.Builder).WriteString: "WriteString appends the contents of s to b's buffer. It returns the length of s and a nil error.": UNDER Go's OWN LIMIT: the new length takes at most 2^47 bytes. -/
theorem Builder_WriteString (B b : Nat) (bs : List Value) (s : ByteArray) (w : World) (h : Lib.IsBuilder 120 5 B b bs w) (hlen : bs.length + s.size ≤ 140737488355328) (hBw : B ≤ w.heap.size) :
    Calls Tryz.prog 57 #[.pointer (some ⟨b, 0, none⟩), .string s] w fun e w' => e = .returned (.tuple #[.int .i64 s.size, .nilIface]) ∧ (Lib.BuilderAt 120 5 B b (.pointer (some ⟨b, 0, none⟩)) (bs ++ Lib.strCells s) w' ∧ Below B w w') := by
  obtain ⟨i0, hi, hz0, hz1, hz2⟩ := info_parts infoByte
  go_enter Tryz.func57, Tryz.ntmps57
  go_wp2_with (go_at_call 93; refine (Builder_copyCheck B b bs _ h).mono ?_)
  rintro e w1 ⟨rfl, h1, hb1⟩
  obtain ⟨hB, v, hbk, hown, hne⟩ := h1
  have c0 : w1.cell? ⟨b, 0, none⟩ = some (.pointer (some ⟨b, 0, none⟩)) := by rw [Lib.cell_of_heap hbk]; rfl
  have c1 : w1.cell? ⟨b, 1, none⟩ = some v := by rw [Lib.cell_of_heap hbk]; rfl
  go_wp2_with (at_builtin; refine Lib.wpList_append_own_string _ rfl _ _ 118 9 rfl B 5 i0 Tryz.underlying118 Tryz.underlying9 hi hz0 hz1 hz2 _ _ _ rfl hown s rfl ?c3 ?c4 ?c5 ?_)
  case c3 => unfold maxLen; omega
  case c4 => omega
  case c5 => have := hb1.size; omega
  intro v' w2 hown' hgrow _
  have hlt : b < w1.heap.size := by
    rcases Nat.lt_or_ge b w1.heap.size with h' | h'
    · exact h'
    · simp [Array.getElem?_eq_none h'] at hbk
  have hb2 : w2.heap[b]? = some (.cells #[.pointer (some ⟨b, 0, none⟩), v] 120 (0, 0)) := by
    rw [hgrow.block b hlt (fun e => hne e.symm)]
    exact hbk
  have d0 : w2.cell? ⟨b, 0, none⟩ = some (.pointer (some ⟨b, 0, none⟩)) := by rw [Lib.cell_of_heap hb2]; rfl
  have d1 : w2.cell? ⟨b, 1, none⟩ = some v := by rw [Lib.cell_of_heap hb2]; rfl
  have f1 : w2.frozen? ⟨b, 1, none⟩ = false := Lib.frozen_of_heap hb2 1
  obtain ⟨ao, n', cap, rfl⟩ : ∃ ao n' cap, v' = .slice ao n' cap := by
    rcases hown'.2 with ⟨hv, _⟩ | ⟨g, cap, cur, hv, _⟩
    · exact ⟨_, _, _, hv⟩
    · exact ⟨_, _, _, hv⟩
  go_wp2
  go_ret2
  refine ⟨rfl, ?_, ?_⟩
  · exact Lib.BuilderAt.put (T := 120) (e := 5) hB hb2 (bs' := bs ++ Lib.strCells s) (by simpa [Lib.strCells_length] using hown') (by decide)
  · exact (hb1.grown hgrow (by have := hb1.size; omega) (fun k hk => (hown.lt k hk).1)).setCell (p := ⟨b, 1, none⟩) hB _


set_option maxHeartbeats 1000000 in
set_option maxRecDepth 100000 in
/-- (*strings.Builder).String: "String returns the accumulated string.": OF A BUILDER THAT HOLDS AT LEAST ONE BYTE. ✋ THE MODEL FREEZES THOSE BYTES IN THE BUFFER (unsafe.String): a later write INTO them ends the model's run without an answer; a later append BEHIND them goes on. The statement's order of evaluation is drawn: one draw. -/
theorem Builder_String (B b : Nat) (l : List UInt8) (w : World) (h : Lib.IsBuilder 120 5 B b (Lib.byteCells l) w) (h0 : l ≠ []) :
    Calls Tryz.prog 60 #[.pointer (some ⟨b, 0, none⟩)] w fun e w' => e = .returned (.string ⟨l.toArray⟩) ∧ Below B w w' := by
  obtain ⟨p, hB, v, hbk, hown, hne⟩ : ∃ p, Lib.BuilderAt 120 5 B b p (Lib.byteCells l) w := by
    rcases h with h | h
    · exact ⟨_, h⟩
    · exact ⟨_, h⟩
  have hl0 : l.length ≠ 0 := by simpa using h0
  rw [Lib.byteCells_length] at hown
  obtain ⟨g, cap, cur, rfl, hbg, hg, hnc, hcm, hcs, htake⟩ : ∃ g cap cur, v = .slice (some ⟨g, 0, none⟩) l.length cap ∧ B ≤ g ∧ w.heap[g]? = some (.cells cur 5 (0, 0)) ∧ l.length ≤ cap ∧ cap ≤ maxLen ∧ cur.size = cap * 1 ∧ cur.toList.take (l.length * 1) = Lib.byteCells l := by
    rcases hown.2 with ⟨_, hz⟩ | ⟨g, cap, cur, hv, r⟩
    · exact absurd hz hl0
    · exact ⟨g, cap, cur, hv, r⟩
  have c1 : w.drew.cell? ⟨b, 1, none⟩ = some (.slice (some ⟨g, 0, none⟩) l.length cap) := by
    have : w.drew.heap[b]? = some (.cells #[p, .slice (some ⟨g, 0, none⟩) l.length cap] 120 (0, 0)) := hbk
    rw [Lib.cell_of_heap this]; rfl
  have hSD : (Builtin.unsafeSliceData_ #[118] 166 #[.slice (some ⟨g, 0, none⟩) l.length cap]).run Tryz.prog w.drew = .ok (.pointer (some ⟨g, 0, none⟩)) w.drew :=
    Lib.run_unsafeSliceData_row _ _ _ _ _ _ (by omega)
  have hUS : (Builtin.unsafeString_ #[166, 3] 9 #[.pointer (some ⟨g, 0, none⟩), .int .i64 l.length]).run Tryz.prog w.drew = .ok (.string ⟨l.toArray⟩) (w.drew.freeze ⟨g, 0, none⟩ l.length) := by
    refine Lib.run_unsafeString_row w.drew 166 3 9 5 Tryz.underlying166 cellsByte g cur.size (by have hg' : w.drew.heap[g]? = some (.cells cur 5 (0, 0)) := hg; simp [World.shape?, hg']) l h0 (by omega) (by unfold maxLen at hcm; omega) ?_
    intro j x hx
    have := hown.cells (g := g) rfl j (.int .u8 x.toNat) (by simp [Lib.byteCells, hx])
    exact this
  go_enter Tryz.func60, Tryz.ntmps60
  go_wp2
  go_region
  all_goals (go_wp2; go_ret; exact ⟨rfl, Lib.below_freeze (Below.drew (Below.refl B w)) (p := ⟨g, 0, none⟩) hbg _⟩)


theorem unsafeString_none (W : World) (q : Option Addr) : (Builtin.unsafeString_ #[166, 3] 9 #[.pointer q, .int .i64 0]).run Tryz.prog W = .ok (.string .empty) W :=
  Lib.run_unsafeString_none W _ _ _ q

set_option maxHeartbeats 2000000 in
set_option maxRecDepth 100000 in
theorem Builder_String_nil (B b : Nat) (p : Value) (w : World) (hbk : w.heap[b]? = some (.cells #[p, .slice none 0 0] 120 (0, 0))) :
    Calls Tryz.prog 60 #[.pointer (some ⟨b, 0, none⟩)] w fun e w' => e = .returned (.string ⟨#[]⟩) ∧ Below B w w' := by
  have hUS := unsafeString_none
  have c1 : w.drew.cell? ⟨b, 1, none⟩ = some (.slice none 0 0) := by
    have : w.drew.heap[b]? = some (.cells #[p, .slice none 0 0] 120 (0, 0)) := hbk
    rw [Lib.cell_of_heap this]; rfl
  have hSD : (Builtin.unsafeSliceData_ #[118] 166 #[.slice none 0 0]).run Tryz.prog w.drew = .ok (.pointer none) w.drew := rfl
  go_enter Tryz.func60, Tryz.ntmps60
  go_wp2
  go_region
  all_goals (go_wp2; go_ret; exact ⟨rfl, Below.drew (Below.refl B w)⟩)

set_option maxHeartbeats 2000000 in
set_option maxRecDepth 100000 in
theorem Builder_String_noroom (B b g : Nat) (p : Value) (cur : Array Value) (w : World) (hBw : B ≤ w.heap.size) (hbk : w.heap[b]? = some (.cells #[p, .slice (some ⟨g, 0, none⟩) 0 0] 120 (0, 0))) (hg : w.heap[g]? = some (.cells cur 5 (0, 0))) :
    Calls Tryz.prog 60 #[.pointer (some ⟨b, 0, none⟩)] w fun e w' => e = .returned (.string ⟨#[]⟩) ∧ Below B w w' := by
  have hUS := unsafeString_none
  have hlt : b < w.heap.size := by
    rcases Nat.lt_or_ge b w.heap.size with h' | h'
    · exact h'
    · simp [Array.getElem?_eq_none h'] at hbk
  have c1 : w.drew.cell? ⟨b, 1, none⟩ = some (.slice (some ⟨g, 0, none⟩) 0 0) := by
    have : w.drew.heap[b]? = some (.cells #[p, .slice (some ⟨g, 0, none⟩) 0 0] 120 (0, 0)) := hbk
    rw [Lib.cell_of_heap this]; rfl
  have hSD : (Builtin.unsafeSliceData_ #[118] 166 #[.slice (some ⟨g, 0, none⟩) 0 0]).run Tryz.prog w.drew = .ok (.pointer (some ⟨w.drew.heap.size, 0, none⟩)) (w.drew.alloc (.view ⟨g, 0, none⟩ 5)) :=
    Lib.run_unsafeSliceData_zero w.drew _ _ 5 Tryz.underlying166 ⟨g, 0, none⟩ 0 (5, cur.size) (by have hg' : w.drew.heap[g]? = some (.cells cur 5 (0, 0)) := hg; simp [World.shape?, hg'])
  have c2 : (w.drew.alloc (.view ⟨g, 0, none⟩ 5)).cell? ⟨b, 1, none⟩ = some (.slice (some ⟨g, 0, none⟩) 0 0) := by
    have : (w.drew.alloc (.view ⟨g, 0, none⟩ 5)).heap[b]? = _ := (Lib.alloc_old w.drew _ b hlt).trans hbk
    rw [Lib.cell_of_heap this]; rfl
  -- (the same fact as the how-to's newer walk spells the world; and of w itself, to which the elder walk comes down)
  have c3 : (w.alloc (.view ⟨g, 0, none⟩ 5)).drew.cell? ⟨b, 1, none⟩ = some (.slice (some ⟨g, 0, none⟩) 0 0) := c2
  have c0 : w.cell? ⟨b, 1, none⟩ = some (.slice (some ⟨g, 0, none⟩) 0 0) := c1
  go_enter Tryz.func60, Tryz.ntmps60
  go_wp2
  go_region
  all_goals (go_wp2; go_ret; exact ⟨rfl, (Below.drew (Below.refl B w)).alloc hBw _⟩)

set_option maxHeartbeats 2000000 in
set_option maxRecDepth 100000 in
theorem Builder_String_room (B b g cap : Nat) (p : Value) (w : World) (hc0 : cap ≠ 0) (hbk : w.heap[b]? = some (.cells #[p, .slice (some ⟨g, 0, none⟩) 0 cap] 120 (0, 0))) :
    Calls Tryz.prog 60 #[.pointer (some ⟨b, 0, none⟩)] w fun e w' => e = .returned (.string ⟨#[]⟩) ∧ Below B w w' := by
  have hUS := unsafeString_none
  have c1 : w.drew.cell? ⟨b, 1, none⟩ = some (.slice (some ⟨g, 0, none⟩) 0 cap) := by
    have : w.drew.heap[b]? = some (.cells #[p, .slice (some ⟨g, 0, none⟩) 0 cap] 120 (0, 0)) := hbk
    rw [Lib.cell_of_heap this]; rfl
  have hSD : (Builtin.unsafeSliceData_ #[118] 166 #[.slice (some ⟨g, 0, none⟩) 0 cap]).run Tryz.prog w.drew = .ok (.pointer (some ⟨g, 0, none⟩)) w.drew :=
    Lib.run_unsafeSliceData_row _ _ _ _ _ _ hc0
  clear hc0
  go_enter Tryz.func60, Tryz.ntmps60
  go_wp2
  go_region
  all_goals (go_wp2; go_ret; exact ⟨rfl, Below.drew (Below.refl B w)⟩)

/-- (*strings.Builder).String OF A BUILDER THAT HOLDS NO BYTE: the empty string. (Its buffer is nil, or a row of which it has taken nothing yet; where that row has NO capacity the model lays one new block for unsafe.SliceData's 'some address'.) One draw. -/
theorem Builder_String_empty (B b : Nat) (w : World) (h : Lib.IsBuilder 120 5 B b [] w) (hBw : B ≤ w.heap.size) :
    Calls Tryz.prog 60 #[.pointer (some ⟨b, 0, none⟩)] w fun e w' => e = .returned (.string ⟨#[]⟩) ∧ Below B w w' := by
  obtain ⟨p, hB, v, hbk, hown, hne⟩ : ∃ p, Lib.BuilderAt 120 5 B b p [] w := by
    rcases h with h | h
    · exact ⟨_, h⟩
    · exact ⟨_, h⟩
  rcases hown.2 with ⟨rfl, _⟩ | ⟨g, cap, cur, rfl, hbg, hg, _, _, _, _⟩
  · exact Builder_String_nil B b p w hbk
  · by_cases hc0 : cap = 0
    · subst hc0
      exact Builder_String_noroom B b g p cur w hBw hbk hg
    · exact Builder_String_room B b g cap p w hc0 hbk

/-- (*strings.Builder).String: "String returns the accumulated string.": WHATEVER THE BUILDER HOLDS. -/
theorem Builder_String_any (B b : Nat) (l : List UInt8) (w : World) (h : Lib.IsBuilder 120 5 B b (Lib.byteCells l) w) (hBw : B ≤ w.heap.size) :
    Calls Tryz.prog 60 #[.pointer (some ⟨b, 0, none⟩)] w fun e w' => e = .returned (.string ⟨l.toArray⟩) ∧ Below B w w' := by
  cases l with
  | nil => exact Builder_String_empty B b w h hBw
  | cons x r => exact Builder_String B b (x :: r) w h (by simp)


end Go.Proofs.YtjfikkjaifdkiaaGreatDoor

namespace Go.Proofs.YtjfikkjaifdkiaaGreatDoor
open Go.RowKit

theorem gap_true_none (n : Nat) (l : List UInt8) (h : Lib.indexByte l 10 = -1) : Lx.gap true n l = (n, []) := by
  induction l with
  | nil => rfl
  | cons c r ih =>
    unfold Lib.indexByte at h
    by_cases hc : c = 10
    · subst hc; simp at h
    · have hc' : (c == 10) = false := by simpa using hc
      have hr : Lib.indexByte r 10 = -1 := by
        have := Lib.indexByte_ge r 10
        rw [hc'] at h
        by_cases h2 : Lib.indexByte r 10 = -1
        · exact h2
        · simp [h2] at h; omega
      simp only [Lx.gap, hc', Bool.false_eq_true, if_false]
      exact ih hr
theorem gap_true_some (n i : Nat) (l : List UInt8) (h : Lib.indexByte l 10 = (i : Int)) : Lx.gap true n l = Lx.gap false n (l.drop (i + 1)) ∧ i < l.length := by
  induction l generalizing i with
  | nil => unfold Lib.indexByte at h; omega
  | cons c r ih =>
    unfold Lib.indexByte at h
    by_cases hc : c = 10
    · subst hc
      simp at h
      have hi : i = 0 := by omega
      subst hi
      simp [Lx.gap]
    · have hc' : (c == 10) = false := by simpa using hc
      rw [hc'] at h
      simp at h
      by_cases h2 : Lib.indexByte r 10 = -1
      · rw [if_pos h2] at h; omega
      · rw [if_neg h2] at h
        have hge := Lib.indexByte_ge r 10
        obtain ⟨i, rfl⟩ : ∃ i', i = i' + 1 := ⟨i - 1, by omega⟩
        have := ih i (by omega)
        simp only [Lx.gap, hc', Bool.false_eq_true, if_false, List.drop_succ_cons, List.length_cons]
        exact ⟨this.1, by omega⟩
theorem gap_remark (n : Nat) (r : List UInt8) : Lx.gap false n (37 :: r) = Lx.gap true n (37 :: r) := by simp [Lx.gap]

set_option maxHeartbeats 400000 in
/-- 'blanks': how many lines end, and the place behind. -/
theorem blanks_any (l : List UInt8) (k : Nat) (hk : k ≤ l.length) (hl : l.length ≤ 1000000000000) (w : World) :
    Calls Tryz.prog 68 #[.string (S l), .int .i64 (k : Int)] w fun e w' =>
      ∃ e1 : Nat, e = .returned (.tuple #[.int .i64 e1, .int .i64 (Lx.gap false 0 (l.drop k)).1]) ∧ e1 ≤ l.length ∧ l.drop e1 = (Lx.gap false 0 (l.drop k)).2 ∧ w = w' := by
  go_enter Tryz.func68, Tryz.ntmps68
  go_wp2_with fail
  go_step3
  go_wp2_with fail
  go_step3
  go_wp2_with fail
  go_loop [1, 6] (fun i n => ∃ (j m : Nat), k ≤ j ∧ j ≤ l.length ∧ m ≤ j ∧ i = .int .i64 j ∧ n = .int .i64 m ∧ Hid (Lx.gap false m (l.drop j) = Lx.gap false 0 (l.drop k))) (fun i _ => l.length - (intOf i).toNat)
  case atStart => exact ⟨k, 0, by omega, by omega, by omega, rfl, rfl, rfl⟩
  case round =>
    obtain ⟨j, m, hkj, hj, hm, rfl, rfl, HG⟩ := hrel
    by_cases hlt : j < l.length
    · have hrel : Hid (Lx.gap false m (l[j] :: l.drop (j + 1)) = Lx.gap false 0 (l.drop k)) := by
        show _ = _; rw [← drop_at hlt]; exact HG.out
      by_cases hbl : Lx.blank l[j] = true
      · by_cases c10 : l[j] = 10
        · have c10' : (l[j] == 10) = true := by simpa using c10
          have hr2 : Hid (Lx.gap false (m + 1) (l.drop (j + 1)) = Lx.gap false 0 (l.drop k)) := Lib.hid (by
            have := hrel.out; rw [c10] at this; simpa [Lx.gap] using this)
          clear c10
          go_wp2_with (go_at_call 67; (with_reducible refine (blank_any _ _).mono ?_); rintro e w' ⟨rfl, rfl⟩)
          go_round
          case rel => exact ⟨j + 1, m + 1, by omega, by omega, by omega, by go_num, by go_num, hr2⟩
          case measure => simp [intOf]; omega
        · have c10' : (l[j] == 10) = false := by simpa using c10
          have hr2 : Hid (Lx.gap false m (l.drop (j + 1)) = Lx.gap false 0 (l.drop k)) := Lib.hid (by
            have := hrel.out; simpa [Lx.gap, hbl, c10] using this)
          clear c10
          go_wp2_with (go_at_call 67; (with_reducible refine (blank_any _ _).mono ?_); rintro e w' ⟨rfl, rfl⟩)
          go_round
          case rel => exact ⟨j + 1, m, by omega, by omega, by omega, by go_num, rfl, hr2⟩
          case measure => simp [intOf]; omega
      · have hbl' : Lx.blank l[j] = false := by simpa using hbl
        clear hbl
        by_cases c37 : l[j] = 37
        · have c37' : (l[j] == 37) = true := by simpa using c37
          have hr2 : Hid (Lx.gap true m (l.drop j) = Lx.gap false 0 (l.drop k)) := by
            have := hrel.out
            rw [c37, gap_remark, ← c37, ← drop_at hlt] at this
            exact this
          clear c37
          have hge := Lib.indexByte_ge (l.drop j) 10
          obtain ⟨q, hq⟩ : ∃ q, q = Lib.indexByte (l.drop j) 10 := ⟨_, rfl⟩
          rw [← hq] at hge
          have HQ := Lib.hid hq
          rcases (by omega : q = -1 ∨ 0 ≤ q) with h1 | h0
          · subst h1
            have HX : Hid (Lx.gap false 0 (l.drop k) = (m, [])) := by
              show _ = _; rw [← hr2.out, gap_true_none m _ hq.symm]
            clear hq hge
            go_wp2_with (first | (go_at_call 67; (with_reducible refine (blank_any _ _).mono ?_); rintro e w' ⟨rfl, rfl⟩) | (go_at_call 94; (with_reducible refine (indexByte_any _ _ _).mono ?_); rintro e w' ⟨rfl, rfl⟩; rw [show Lib.indexByte (l.drop j) (Int.toNat 10).toUInt8 = -1 from HQ.out.symm]))
            rw [Exit.noGoto_ret]
            go_ret2
            exact ⟨l.length, by rw [HX.out]; rfl, Nat.le_refl _, by rw [HX.out, List.drop_length], rfl⟩
          · obtain ⟨i, rfl⟩ := Int.eq_ofNat_of_zero_le h0
            have hs := gap_true_some m i _ hq.symm
            have hi : i < l.length - j := by simpa using hs.2
            have hr3 : Hid (Lx.gap false m (l.drop (j + (i + 1))) = Lx.gap false 0 (l.drop k)) := by
              show _ = _; rw [← hr2.out, hs.1, List.drop_drop]
            clear hq hge hs
            go_wp2_with (first | (go_at_call 67; (with_reducible refine (blank_any _ _).mono ?_); rintro e w' ⟨rfl, rfl⟩) | (go_at_call 94; (with_reducible refine (indexByte_any _ _ _).mono ?_); rintro e w' ⟨rfl, rfl⟩; rw [show Lib.indexByte (l.drop j) (Int.toNat 10).toUInt8 = (i : Int) from HQ.out.symm]))
            go_round
            case rel => exact ⟨j + (i + 1), m, by omega, by omega, by omega, by go_num, rfl, hr3⟩
            case measure => simp [intOf]; omega
        · have c37' : (l[j] == 37) = false := by simpa using c37
          have HX : Hid (Lx.gap false 0 (l.drop k) = (m, l.drop j)) := by
            show _ = _; rw [← hrel.out, drop_at hlt]; simp [Lx.gap, hbl', c37]
          clear c37
          go_wp2_with (first | (go_at_call 67; (with_reducible refine (blank_any _ _).mono ?_); rintro e w' ⟨rfl, rfl⟩) | fail)
          try rw [Exit.noGoto_ret]
          go_ret2
          exact ⟨j, by rw [HX.out]; rfl, hj, by rw [HX.out], rfl⟩
    · obtain rfl : j = l.length := by omega
      have HX : Hid (Lx.gap false 0 (l.drop k) = (m, [])) := by
        show _ = _; rw [← HG.out, List.drop_length]; rfl
      go_wp2_with fail
      try rw [Exit.noGoto_ret]
      go_ret2
      exact ⟨l.length, by rw [HX.out]; rfl, Nat.le_refl _, by rw [HX.out, List.drop_length], rfl⟩

theorem tyByte : SlTy Tryz.prog 118 5 1 1 := SlTy.mk' (z := .int .u8 0) Tryz.underlying118 infoByte rfl (by decide)

theorem byteCells_snoc (a : List UInt8) (c : UInt8) : Lib.byteCells (a ++ [c]) = Lib.byteCells a ++ [.int .u8 c.toNat] := by simp [Lib.byteCells]

theorem conv_bytes {w : World} {v : Value} {l : List UInt8} (h : Rd w 1 v l.length (Lib.byteCells l)) :
    (convert 118 9 v).run Tryz.prog w = .ok (.string (S l)) w := by
  rcases h.2 with ⟨rfl | ⟨p, c, rfl⟩, h0⟩ | ⟨b, o, cap, rfl, _, hc, _⟩
  · have : l = [] := List.eq_nil_of_length_eq_zero h0
    subst this
    simp [convert, Conv.bytesToString, go_sem]
    rfl
  · have : l = [] := List.eq_nil_of_length_eq_zero h0
    subst this
    simp [convert, Conv.bytesToString, go_sem]
    rfl
  · have := Lib.run_convert_whole (P := Tryz.prog) w 118 5 9 Tryz.underlying118 Tryz.underlying5 Tryz.underlying9 b o (S l) (fun i hi => by
      have hi2 : i < l.length := by simpa using hi
      rw [hc i (.int .u8 (l[i]'hi2).toNat) (by simp [Lib.byteCells, hi2]), S_getElem]) cap
    rwa [S_size] at this

/-- Which of the tests ends a word. -/
theorem word_ends {b1 b5 b6 : Bool} {c : UInt8} (h : (!b1 && c != 37 && c != 123 && c != 125 && !b5 && !b6) = false) :
    b1 = true ∨ (b1 = false ∧ (c != 37) = false) ∨ (b1 = false ∧ (c != 37) = true ∧ (c != 123) = false) ∨ (b1 = false ∧ (c != 37) = true ∧ (c != 123) = true ∧ (c != 125) = false) ∨
      (b1 = false ∧ (c != 37) = true ∧ (c != 123) = true ∧ (c != 125) = true ∧ b5 = true) ∨ (b1 = false ∧ (c != 37) = true ∧ (c != 123) = true ∧ (c != 125) = true ∧ b5 = false ∧ b6 = true) := by
  generalize (c != 37) = b2, (c != 123) = b3, (c != 125) = b4 at *
  revert h; cases b1 <;> cases b2 <;> cases b3 <;> cases b4 <;> cases b5 <;> cases b6 <;> simp

/-- What ends a word. -/
theorem kind_word {l : List UInt8} {j : Nat} (h : j < l.length) : Lx.kind (l.drop j) = 1 ↔
    (!Lx.blank l[j] && l[j] != 37 && l[j] != 123 && l[j] != 125 && !Lx.param (l.drop j) && !Lx.command (l.drop j)) = true := by
  rw [drop_at h, Lx.kind_cons, Lx.param, Lx.command]
  simp only [bne]
  generalize Lx.blank l[j] = b1, (l[j] == 37) = b2, (l[j] == 92) = b3, (l[j] == 123) = b4, (l[j] == 125) = b5, (l[j] == 35) = b6, Lx.letter _ = b7, Lx.digit _ = b8
  cases b1 <;> cases b2 <;> cases b3 <;> cases b4 <;> cases b5 <;> cases b6 <;> cases b7 <;> cases b8 <;> simp

set_option maxHeartbeats 800000 in
/-- 'word'. -/
theorem word_any (l : List UInt8) (k : Nat) (hk : k < l.length) (hl : l.length ≤ 1000000000) (w : World) :
    Calls Tryz.prog 72 #[.string (S l), .int .i64 (k : Int)] w fun e w' =>
      ∃ e1 : Nat, e = .returned (.tuple #[.string (S (Lx.word (l.drop k)).1), .int .i64 e1]) ∧ e1 ≤ l.length ∧ l.drop e1 = (Lx.word (l.drop k)).2 ∧ Below w.heap.size w w' := by
  go_enter Tryz.func72, Tryz.ntmps72
  go_wp2_with fail
  simp only [S_lit]
  go_loopw [1, 6] (fun i v wr => ∃ (j : Nat) (acc : List UInt8), k ≤ j ∧ j ≤ l.length ∧ acc.length ≤ j ∧ i = .int .i64 j ∧ wr.ownsRow w.heap.size 5 1 v acc.length (Lib.byteCells acc) ∧ Below w.heap.size w wr ∧ Hid (acc ++ (Lx.word (l.drop j)).1 = (Lx.word (l.drop k)).1 ∧ (Lx.word (l.drop j)).2 = (Lx.word (l.drop k)).2)) (fun i _ _ => l.length - (intOf i).toNat)
  case atStart => exact ⟨k, [], by omega, by omega, by simp, rfl, World.ownsRow_nil _ _ _ _, Below.refl _ _, by simp [Hid]⟩
  case round =>
    obtain ⟨j, acc, hkj, hj, hacc, rfl, hown, hbw, HG⟩ := hrel
    have hsz := hbw.size
    by_cases hlt : j < l.length
    · have HC : Hid (l.drop j = l[j] :: l.drop (j + 1)) := drop_at hlt
      have hlti : (j : Int) < (l.length : Int) := by omega
      by_cases hk1 : Lx.kind (l.drop j) = 1
      · have hw := (kind_word hlt).1 hk1
        simp only [Bool.and_eq_true, Bool.not_eq_true'] at hw
        obtain ⟨⟨⟨⟨⟨t1, t2⟩, t3⟩, t4⟩, t5⟩, t6⟩ := hw
        by_cases hesc : l[j] = 92 ∧ j + 1 < l.length
        · obtain ⟨h92, hj1⟩ := hesc
          have hrel : Hid ((acc ++ [l[j + 1]]) ++ (Lx.word (l.drop (j + 1 + 1))).1 = (Lx.word (l.drop k)).1 ∧ (Lx.word (l.drop (j + 1 + 1))).2 = (Lx.word (l.drop k)).2) := by
            have h := HG.out
            have hk1' := hk1
            rw [HC.out, drop_at hj1, h92] at h hk1'
            rw [Lx.word_esc hk1'] at h
            exact ⟨by rw [← h.1]; simp, h.2⟩
          have c92 : (l[j] == 92) = true := by simpa using h92
          clear h92 hk1
          go_wp2_with (first | (go_at_call 67; (with_reducible refine (blank_any _ _).mono ?_); rintro e w' ⟨rfl, rfl⟩) | (go_at_call 69; (with_reducible refine (param_any _ _ hlt (by omega) _).mono ?_); rintro e w' ⟨rfl, rfl⟩) | (go_at_call 70; (with_reducible refine (command_any _ _ hlt (by omega) _).mono ?_); rintro e w' ⟨rfl, rfl⟩) | (at_builtin; refine wp_app tyByte rfl _ _ rfl w.heap.size hown rfl rfl (by simp) rfl byte_one (by omega) (by omega) (by omega) ?_; intro v2 w2 hown2 hb2 _))
          go_roundw
          case rel => exact ⟨j + 1 + 1, acc ++ [l[j + 1]], by omega, by omega, by simp; omega, by go_num, by rw [List.length_append, byteCells_snoc]; exact hown2, hbw.trans hb2, hrel⟩
          case measure => simp [intOf]; omega
        · have hrel : Hid ((acc ++ [l[j]]) ++ (Lx.word (l.drop (j + 1))).1 = (Lx.word (l.drop k)).1 ∧ (Lx.word (l.drop (j + 1))).2 = (Lx.word (l.drop k)).2) := by
            have h := HG.out
            have hk1' := hk1
            rw [HC.out] at h hk1'
            rw [Lx.word_one hk1' (by
              by_cases h92 : l[j] = 92
              · exact .inr (List.drop_eq_nil_of_le (by have h := hesc; simp only [h92, true_and] at h; omega))
              · exact .inl h92)] at h
            exact ⟨by rw [← h.1]; simp, h.2⟩
          have HE := Lib.hid hesc
          clear hesc hk1
          by_cases h92 : l[j] = 92
          · have c92 : (l[j] == 92) = true := by simpa using h92
            have hj1 : ¬ (j : Int) + 1 < (l.length : Int) := fun h => HE.out ⟨h92, by omega⟩
            clear h92
            go_wp2_with (first | (go_at_call 67; (with_reducible refine (blank_any _ _).mono ?_); rintro e w' ⟨rfl, rfl⟩) | (go_at_call 69; (with_reducible refine (param_any _ _ hlt (by omega) _).mono ?_); rintro e w' ⟨rfl, rfl⟩) | (go_at_call 70; (with_reducible refine (command_any _ _ hlt (by omega) _).mono ?_); rintro e w' ⟨rfl, rfl⟩) | (at_builtin; refine wp_app tyByte rfl _ _ rfl w.heap.size hown rfl rfl (by simp) rfl byte_one (by omega) (by omega) (by omega) ?_; intro v2 w2 hown2 hb2 _))
            go_roundw
            case rel => exact ⟨j + 1, acc ++ [l[j]], by omega, by omega, by simp; omega, by go_num, by rw [List.length_append, byteCells_snoc]; exact hown2, hbw.trans hb2, hrel⟩
            case measure => simp [intOf]; omega
          · have c92 : (l[j] == 92) = false := by simpa using h92
            clear h92
            go_wp2_with (first | (go_at_call 67; (with_reducible refine (blank_any _ _).mono ?_); rintro e w' ⟨rfl, rfl⟩) | (go_at_call 69; (with_reducible refine (param_any _ _ hlt (by omega) _).mono ?_); rintro e w' ⟨rfl, rfl⟩) | (go_at_call 70; (with_reducible refine (command_any _ _ hlt (by omega) _).mono ?_); rintro e w' ⟨rfl, rfl⟩) | (at_builtin; refine wp_app tyByte rfl _ _ rfl w.heap.size hown rfl rfl (by simp) rfl byte_one (by omega) (by omega) (by omega) ?_; intro v2 w2 hown2 hb2 _))
            go_roundw
            case rel => exact ⟨j + 1, acc ++ [l[j]], by omega, by omega, by simp; omega, by go_num, by rw [List.length_append, byteCells_snoc]; exact hown2, hbw.trans hb2, hrel⟩
            case measure => simp [intOf]; omega
      · have hk1' : (!Lx.blank l[j] && l[j] != 37 && l[j] != 123 && l[j] != 125 && !Lx.param (l.drop j) && !Lx.command (l.drop j)) = false := by
          rw [← Bool.not_eq_true]; exact fun h => hk1 ((kind_word hlt).2 h)
        have HX : Hid (acc = (Lx.word (l.drop k)).1 ∧ l.drop j = (Lx.word (l.drop k)).2) := by
          have h := HG.out
          have hx : Lx.word (l.drop j) = ([], l.drop j) := by
            rw [HC.out] at hk1 ⊢; exact Lx.word_stop hk1
          rw [hx] at h; exact ⟨by simpa using h.1, h.2⟩
        have hends := word_ends hk1'
        clear hk1 hk1'
        have hcv := conv_bytes (own_rd hown)
        rcases hends with t1 | ⟨t1, t2⟩ | ⟨t1, t2, t3⟩ | ⟨t1, t2, t3, t4⟩ | ⟨t1, t2, t3, t4, t5⟩ | ⟨t1, t2, t3, t4, t5, t6⟩
        all_goals (
          go_wp2_with (first | (go_at_call 67; (with_reducible refine (blank_any _ _).mono ?_); rintro e w' ⟨rfl, rfl⟩) | (go_at_call 69; (with_reducible refine (param_any _ _ hlt (by omega) _).mono ?_); rintro e w' ⟨rfl, rfl⟩) | (go_at_call 70; (with_reducible refine (command_any _ _ hlt (by omega) _).mono ?_); rintro e w' ⟨rfl, rfl⟩))
          go_ret2
          exact ⟨j, by rw [HX.out.1]; rfl, hj, HX.out.2, hbw⟩)
    · obtain rfl : j = l.length := by omega
      have HX : Hid (acc = (Lx.word (l.drop k)).1 ∧ [] = (Lx.word (l.drop k)).2) := by
        have h := HG.out; rw [List.drop_length] at h; exact ⟨by simpa [Lx.word] using h.1, h.2⟩
      have hcv := conv_bytes (own_rd hown)
      go_wp2_with fail
      go_ret2
      exact ⟨l.length, by rw [HX.out.1]; rfl, hj, by rw [← HX.out.2, List.drop_length], hbw⟩

end Go.Proofs.YtjfikkjaifdkiaaGreatDoor

namespace Go.Proofs.YtjfikkjaifdkiaaGreatDoor
open Go.RowKit

end Go.Proofs.YtjfikkjaifdkiaaGreatDoor

namespace Go.Proofs.YtjfikkjaifdkiaaGreatDoor
open Go.RowKit

theorem tyStr : SlTy Tryz.prog 28 9 1 16 := SlTy.mk' (z := .string ⟨#[]⟩) Tryz.underlying28 (by kernel_rfl) rfl (by decide)
/-- The cells of texts. -/
def scs (ws : List (List UInt8)) : List Value := ws.map fun s => Value.string (S s)
theorem scs_snoc (a : List (List UInt8)) (s : List UInt8) : scs (a ++ [s]) = scs a ++ [.string (S s)] := by simp [scs]
theorem scs_length (a : List (List UInt8)) : (scs a).length = a.length := by simp [scs]
theorem str_one {s : ByteArray} : ∀ u ∈ [Value.string s], u.oneCell' = true := by
  intro u hu; simp at hu; rcases hu with rfl; rfl

/-- A cell of what the call owns, set. -/
theorem own_set {w : World} {base e n g c : Nat} {xs : List Value} (h : w.ownsRow base e 1 (.slice (some ⟨g, 0, none⟩) n c) n xs) (j : Nat) (x : Value) :
    (w.setCell ⟨g, j, none⟩ x).ownsRow base e 1 (.slice (some ⟨g, 0, none⟩) n c) n (xs.set j x) := by
  refine ⟨by rw [List.length_set]; exact h.1, ?_⟩
  rcases h.2 with ⟨h2, _⟩ | ⟨g', cap, cur, hv, hb, hg, hn, hc, hs, ht⟩
  · cases h2
  · cases hv
    refine .inr ⟨g, c, cur.set! j x, rfl, hb, row_set hg j x, hn, hc, by simp [hs], ?_⟩
    rw [← ht]
    simp [List.take_set]
theorem own_free {w : World} {base e n g c k : Nat} {xs : List Value} (h : w.ownsRow base e k (.slice (some ⟨g, 0, none⟩) n c) n xs) (j : Nat) : w.frozen? ⟨g, j, none⟩ = false := by
  rcases h.2 with ⟨h2, _⟩ | ⟨g', cap, cur, hv, hb, hg, _⟩
  · cases h2
  · cases hv; exact row_free hg j
theorem own_at {w : World} {base e n g c k : Nat} {xs : List Value} (h : w.ownsRow base e k (.slice (some ⟨g, 0, none⟩) n c) n xs) {j : Nat} {u : Value} (hj : xs[j]? = some u) : w.cell? ⟨g, j, none⟩ = some u := by
  have := h.cells (g := g) rfl j u hj
  rwa [addr_add, Nat.zero_add] at this

theorem join_words_le {m : Nat} (l : List Lx.Tok) (h : ∀ t ∈ l, t.2.length ≤ m) : (Mx.words l).1.length ≤ l.length ∧ ((Mx.words l).2 = true → (Mx.words l).1 ≠ []) ∧ (Lib.join (Mx.words l).1 [32]).length ≤ l.length * (m + 1) := by
  refine Mx.revTok (motive := fun l => (∀ t ∈ l, t.2.length ≤ m) → (Mx.words l).1.length ≤ l.length ∧ ((Mx.words l).2 = true → (Mx.words l).1 ≠ []) ∧ (Lib.join (Mx.words l).1 [32]).length ≤ l.length * (m + 1)) (fun _ => by simp [Mx.words, Lib.join_nil]) (fun a t ih h => ?_) l h
  obtain ⟨i1, i2, i3⟩ := ih fun t ht => h t (by simp [ht])
  have ht := h t (by simp)
  rw [Mx.words_snoc, List.length_append, List.length_singleton, Nat.add_mul, Nat.one_mul]
  unfold Mx.wstep
  by_cases h23 : t.1 = 2 ∨ t.1 = 3
  · rw [if_pos h23]
    exact ⟨by simp; omega, fun h => Bool.noConfusion h, by simp; omega⟩
  · rw [if_neg h23]
    by_cases h1 : t.1 = 1
    · rw [if_pos h1]
      cases ho : (Mx.words a).2
      · simp only [Bool.false_eq_true, if_false]
        refine ⟨by simp; omega, fun _ => by simp, ?_⟩
        by_cases hw : (Mx.words a).1 = []
        · rw [hw, List.nil_append, Lib.join_one]; omega
        · rw [Mx.join_snoc _ _ hw]; simp; omega
      · simp only [if_true]
        have hne := i2 ho
        have e : (Mx.words a).1.dropLast ++ [(Mx.words a).1.getLastD []] = (Mx.words a).1 := by
          rw [List.getLastD_eq_getLast?, List.getLast?_eq_some_getLast hne, Option.getD_some, List.dropLast_concat_getLast]
        refine ⟨by simp; omega, fun _ => by simp, ?_⟩
        rw [Mx.join_grow, e]; simp; omega
    · rw [if_neg h1]
      exact ⟨by omega, i2, by omega⟩

end Go.Proofs.YtjfikkjaifdkiaaGreatDoor

namespace Go.Proofs.YtjfikkjaifdkiaaGreatDoor
open Go.RowKit

theorem tyLl : SlTy Tryz.prog 145 27 1 24 := SlTy.mk' (z := .slice none 0 0) Tryz.underlying145 (by kernel_rfl) rfl (by decide)
theorem tyLr : SlTy Tryz.prog 110 35 1 24 := SlTy.mk' (z := .slice none 0 0) Tryz.underlying110 (by kernel_rfl) rfl (by decide)

/-- A part of what is read. -/
theorem Rt.part {w : World} {a : Option Addr} {n c : Nat} {l : List Lx.Tok} (h : Rt w (.slice a n c) l) {b o : Nat} (ha : a = some ⟨b, o, none⟩) {i j : Nat} (hij : i ≤ j) (hj : j ≤ l.length) (c2 : Nat) (hc2 : j - i ≤ c2) :
    Rt w (.slice (some ⟨b, o + i * 2, none⟩) (j - i) c2) ((l.take j).drop i) := by
  have hlen : ((l.take j).drop i).length = j - i := by simp; omega
  refine ⟨tcs_length _, ?_⟩
  rw [hlen]
  refine .inr ⟨b, o + i * 2, c2, rfl, fun hp => ?_, fun q u hq => ?_, hc2⟩
  · subst ha
    exact h.under (by omega) b rfl
  · subst ha
    have hq2 := (List.getElem?_eq_some_iff.1 hq).1
    rw [tcs_length, hlen] at hq2
    obtain ⟨r, hr, rfl | rfl⟩ : ∃ r, r < j - i ∧ (q = r * 2 ∨ q = r * 2 + 1) := ⟨q / 2, by omega, by omega⟩
    · have h1 := (tcs_at ((l.take j).drop i) r (by omega)).1
      rw [h1] at hq
      cases hq
      obtain ⟨b', o', hb, hc1, hc2⟩ := h.at (i := i + r) (by omega)
      cases hb
      rw [show o + i * 2 + r * 2 = o + (i + r) * 2 by omega, hc1]
      simp
    · have h1 := (tcs_at ((l.take j).drop i) r (by omega)).2
      rw [h1] at hq
      cases hq
      obtain ⟨b', o', hb, hc1, hc2⟩ := h.at (i := i + r) (by omega)
      cases hb
      rw [show o + i * 2 + (r * 2 + 1) = o + (i + r) * 2 + 1 by omega, hc2]
      simp

set_option maxHeartbeats 1000000 in
/-- 'slices.Clone' of tokens. -/
theorem clone_tok (v : Value) (l : List Lx.Tok) (w : World) (hl : Rt w v l) (hlen : l.length ≤ 1000000000) :
    Calls Tryz.prog 81 #[v] w fun e w' => ∃ v', e = .returned v' ∧ w'.ownsRow w.heap.size 64 2 v' l.length (tcs l) ∧ Below w.heap.size w w' := by
  obtain ⟨a0, c0, rfl⟩ := hl.shape
  have q22 : ∀ (w : World) (a : Option Addr) (n c n' c' : Nat), (binOp .eql 27 (.slice a n c) (.slice none n' c')).run Tryz.prog w = .ok (.bool a.isNone) w := fun w a n c n' c' => Lib.run_eql_slice_nil w _ _ a n c n' c' Tryz.underlying27
  cases a0 with
  | none =>
    have h0 : l = [] := by
      rcases hl.2 with ⟨_, h0⟩ | ⟨b, o, cap, hv, _⟩
      · exact List.eq_nil_of_length_eq_zero h0
      · cases hv
    subst h0
    clear hl
    go_enter Tryz.func81, Tryz.ntmps81
    go_wp2_with fail
    go_ret
    exact ⟨_, rfl, World.ownsRow_nil _ _ _ _, Below.refl _ _⟩
  | some a0 =>
    have A := Lib.hid hl
    clear hl
    go_enter Tryz.func81, Tryz.ntmps81
    go_wp2_with (at_builtin; refine wp_app_all tyTok rfl _ _ rfl w.heap.size (World.ownsRow_made w #[] 0 (Nat.le_refl _) (Nat.zero_le _) (by simp)) (Rt.below' A.out ((Below.refl _ _).alloc (Nat.le_refl _) _)) rfl rfl tcs_one (by omega) (by omega) (by simp) ?_; intro v2 w2 hown2 hb2 hg2)
    go_ret
    exact ⟨_, rfl, by simpa using hown2, ((Below.refl _ w).alloc (Nat.le_refl _) _).trans hb2⟩

/-! ### the pure side -/
theorem args_none {l : List Lx.Tok} {q r n : Nat} (hr : r = q + Mx.spaces (l.drop q)) (hg : Mx.group (l.drop r) = none) : Mx.args (n + 1) (l.drop q) = none := by
  subst hr
  rw [Mx.args, List.drop_drop, hg]
theorem args_some {l : List Lx.Tok} {q r n g : Nat} (hr : r = q + Mx.spaces (l.drop q)) (hg : Mx.group (l.drop r) = some g) :
    Mx.args (n + 1) (l.drop q) = (Mx.args n (l.drop (r + g))).map fun x => (((l.take (r + g - 1)).drop (r + 1)) :: x.1, r + g - q + x.2) := by
  have h2 := Mx.group_le hg
  subst hr
  simp only [Mx.args, List.drop_drop, hg, List.drop_take]
  rw [show q + (Mx.spaces (l.drop q) + g) = q + Mx.spaces (l.drop q) + g by omega, show q + (Mx.spaces (l.drop q) + 1) = q + Mx.spaces (l.drop q) + 1 by omega]
  congr 1
  funext x
  rw [show q + Mx.spaces (l.drop q) + g - 1 - (q + Mx.spaces (l.drop q) + 1) = g - 2 by omega, show q + Mx.spaces (l.drop q) + g - q = Mx.spaces (l.drop q) + g by omega]
theorem spaces_step {l : List Lx.Tok} {q : Nat} (h : q < l.length) (h2 : l[q].1 = 2) : Mx.spaces (l.drop q) = Mx.spaces (l.drop (q + 1)) + 1 := by
  rw [drop_at h, Mx.spaces, if_pos h2]
theorem spaces_stop {l : List Lx.Tok} {q : Nat} (h : q < l.length) (h2 : ¬ l[q].1 = 2) : Mx.spaces (l.drop q) = 0 := by
  rw [drop_at h, Mx.spaces, if_neg h2]
theorem spaces_end {l : List Lx.Tok} {q : Nat} (h : l.length ≤ q) : Mx.spaces (l.drop q) = 0 := by
  rw [List.drop_eq_nil_of_le h, Mx.spaces]

/-- What 'Args' answers where the place is one. -/
def ares (p : Nat) : Option (List (List Lx.Tok) × Nat) → List (List Lx.Tok) × Int × Int
  | some x => (x.1, (p : Int) + x.2, 0)
  | none => ([], 0, 10)

theorem ret_three {v : Value} {a b a' b' : Int} (h1 : a = a') (h2 : b = b') : Ending.returned (.tuple #[v, .int .i64 a, .int .i64 b]) = .returned (.tuple #[v, .int .i64 a', .int .i64 b']) := by rw [h1, h2]
theorem args_next {l : List Lx.Tok} {p q r g n n' : Nat} {acc : List (List Lx.Tok)} (hpq : p ≤ q) (hr : r = q + Mx.spaces (l.drop q)) (hg : Mx.group (l.drop r) = some g) (h : Mx.args n (l.drop p) = (Mx.args (n' + 1) (l.drop q)).map fun x => (acc ++ x.1, q - p + x.2)) :
    Mx.args n (l.drop p) = (Mx.args n' (l.drop (r + g))).map fun x => (acc ++ [((l.take (r + g - 1)).drop (r + 1))] ++ x.1, r + g - p + x.2) := by
  rw [h, args_some hr hg, Option.map_map]
  congr 1
  funext x
  have h2 := Mx.group_le hg
  simp; omega

set_option maxRecDepth 20000 in
set_option maxHeartbeats 3200000 in
/-- 'Args', where the place is one, and as many are asked for as may be. -/
theorem argsO_in (v : Value) (l : List Lx.Tok) (p n : Nat) (w : World) (hl : Rt w v l) (hlen : l.length ≤ 1000000000) (hp : p ≤ l.length) (hn : n ≤ 9) :
    Calls Tryz.prog 101 #[v, .int .i64 (p : Int), .int .i64 (n : Int)] w fun e w' => ∃ v', e = .returned (.tuple #[v', .int .i64 (ares p (Mx.args n (l.drop p))).2.1, .int .i64 (ares p (Mx.args n (l.drop p))).2.2]) ∧ Oll w' w.heap.size 27 v' (ares p (Mx.args n (l.drop p))).1 ∧ Below w.heap.size w w' := by
  obtain ⟨a0, c0, rfl⟩ := hl.shape
  have hcap := Rd.cap hl
  have A := Lib.hid hl
  clear hl
  have e1 : decide ((p : Int) < 0) = false := by simp
  have e2 : decide (l.length < p) = false := by simp; omega
  have e3 : decide ((n : Int) < 0) = false := by simp
  have e4 : decide (9 < (n : Int)) = false := by simp; omega
  go_enter Tryz.func101, Tryz.ntmps101
  go_wp2_with fail
  go_loopw [1, 9, 29] (fun at_ out i wr => ∃ (k q : Nat) (acc : List (List Lx.Tok)), at_ = .int .i64 q ∧ i = .int .i64 k ∧ k ≤ n ∧ p ≤ q ∧ q ≤ l.length ∧ acc.length = k ∧ Oll wr w.heap.size 27 out acc ∧ Below w.heap.size w wr ∧ Hid (Mx.args n (l.drop p) = (Mx.args (n - k) (l.drop q)).map fun x => (acc ++ x.1, q - p + x.2))) (fun _ _ i _ => n - (intOf i).toNat)
  case atStart => exact ⟨0, p, [], rfl, rfl, Nat.zero_le _, Nat.le_refl _, hp, rfl, Oll.nil _ _ _, Below.refl _ _, by simp [Hid]⟩
  case round =>
    obtain ⟨k, q, acc, rfl, rfl, hk, hpq, hq, hacc, hown, hbw, HC⟩ := hrel
    have hsz := hbw.size
    by_cases hkn : k < n
    · go_wp2_with fail
      go_loopw [1] (fun at_ wr2 => ∃ r : Nat, at_ = .int .i64 r ∧ q ≤ r ∧ r ≤ l.length ∧ Hid (q + Mx.spaces (l.drop q) = r + Mx.spaces (l.drop r)) ∧ Below wr.heap.size wr wr2) (fun at_ _ => l.length - (intOf at_).toNat)
      case atStart => exact ⟨q, rfl, Nat.le_refl _, hq, by simp [Hid], Below.refl _ _⟩
      case round =>
        obtain ⟨r, rfl, hqr, hr, HS, hb2⟩ := hrel
        by_cases hrl : r < l.length
        · obtain ⟨b, o, hb, c20, c21⟩ := (Rt.below' (Rt.below' A.out hbw) hb2).at hrl
          subst hb
          cases h2 : (l[r].1 == 2)
          · have hsr : r = q + Mx.spaces (l.drop q) := by rw [HS.out, spaces_stop hrl (by simpa using h2)]; rfl
            obtain ⟨n', hn'⟩ : ∃ n', n - k = n' + 1 := ⟨n - k - 1, by omega⟩
            have HC1 := HC.out
            rw [hn'] at HC1
            cases hG : Mx.group (l.drop r) with
            | none =>
              rw [args_none hsr hG] at HC1
              have HN := Lib.hid HC1
              have HG := Lib.hid hG
              clear HC1 hG hsr
              go_wp2_with fail
              (with_reducible refine (of1_any l[r] 2 _ _ rfl).mono ?_); rintro e w3 ⟨rfl, b3⟩
              rw [h2]
              have hr3 := Rt.below' (Rt.below' (Rt.below' A.out hbw) hb2) b3
              go_wp2_with fail
              (with_reducible refine (group_in _ l r _ hr3 hlen hr).mono ?_); rintro e w4 ⟨rfl, b4⟩
              rw [HG.out]
              go_wp2_with fail
              go_ret3
              exact ⟨_, ret_three (by rw [HN.out]; rfl) (by rw [HN.out]; rfl), by rw [HN.out]; exact Oll.nil _ _ _, ((hbw.trans (hb2.mono hsz)).trans (b3.mono (by have := hb2.size; omega))).trans (b4.mono (by have := hb2.size; have := b3.size; omega))⟩
            | some g =>
              have hgl := Mx.group_le hG
              rw [List.length_drop] at hgl
              obtain ⟨t, ht⟩ : ∃ t, r + g = t + 1 := ⟨r + g - 1, by omega⟩
              have hres : gres r (some g) = (((t : Int) + 1), 0) := by simp only [gres]; rw [Prod.mk.injEq]; exact ⟨by omega, rfl⟩
              have HN := Lib.hid (args_next hpq hsr hG HC1)
              rw [ht] at HN
              have HG := Lib.hid hG
              have HRES := Lib.hid hres
              have hs2 := hb2.size
              clear HC1 hG hsr hres
              go_wp2_with fail
              (with_reducible refine (of1_any l[r] 2 _ _ rfl).mono ?_); rintro e w3 ⟨rfl, b3⟩
              rw [h2]
              have hr3 := Rt.below' (Rt.below' (Rt.below' A.out hbw) hb2) b3
              have H3 := Lib.hid hr3
              have hs3 := b3.size
              go_wp2_with fail
              (with_reducible refine (group_in _ l r _ hr3 hlen hr).mono ?_); rintro e w4 ⟨rfl, b4⟩
              clear hr3
              rw [HG.out, HRES.out]
              have hs4 := b4.size
              obtain ⟨part, hpt⟩ : ∃ part, part = (l.take t).drop (r + 1) := ⟨_, rfl⟩
              have hpart : Rt w4 (.slice (some ⟨b, o + (r + 1) * 2, none⟩) (t - (r + 1)) (c0 - (r + 1))) part := by
                rw [hpt]; exact Rt.part (Rt.below' H3.out b4) rfl (by omega) (by omega) _ (by omega)
              have hplen : part.length ≤ 1000000000 := by rw [hpt]; simp; omega
              have HP := Lib.hid hpt
              clear hpt
              go_wp2_with fail
              (with_reducible refine (clone_tok _ _ w4 hpart hplen).mono ?_); rintro e w5 ⟨cv, rfl, hcv, b5⟩
              obtain ⟨a1, c1, rfl⟩ := own_shape hcv
              have hs5 := b5.size
              have hown5 := (((hown.below' hb2).below' b3).below' b4).below' b5
              have hun := hown.under
              have hsep : ∀ b, (Value.slice a1 part.length c1).ownBlock = some b → b < w5.heap.size ∧ u9.ownBlock ≠ some b ∧ w.heap.size ≤ b := fun b hb => ⟨(hcv.lt b hb).2, fun e => by have h1 := hun b e; have h2 := (hcv.lt b hb).1; omega, by have h2 := (hcv.lt b hb).1; omega⟩
              have hbs := ((hb2.mono hsz).trans (b3.mono (by omega))).trans ((b4.mono (by omega)).trans (b5.mono (by omega)))
              clear hpart
              go_wp2_with (at_builtin; refine wp_oll tyLl rfl _ _ rfl w.heap.size hown5 (own_rd hcv) hsep rfl rfl rfl rfl (by omega) (by omega) (by omega) ?_; intro v6 w6 hown6 b6)
              go_roundw
              case rel => exact ⟨k + 1, t + 1, _, by go_num, by go_num, by omega, by omega, by omega, by simp [hacc], hown6, (hbw.trans hbs).trans b6, Lib.hid (by rw [show n - (k + 1) = n' by omega, HP.out]; exact HN.out)⟩
              case measure => simp [intOf]; omega
          · have HN := Lib.hid (HS.out.trans (show r + Mx.spaces (l.drop r) = r + 1 + Mx.spaces (l.drop (r + 1)) by rw [spaces_step hrl (by simpa using h2)]; omega))
            go_wp2_with fail
            (with_reducible refine (of1_any l[r] 2 _ _ rfl).mono ?_); rintro e w3 ⟨rfl, b3⟩
            rw [h2]
            go_wp2_with fail
            go_roundw
            case rel => exact ⟨r + 1, by go_num, by omega, by omega, HN, hb2.trans (b3.mono hb2.size)⟩
            case measure => simp [intOf]; omega
        · obtain rfl : r = l.length := by omega
          have hsr : l.length = q + Mx.spaces (l.drop q) := by rw [HS.out, spaces_end (Nat.le_refl _)]; rfl
          obtain ⟨n', hn'⟩ : ∃ n', n - k = n' + 1 := ⟨n - k - 1, by omega⟩
          have HC1 := HC.out
          rw [hn'] at HC1
          have hG : Mx.group (l.drop l.length) = none := by rw [List.drop_length]; rfl
          rw [args_none hsr hG] at HC1
          have HN := Lib.hid HC1
          have HG := Lib.hid hG
          clear HC1 hG hsr
          have hr3 := Rt.below' (Rt.below' A.out hbw) hb2
          go_wp2_with fail
          (with_reducible refine (group_in _ l l.length _ hr3 hlen hr).mono ?_); rintro e w4 ⟨rfl, b4⟩
          rw [HG.out]
          go_wp2_with fail
          go_ret3
          exact ⟨_, ret_three (by rw [HN.out]; rfl) (by rw [HN.out]; rfl), by rw [HN.out]; exact Oll.nil _ _ _, (hbw.trans (hb2.mono hsz)).trans (b4.mono (by have := hb2.size; omega))⟩
    · obtain rfl : k = n := by omega
      have HN := Lib.hid (HC.out.trans (show _ = some (acc, q - p) by rw [Nat.sub_self, Mx.args]; simp))
      go_wp2_with fail
      go_ret3
      exact ⟨_, ret_three (by rw [HN.out]; simp only [ares]; omega) (by rw [HN.out]; rfl), by rw [HN.out]; exact hown, hbw⟩

theorem args_in (v : Value) (l : List Lx.Tok) (p n : Nat) (w : World) (hl : Rt w v l) (hlen : l.length ≤ 1000000000) (hp : p ≤ l.length) (hn : n ≤ 9) :
    Calls Tryz.prog 101 #[v, .int .i64 (p : Int), .int .i64 (n : Int)] w fun e w' => ∃ v', e = .returned (.tuple #[v', .int .i64 (ares p (Mx.args n (l.drop p))).2.1, .int .i64 (ares p (Mx.args n (l.drop p))).2.2]) ∧ Rts w' v' (ares p (Mx.args n (l.drop p))).1 ∧ Below w.heap.size w w' :=
  (argsO_in v l p n w hl hlen hp hn).mono fun _ _ ⟨v', h1, h2, h3⟩ => ⟨v', h1, h2.rts, h3⟩
end Go.Proofs.YtjfikkjaifdkiaaGreatDoor

namespace Go.Proofs.YtjfikkjaifdkiaaGreatDoor
open Go.RowKit

/-- A macro: a name, parameters, a body. -/
abbrev Mac := List UInt8 × Int × List Lx.Tok
/-- The cells of macros, with where their bodies lie. -/
def mc (p : Mac × Value) : List Value := [.string (S p.1.1), .int .i64 p.1.2.1, p.2]
def mcs (ps : List (Mac × Value)) : List Value := ps.flatMap mc
theorem mcs_length (ps : List (Mac × Value)) : (mcs ps).length = ps.length * 3 := by
  induction ps with
  | nil => rfl
  | cons t l ih => simp only [mcs, List.flatMap_cons, List.length_append, List.length_cons] at ih ⊢; simp only [mc, List.length_cons, List.length_nil]; omega
theorem mcs_append (a b : List (Mac × Value)) : mcs (a ++ b) = mcs a ++ mcs b := by simp [mcs]
theorem mcs_at (ps : List (Mac × Value)) (i : Nat) (h : i < ps.length) : (mcs ps)[i * 3]? = some (.string (S ps[i].1.1)) ∧ (mcs ps)[i * 3 + 1]? = some (.int .i64 ps[i].1.2.1) ∧ (mcs ps)[i * 3 + 2]? = some ps[i].2 := by
  induction ps generalizing i with
  | nil => simp at h
  | cons t l ih =>
    cases i with
    | zero => simp [mcs, mc]
    | succ i =>
      have := ih i (by simpa using h)
      have e : mcs (t :: l) = .string (S t.1.1) :: .int .i64 t.1.2.1 :: t.2 :: mcs l := by simp [mcs, mc]
      rw [e, show (i + 1) * 3 = i * 3 + 1 + 1 + 1 by omega]
      simpa using this
theorem mcs_set (ps : List (Mac × Value)) (i : Nat) (h : i < ps.length) (b : Value) : (mcs ps).set (i * 3 + 2) b = mcs (ps.set i (ps[i].1, b)) := by
  induction ps generalizing i with
  | nil => simp at h
  | cons t l ih =>
    cases i with
    | zero => simp [mcs, mc]
    | succ i =>
      have hi : i < l.length := by simpa using h
      have := ih i hi
      have e : ∀ (t : Mac × Value) l, mcs (t :: l) = .string (S t.1.1) :: .int .i64 t.1.2.1 :: t.2 :: mcs l := fun t l => by simp [mcs, mc]
      rw [e, show (i + 1) * 3 + 2 = i * 3 + 2 + 1 + 1 + 1 by omega]
      simp only [List.set_cons_succ, List.getElem_cons_succ, e, this]

/-- The cells of a macro that is read. -/
theorem mac_at {w : World} {a : Option Addr} {n c : Nat} {ps : List (Mac × Value)} (h : Rd w 3 (.slice a n c) ps.length (mcs ps)) {i : Nat} (hi : i < ps.length) :
    ∃ b o, a = some ⟨b, o, none⟩ ∧ w.cell? ⟨b, o + i * 3, none⟩ = some (.string (S ps[i].1.1)) ∧ w.cell? ⟨b, o + i * 3 + 1, none⟩ = some (.int .i64 ps[i].1.2.1) ∧ w.cell? ⟨b, o + i * 3 + 2, none⟩ = some ps[i].2 := by
  rcases h.2 with ⟨_, h2⟩ | ⟨b, o, cap, hv, hlt, hc, _⟩
  · omega
  · cases hv
    have := mcs_at ps i hi
    exact ⟨b, o, rfl, hc _ _ this.1, hc _ _ this.2.1, hc _ _ this.2.2⟩

theorem tyMac : SlTy Tryz.prog 51 96 3 48 := SlTy.mk' (z := .agg #[.string ⟨#[]⟩, .int .i64 0, .slice none 0 0]) Tryz.underlying51 (by kernel_rfl) rfl (by decide)

/-- Bodies lie where v does not. -/
def Bod (w : World) (v : Value) (ps : List (Mac × Value)) : Prop := ∀ p ∈ ps, Rt w p.2 p.1.2.2 ∧ p.1.2.2.length ≤ 1000000 ∧ (0 < p.1.2.2.length → ∀ b, p.2.ownBlock = some b → b < w.heap.size ∧ v.ownBlock ≠ some b)
/-- Bodies that are new. -/
def Frs (B : Nat) (ps : List (Mac × Value)) : Prop := ∀ p ∈ ps, ∀ b, p.2.ownBlock = some b → B ≤ b
/-- The call owns a row of macros. -/
def OwnM (w : World) (B : Nat) (v : Value) (ps : List (Mac × Value)) : Prop := w.ownsRow B 96 3 v ps.length (mcs ps) ∧ Bod w v ps

/-- What is read stays where a block turns in which it does not lie. -/
theorem Rt.apart {w w' : World} {row : Option Nat} {v : Value} {l : List Lx.Tok} (h : Rt w v l) (hg : w.grownBy w' row) (hne : 0 < l.length → ∀ b, v.ownBlock = some b → some b ≠ row) : Rt w' v l := by
  by_cases h0 : 0 < l.length
  · exact Rd.grown h hg (hne h0)
  · have hl : l = [] := List.eq_nil_of_length_eq_zero (by omega)
    subst hl
    refine ⟨rfl, .inl ?_⟩
    rcases h.2 with h2 | ⟨b, o, cap, hv, _⟩
    · exact h2
    · exact ⟨.inr ⟨_, _, hv⟩, rfl⟩
theorem Bod.below {w w' : World} {v : Value} {ps : List (Mac × Value)} (h : Bod w v ps) (hb : Below w.heap.size w w') : Bod w' v ps :=
  fun p hp => ⟨(h p hp).1.below' hb, (h p hp).2.1, fun h0 b hb' => ⟨Nat.lt_of_lt_of_le ((h p hp).2.2 h0 b hb').1 hb.size, ((h p hp).2.2 h0 b hb').2⟩⟩
theorem OwnM.below {w w' : World} {B : Nat} {v : Value} {ps : List (Mac × Value)} (h : OwnM w B v ps) (hb : Below w.heap.size w w') : OwnM w' B v ps :=
  ⟨own_below h.1 (own_under h.1) hb, h.2.below hb⟩

theorem mcs_one {w : World} {v : Value} {ps : List (Mac × Value)} (h : Bod w v ps) : ∀ u ∈ mcs ps, u.oneCell' = true := by
  intro u hu
  simp only [mcs, List.mem_flatMap, mc, List.mem_cons, List.not_mem_nil, or_false] at hu
  obtain ⟨p, hp, rfl | rfl | rfl⟩ := hu
  · rfl
  · rfl
  · obtain ⟨a, c, e⟩ := (h p hp).1.shape
    rw [e]; rfl

set_option maxHeartbeats 1000000 in
/-- 'slices.Clone' of macros: the row is new, the bodies are the old ones. -/
theorem clone_mac (v : Value) (ps : List (Mac × Value)) (w : World) (hl : Rd w 3 v ps.length (mcs ps)) (hlen : ps.length ≤ 1000000000) (hone : ∀ u ∈ mcs ps, u.oneCell' = true) :
    Calls Tryz.prog 104 #[v] w fun e w' => ∃ v', e = .returned v' ∧ w'.ownsRow w.heap.size 96 3 v' ps.length (mcs ps) ∧ Below w.heap.size w w' := by
  obtain ⟨a0, c0, rfl⟩ := hl.shape
  have q22 : ∀ (w : World) (a : Option Addr) (n c n' c' : Nat), (binOp .eql 51 (.slice a n c) (.slice none n' c')).run Tryz.prog w = .ok (.bool a.isNone) w := fun w a n c n' c' => Lib.run_eql_slice_nil w _ _ a n c n' c' Tryz.underlying51
  cases a0 with
  | none =>
    have h0 : ps = [] := by
      rcases hl.2 with ⟨_, h0⟩ | ⟨b, o, cap, hv, _⟩
      · exact List.eq_nil_of_length_eq_zero h0
      · cases hv
    subst h0
    clear hl
    go_enter Tryz.func104, Tryz.ntmps104
    go_wp2_with fail
    go_ret
    exact ⟨_, rfl, World.ownsRow_nil _ _ _ _, Below.refl _ _⟩
  | some a0 =>
    have A := Lib.hid hl
    clear hl
    go_enter Tryz.func104, Tryz.ntmps104
    go_wp2_with (at_builtin; refine wp_app_all tyMac rfl _ _ rfl w.heap.size (World.ownsRow_made w #[] 0 (Nat.le_refl _) (Nat.zero_le _) (by simp)) (Rd.below' A.out ((Below.refl _ _).alloc (Nat.le_refl _) _)) rfl rfl hone (by omega) (by omega) (by simp) ?_; intro v2 w2 hown2 hb2 hg2)
    go_ret
    exact ⟨_, rfl, by simpa using hown2, ((Below.refl _ w).alloc (Nat.le_refl _) _).trans hb2⟩

/-- A cell of what the call owns, set: rows of k cells. -/
theorem own_setk {w : World} {base e n g c k : Nat} {xs : List Value} (h : w.ownsRow base e k (.slice (some ⟨g, 0, none⟩) n c) n xs) (j : Nat) (x : Value) :
    (w.setCell ⟨g, j, none⟩ x).ownsRow base e k (.slice (some ⟨g, 0, none⟩) n c) n (xs.set j x) := by
  refine ⟨by rw [List.length_set]; exact h.1, ?_⟩
  rcases h.2 with ⟨h2, _⟩ | ⟨g', cap, cur, hv, hb, hg, hn, hc, hs, ht⟩
  · cases h2
  · cases hv
    refine .inr ⟨g, c, cur.set! j x, rfl, hb, row_set hg j x, hn, hc, by simp [hs], ?_⟩
    rw [← ht]
    simp [List.take_set]

theorem setCell_grown (w : World) (p : Addr) (x : Value) : w.grownBy (w.setCell p x) (some p.block) := by
  refine ⟨rfl, rfl, rfl, by simp [World.setCell], fun k _ hne => ?_⟩
  simp only [World.setCell]
  rw [Array.getElem?_modify]
  rw [if_neg (fun e => hne (by rw [e]))]

set_option maxRecDepth 20000 in
set_option maxHeartbeats 1600000 in
/-- 'own': macros whose bodies are their own. -/
theorem own_any (B : Nat) (v : Value) (ps : List (Mac × Value)) (w : World) (hl : OwnM w B v ps) (hlen : ps.length ≤ 1000000) (hB : B ≤ w.heap.size) :
    Calls Tryz.prog 106 #[v] w fun e w' => ∃ v' ps', e = .returned v' ∧ ps'.map Prod.fst = ps.map Prod.fst ∧ OwnM w' B v' ps' ∧ Frs B ps' ∧ Below B w w' := by
  go_enter Tryz.func106, Tryz.ntmps106
  obtain ⟨a0, c0, rfl⟩ := own_shape hl.1
  obtain ⟨hlr, hlb⟩ := hl
  obtain ⟨n, hn⟩ : ∃ n, n = ps.length := ⟨_, rfl⟩
  rw [← hn] at hlr hlb hlen ⊢
  have HL := Lib.hid hn
  clear hn
  go_wp2_with fail
  go_loopw [6] (fun i wr => ∃ (k : Nat) (qs : List (Mac × Value)), k ≤ n ∧ i = .int .i64 k ∧ Hid (qs.length = n) ∧ Hid (qs.map Prod.fst = ps.map Prod.fst) ∧ wr.ownsRow B 96 3 (.slice a0 n c0) n (mcs qs) ∧ Bod wr (.slice a0 n c0) qs ∧ Hid (∀ (j : Nat) (p : Mac × Value), j < k → qs[j]? = some p → ∀ b, p.2.ownBlock = some b → B ≤ b) ∧ Below B w wr) (fun i _ => n - (intOf i).toNat)
  case atStart => exact ⟨0, ps, Nat.zero_le _, rfl, Lib.hid HL.out.symm, rfl, hlr, hlb, Lib.hid (fun j _ hj => absurd hj (by omega)), Below.refl _ _⟩
  case round =>
    obtain ⟨k, qs, hk, rfl, HQ, HM, hrow, hbo, HFR, hbw⟩ := hrel
    have hsz := hbw.size
    by_cases hlt : k < n
    · have hkq : k < qs.length := by have := HQ.out; omega
      rcases hrow.2 with ⟨_, h0⟩ | ⟨g, cap, cur, hv, hgB, hgr, _⟩
      · omega
      · cases hv
        have hlq : (qs[k].1.2.2).length ≤ 1000000 := (hbo _ (List.getElem_mem hkq)).2.1
        have hb := (hbo _ (List.getElem_mem hkq)).1
        obtain ⟨ab, cb, hbv⟩ := hb.shape
        have hcell : wr.cell? ⟨g, k * 3 + 2, none⟩ = some (.slice ab (qs[k].1.2.2).length cb) := by rw [← hbv]; exact own_at hrow (mcs_at qs k hkq).2.2
        rw [hbv] at hb
        have hgl := row_lt hgr
        clear hlr hlb
        go_wp2_with fail
        (with_reducible refine (clone_tok _ _ wr hb (by omega)).mono ?_); rintro e w2 ⟨cv, rfl, hcv, b2⟩
        obtain ⟨a1, c1, rfl⟩ := own_shape hcv
        have hs2 := b2.size
        have hrow2 := own_below hrow (own_under hrow) b2
        have hfr := own_free hrow2 (k * 3 + 2)
        have hcell2 : w2.cell? ⟨g, k * 3 + 2, none⟩ = some (.slice ab (qs[k].1.2.2).length cb) := by rw [← hbv]; exact own_at hrow2 (mcs_at qs k hkq).2.2
        have hset := own_setk hrow2 (k * 3 + 2) (.slice a1 (qs[k].1.2.2).length c1)
        rw [mcs_set qs k hkq] at hset
        have bw2 := hbw.trans (b2.mono (by omega : B ≤ wr.heap.size))
        have bset := bw2.setCell (p := ⟨g, k * 3 + 2, none⟩) hgB (.slice a1 (qs[k].1.2.2).length c1)
        have HFR2 : Hid (∀ (j : Nat) (p : Mac × Value), j < k + 1 → (qs.set k (qs[k].1, .slice a1 (qs[k].1.2.2).length c1))[j]? = some p → ∀ b, p.2.ownBlock = some b → B ≤ b) := Lib.hid fun j p hj hp b hb => by
          rw [List.getElem?_set] at hp
          by_cases hjk : k = j
          · rw [if_pos hjk, if_pos (by omega)] at hp
            injection hp with hp
            subst hp
            have := (hcv.lt b hb).1
            omega
          · rw [if_neg hjk] at hp
            exact HFR.out j p (by omega) hp b hb
        have hbod : Bod (w2.setCell ⟨g, k * 3 + 2, none⟩ (.slice a1 (qs[k].1.2.2).length c1)) (.slice (some ⟨g, 0, none⟩) n c0) (qs.set k (qs[k].1, .slice a1 (qs[k].1.2.2).length c1)) := by
          have hgs := setCell_grown w2 ⟨g, k * 3 + 2, none⟩ (.slice a1 (qs[k].1.2.2).length c1)
          have hbo := hbo.below b2
          intro p hp
          rcases List.mem_or_eq_of_mem_set hp with hp | rfl
          · have h3 := hbo p hp
            refine ⟨h3.1.apart hgs fun h0 b hb e => (h3.2.2 h0 b hb).2 (by cases e; rfl), h3.2.1, fun h0 b hb => ⟨by simpa [World.setCell] using (h3.2.2 h0 b hb).1, (h3.2.2 h0 b hb).2⟩⟩
          · refine ⟨Rt.apart (own_rd hcv) hgs fun h0 b hb e => ?_, hlq, fun h0 b hb => ⟨by simpa [World.setCell] using (hcv.lt b hb).2, fun e => ?_⟩⟩
            · injection e with e; have e : b = g := e; have := (hcv.lt b hb).1; omega
            · have e : some g = some b := e; injection e with e; have := (hcv.lt b hb).1; omega
        go_wp2_with fail
        go_roundw
        case rel => exact ⟨k + 1, _, by omega, by go_num, Lib.hid (by rw [List.length_set]; exact HQ.out), Lib.hid (by
            rw [← HM.out, List.map_set]
            apply List.ext_getElem
            · simp
            · intro i h1 h2
              rw [List.getElem_set]
              split
              · rename_i h; subst h; simp
              · rfl), hset, hbod, HFR2, bset⟩
        case measure => simp [intOf]; omega
    · obtain rfl : k = n := by omega
      go_wp2_with fail
      go_ret
      exact ⟨_, qs, rfl, HM.out, ⟨by rw [HQ.out]; exact hrow, hbo⟩, fun p hp => by
        obtain ⟨j, hj, rfl⟩ := List.getElem_of_mem hp
        exact HFR.out j _ (by have := HQ.out; omega) (List.getElem?_eq_getElem hj), hbw⟩

end Go.Proofs.YtjfikkjaifdkiaaGreatDoor

namespace Go.Proofs.YtjfikkjaifdkiaaGreatDoor
open Go.RowKit

/-! ### the order of texts -/
theorem cb_self (a : List UInt8) : Lib.compareBytes a a = 0 := by
  induction a with
  | nil => rfl
  | cons c r ih => rw [Lib.compareBytes, if_neg (by simp), if_neg (by simp), ih]
theorem cb_eq {a b : List UInt8} (h : Lib.compareBytes a b = 0) : a = b := by
  induction a generalizing b with
  | nil => cases b with
    | nil => rfl
    | cons d s => simp [Lib.compareBytes] at h
  | cons c r ih => cases b with
    | nil => simp [Lib.compareBytes] at h
    | cons d s =>
      rw [Lib.compareBytes] at h
      split at h
      · simp at h
      · split at h
        · simp at h
        · rename_i h1 h2
          have : c = d := by apply UInt8.toNat_inj.1; rw [UInt8.lt_iff_toNat_lt] at h1 h2; omega
          rw [this, ih h]
theorem cb_swap (a b : List UInt8) : Lib.compareBytes b a = - Lib.compareBytes a b := by
  induction a generalizing b with
  | nil => cases b <;> simp [Lib.compareBytes]
  | cons c r ih => cases b with
    | nil => simp [Lib.compareBytes]
    | cons d s =>
      rw [Lib.compareBytes, Lib.compareBytes]
      by_cases h1 : c < d
      · have h2 : ¬ d < c := by rw [UInt8.lt_iff_toNat_lt] at h1 ⊢; omega
        rw [if_neg h2, if_pos h1, if_pos h1]; rfl
      · by_cases h2 : d < c
        · rw [if_pos h2, if_neg h1, if_pos h2]
        · rw [if_neg h2, if_neg h1, if_neg h1, if_neg h2, ih]
theorem cb_trans {a b c : List UInt8} (h1 : Lib.compareBytes a b < 0) (h2 : Lib.compareBytes b c < 0) : Lib.compareBytes a c < 0 := by
  induction a generalizing b c with
  | nil => cases c with
    | nil => cases b <;> simp [Lib.compareBytes] at h1 h2
    | cons e t => simp [Lib.compareBytes]
  | cons x r ih => cases b with
    | nil => simp [Lib.compareBytes] at h1
    | cons y s => cases c with
      | nil => simp [Lib.compareBytes] at h2
      | cons z t =>
        rw [Lib.compareBytes] at h1 h2 ⊢
        simp only [UInt8.lt_iff_toNat_lt] at h1 h2 ⊢
        by_cases hxz : x.toNat < z.toNat
        · rw [if_pos hxz]; decide
        · rw [if_neg hxz]
          by_cases hxy : x.toNat < y.toNat
          · by_cases hyz : y.toNat < z.toNat
            · omega
            · rw [if_neg hyz] at h2
              by_cases hzy : z.toNat < y.toNat
              · rw [if_pos hzy] at h2; simp at h2
              · omega
          · rw [if_neg hxy] at h1
            by_cases hyx : y.toNat < x.toNat
            · rw [if_pos hyx] at h1; simp at h1
            · rw [if_neg hyx] at h1
              by_cases hyz : y.toNat < z.toNat
              · omega
              · rw [if_neg hyz] at h2
                by_cases hzy : z.toNat < y.toNat
                · rw [if_pos hzy] at h2; simp at h2
                · rw [if_neg hzy] at h2
                  rw [if_neg (by omega)]
                  exact ih h1 h2

/-- Names in order. -/
def Sorted (ns : List (List UInt8)) : Prop := ns.Pairwise fun a b => Lib.compareBytes a b < 0
/-- So many names stand ahead of one. -/
def lb (ns : List (List UInt8)) (t : List UInt8) : Nat := (ns.takeWhile fun a => decide (Lib.compareBytes a t < 0)).length
theorem lb_le (ns : List (List UInt8)) (t : List UInt8) : lb ns t ≤ ns.length := by
  have := (List.takeWhile_sublist (l := ns) (fun a => decide (Lib.compareBytes a t < 0))).length_le
  exact this
theorem lb_eq {ns : List (List UInt8)} {t : List UInt8} {i : Nat} (hi : i ≤ ns.length) (h1 : ∀ x (h : x < ns.length), x < i → Lib.compareBytes ns[x] t < 0) (h2 : ∀ (h : i < ns.length), ¬ Lib.compareBytes ns[i] t < 0) : lb ns t = i := by
  induction ns generalizing i with
  | nil => simp at hi; subst hi; rfl
  | cons a r ih =>
    unfold lb
    cases i with
    | zero =>
      have := h2 (by simp)
      rw [List.takeWhile_cons, if_neg (by simpa using this)]; rfl
    | succ i =>
      have h0 := h1 0 (by simp) (by omega)
      rw [List.takeWhile_cons, if_pos (by simpa using h0), List.length_cons]
      have := ih (i := i) (by simpa using hi) (fun x hx hxi => h1 (x + 1) (by simpa using hx) (by omega)) (fun h => h2 (by simpa using h))
      unfold lb at this
      omega

theorem lb_mem {ns : List (List UInt8)} {t : List UInt8} (hs : Sorted ns) {x : Nat} (hx : x < ns.length) (h : ns[x] = t) : lb ns t = x := by
  refine lb_eq (by omega) (fun y hy hyx => ?_) (fun _ => ?_)
  · have := List.pairwise_iff_getElem.1 hs y x hy hx hyx
    rwa [h] at this
  · rw [h, cb_self]; omega
theorem lb_is {ns : List (List UInt8)} {t : List UInt8} (hs : Sorted ns) : (ns[lb ns t]? == some t) = ns.contains t := by
  by_cases h : t ∈ ns
  · obtain ⟨x, hx, e⟩ := List.getElem_of_mem h
    rw [lb_mem hs hx e, List.getElem?_eq_getElem hx, e]
    simp [h]
  · have h1 : ns.contains t = false := by simpa using h
    rw [h1]
    cases hq : ns[lb ns t]? with
    | none => rfl
    | some a =>
      have : a ≠ t := by rintro rfl; exact h (List.mem_of_getElem? hq)
      simpa using this

theorem lb_lt {ns : List (List UInt8)} {t : List UInt8} {x : Nat} (hx : x < ns.length) (h : x < lb ns t) : Lib.compareBytes ns[x] t < 0 := by
  unfold lb at h
  have e := List.takeWhile_append_dropWhile (p := fun a => decide (Lib.compareBytes a t < 0)) (l := ns)
  have h2 := List.all_eq_true.1 (List.all_takeWhile (p := fun a => decide (Lib.compareBytes a t < 0)) (l := ns)) _ (List.getElem_mem h)
  have h3 : (ns.takeWhile fun a => decide (Lib.compareBytes a t < 0))[x] = ns[x] := by
    have : ((ns.takeWhile fun a => decide (Lib.compareBytes a t < 0)) ++ ns.dropWhile fun a => decide (Lib.compareBytes a t < 0))[x]? = ns[x]? := by rw [e]
    rw [List.getElem?_append_left h, List.getElem?_eq_getElem h, List.getElem?_eq_getElem hx] at this
    exact Option.some.inj this
  rw [h3] at h2
  simpa using h2
theorem lb_ge {ns : List (List UInt8)} {t : List UInt8} (hx : lb ns t < ns.length) : 0 ≤ Lib.compareBytes ns[lb ns t] t := by
  have e := List.takeWhile_append_dropWhile (p := fun a => decide (Lib.compareBytes a t < 0)) (l := ns)
  have hd : ns.dropWhile (fun a => decide (Lib.compareBytes a t < 0)) ≠ [] := by
    intro h0
    rw [h0, List.append_nil] at e
    have := congrArg List.length e
    unfold lb at hx
    omega
  have h1 := List.head?_dropWhile_not (fun a => decide (Lib.compareBytes a t < 0)) ns
  have h2 : (ns.dropWhile fun a => decide (Lib.compareBytes a t < 0)).head? = some ns[lb ns t] := by
    have : ((ns.takeWhile fun a => decide (Lib.compareBytes a t < 0)) ++ ns.dropWhile fun a => decide (Lib.compareBytes a t < 0))[lb ns t]? = ns[lb ns t]? := by rw [e]
    rw [List.getElem?_eq_getElem hx] at this
    rw [← this, List.getElem?_append_right (by unfold lb; exact Nat.le_refl _), List.head?_eq_getElem?]
    congr 1
    unfold lb
    omega
  rw [h2] at h1
  simpa using h1

theorem less_is : ∀ (a b : List UInt8), Op.bytesLess a b = decide (Lib.compareBytes a b < 0)
  | [], [] => by simp [Op.bytesLess, Lib.compareBytes]
  | _ :: _, [] => by simp [Op.bytesLess, Lib.compareBytes]
  | [], _ :: _ => by simp [Op.bytesLess, Lib.compareBytes]
  | a :: x, b :: y => by
    rw [Op.bytesLess, less_is x y, Lib.compareBytes]
    by_cases h1 : a < b
    · simp [h1]
    · by_cases h2 : b < a
      · have : ¬ a = b := by rintro rfl; exact h1 h2
        simp [h1, h2, this]
      · have : a = b := by
          apply UInt8.toNat_inj.1
          rw [UInt8.lt_iff_toNat_lt] at h1 h2
          omega
        subst this
        simp

end Go.Proofs.YtjfikkjaifdkiaaGreatDoor

namespace Go.Proofs.YtjfikkjaifdkiaaGreatDoor
open Go.RowKit

namespace Mx
open Lx
def isL (c : UInt8) : Bool := (97 ≤ c && c ≤ 122) || (65 ≤ c && c ≤ 90)
def named (s : Bytes) : Bool := s.all isL && (1 ≤ s.length && s.length ≤ 20)
end Mx

theorem isL_bits_nat : ∀ n : Fin 256, Mx.isL (UInt8.ofNat n.val) = decide (97 ≤ bits .or .u8 (n.val : Int) 32 ∧ bits .or .u8 (n.val : Int) 32 ≤ 122) := by decide +kernel
theorem isL_bits (c : UInt8) : Mx.isL c = decide (97 ≤ bits .or .u8 (c.toNat : Int) 32 ∧ bits .or .u8 (c.toNat : Int) 32 ≤ 122) := by
  have := isL_bits_nat ⟨c.toNat, c.toNat_lt⟩
  simpa using this

set_option maxHeartbeats 1600000 in
theorem named_any (s : List UInt8) (hs : s.length ≤ 1000000000) (w : World) :
    Calls Tryz.prog 103 #[.string (S s)] w fun e w' => e = .returned (.bool (Mx.named s)) ∧ w' = w := by
  go_enter Tryz.func103, Tryz.ntmps103
  go_wp2_with fail
  go_loop [7] (fun i => ∃ (k : Nat), k ≤ s.length ∧ i = .int .i64 k ∧ Hid ((s.take k).all Mx.isL = true)) (fun i => s.length - (intOf i).toNat)
  case atStart => exact ⟨0, Nat.zero_le _, rfl, rfl⟩
  case round =>
    obtain ⟨k, hk, rfl, HC⟩ := hrel
    by_cases hlt : k < s.length
    · have hL := isL_bits s[k]
      obtain ⟨d, hd⟩ : ∃ d : Int, bits .or .u8 (s[k].toNat : Int) 32 = d := ⟨_, rfl⟩
      rw [hd] at hL
      by_cases h1 : d < 97
      · have HF := Lib.hid (show Mx.named s = false by
          have : Mx.isL s[k] = false := by rw [hL]; simp; omega
          have h2 : s.all Mx.isL = false := by rw [List.all_eq_false]; exact ⟨s[k], List.getElem_mem hlt, by simp [this]⟩
          rw [Mx.named, h2]; rfl)
        clear hL
        go_wp2_with fail
        go_ret
        exact ⟨ret_bool HF.out.symm, rfl⟩
      · by_cases h2 : 122 < d
        · have HF := Lib.hid (show Mx.named s = false by
            have : Mx.isL s[k] = false := by rw [hL]; simp; omega
            have h2 : s.all Mx.isL = false := by rw [List.all_eq_false]; exact ⟨s[k], List.getElem_mem hlt, by simp [this]⟩
            rw [Mx.named, h2]; rfl)
          clear hL
          go_wp2_with fail
          go_ret
          exact ⟨ret_bool HF.out.symm, rfl⟩
        · have HN := Lib.hid (show (s.take (k + 1)).all Mx.isL = true by
            have : Mx.isL s[k] = true := by rw [hL]; simp; omega
            rw [take_snoc s k hlt, List.all_append, HC.out]; simp [this])
          clear hL
          go_wp2_with fail
          go_round
          case rel => exact ⟨k + 1, by omega, by go_num, HN⟩
          case measure => simp [intOf]; omega
    · obtain rfl : k = s.length := by omega
      have HN := Lib.hid (show Mx.named s = (decide (1 ≤ s.length) && decide (s.length ≤ 20)) by
        have := HC.out
        rw [List.take_length] at this
        rw [Mx.named, this]; rfl)
      cases h1 : decide ((1 : Int) ≤ (s.length : Int))
      · have HB := Lib.hid (show Mx.named s = false by
          have : ¬ (1 ≤ s.length) := by have := of_decide_eq_false h1; omega
          rw [HN.out, decide_eq_false this]; rfl)
        go_wp2_with fail
        go_ret
        exact ⟨ret_bool HB.out.symm, rfl⟩
      · cases h2 : decide ((s.length : Int) ≤ 20)
        · go_wp2_with fail
          go_ret
          exact ⟨ret_bool (by rw [HN.out]; simp at h1 h2 ⊢; omega), rfl⟩
        · go_wp2_with fail
          go_ret
          exact ⟨ret_bool (by rw [HN.out]; simp at h1 h2 ⊢; omega), rfl⟩

set_option maxHeartbeats 1600000 in
theorem cmpf_any (n t : List UInt8) (p : Int) (b : Value) (w : World) :
    Calls Tryz.prog 110 #[.agg #[.string (S n), .int .i64 p, b], .string (S t)] w fun e w' => e = .returned (.int .i64 (Lib.compareBytes n t)) ∧ Below w.heap.size w w' := by
  go_enter Tryz.func110, Tryz.ntmps110
  go_wp2_with fail
  (with_reducible refine (Tryz.strings_Compare (S n) (S t) _).mono ?_); rintro e w2 ⟨rfl, rfl⟩
  rw [S_dataList, S_dataList]
  go_wp2_with fail
  go_ret
  exact ⟨rfl, (Below.refl _ _).alloc (Nat.le_refl _) _⟩

set_option maxRecDepth 20000 in
set_option maxHeartbeats 1600000 in
/-- 'slices.BinarySearchFunc' of macros, by their names. -/
theorem bin_any (v : Value) (ps : List (Mac × Value)) (t : List UInt8) (w : World) (hl : Rd w 3 v ps.length (mcs ps)) (hlen : ps.length ≤ 1000000) (hs : Sorted (ps.map fun p => p.1.1)) :
    Calls Tryz.prog 109 #[v, .string (S t), .func (.func 110) #[] #[]] w fun e w' => e = .returned (.tuple #[.int .i64 (lb (ps.map fun p => p.1.1) t : Nat), .bool ((ps.map fun p => p.1.1)[lb (ps.map fun p => p.1.1) t]? == some t)]) ∧ Below w.heap.size w w' := by
  obtain ⟨a0, c0, rfl⟩ := hl.shape
  have A := Lib.hid hl
  have SO := Lib.hid hs
  clear hl hs
  obtain ⟨ns, hns⟩ : ∃ ns, ns = ps.map fun p => p.1.1 := ⟨_, rfl⟩
  rw [← hns] at SO ⊢
  have hnl : ns.length = ps.length := by rw [hns]; simp
  have hnat : ∀ x (h : x < ps.length), ns[x]? = some ps[x].1.1 := by intro x h; subst hns; simp [h]
  have HN := Lib.hid hns
  clear hns
  have HNL := Lib.hid hnl
  go_enter Tryz.func109, Tryz.ntmps109
  go_wp2_with fail
  go_loopw [9, 10] (fun vi vj wr => ∃ i j : Nat, vi = .int .i64 i ∧ vj = .int .i64 j ∧ i ≤ j ∧ j ≤ ps.length ∧ Hid (∀ x (h : x < ns.length), x < i → Lib.compareBytes ns[x] t < 0) ∧ Hid (∀ x (h : x < ns.length), j ≤ x → 0 ≤ Lib.compareBytes ns[x] t) ∧ Below w.heap.size w wr) (fun vi vj _ => (intOf vj).toNat - (intOf vi).toNat)
  case atStart => exact ⟨0, ps.length, rfl, rfl, Nat.zero_le _, Nat.le_refl _, Lib.hid (by intro x _ h; omega), Lib.hid (by intro x h h2; have := HNL.out; omega), Below.refl _ _⟩
  case round =>
    obtain ⟨i, j, rfl, rfl, hij, hj, H1, H2, hbw⟩ := hrel
    have hsz := hbw.size
    by_cases hlt : i < j
    · obtain ⟨h, hh⟩ : ∃ h, h = (i + j) / 2 := ⟨_, rfl⟩
      have hhl : h < ps.length := by omega
      have hhi : i ≤ h := by omega
      have hhj : h < j := by omega
      obtain ⟨b1, o1, rfl, c1, c2, c3⟩ := mac_at (A.out.below' hbw) hhl
      have hq : ((i : Int) + (j : Int)) / 2 = (h : Int) := by omega
      have hnh := hnat h hhl
      have hnh2 : ns[h]'(by rw [HNL.out]; exact hhl) = ps[h].1.1 := by
        have := List.getElem?_eq_some_iff.1 hnh
        exact this.2
      obtain ⟨⟨⟨nm, pm, bm⟩, bv⟩, hp⟩ : ∃ x, x = ps[h] := ⟨_, rfl⟩
      rw [← hp] at c1 c2 c3 hnh2
      have hnh2 : ns[h]'(by rw [HNL.out]; exact hhl) = nm := hnh2
      clear hh hp hnh
      rcases (by omega : Lib.compareBytes nm t < 0 ∨ 0 ≤ Lib.compareBytes nm t) with hc | hc
      · have HX := Lib.hid (show ∀ x (hx : x < ns.length), x < h + 1 → Lib.compareBytes ns[x] t < 0 by
          intro x hx hxh
          by_cases e : x = h
          · subst e; rw [hnh2]; exact hc
          · have h3 : Lib.compareBytes ns[x] ns[h] < 0 := List.pairwise_iff_getElem.1 SO.out x h hx (by omega) (by omega)
            rw [hnh2] at h3
            exact cb_trans h3 hc)
        have HC := Lib.hid hc
        obtain ⟨z, hz⟩ : ∃ z, z = Lib.compareBytes nm t := ⟨_, rfl⟩
        rw [← hz] at hc
        have HZ := Lib.hid hz
        clear hz hnh2 hnat
        go_wp2_with fail
        (with_reducible refine (cmpf_any nm t pm bv wr).mono ?_); rintro e w2 ⟨rfl, b2⟩
        rw [← HZ.out]
        go_wp2_with fail
        go_roundw
        case rel => exact ⟨h + 1, j, by go_num, rfl, by omega, hj, HX, H2, hbw.trans (b2.mono hsz)⟩
        case measure => simp [intOf]; omega
      · have HX := Lib.hid (show ∀ x (hx : x < ns.length), h ≤ x → 0 ≤ Lib.compareBytes ns[x] t by
          intro x hx hxh
          by_cases e : x = h
          · subst e; rw [hnh2]; exact hc
          · have h3 : Lib.compareBytes ns[h] ns[x] < 0 := List.pairwise_iff_getElem.1 SO.out h x (by omega) hx (by omega)
            rw [hnh2] at h3
            rcases (by omega : 0 ≤ Lib.compareBytes ns[x] t ∨ Lib.compareBytes ns[x] t < 0) with h4 | h4
            · exact h4
            · have := cb_trans h3 h4; omega)
        obtain ⟨z, hz⟩ : ∃ z, z = Lib.compareBytes nm t := ⟨_, rfl⟩
        rw [← hz] at hc
        have HZ := Lib.hid hz
        clear hz hnh2 hnat
        go_wp2_with fail
        (with_reducible refine (cmpf_any nm t pm bv wr).mono ?_); rintro e w2 ⟨rfl, b2⟩
        rw [← HZ.out]
        go_wp2_with fail
        go_roundw
        case rel => exact ⟨i, h, rfl, rfl, hhi, by omega, H1, HX, hbw.trans (b2.mono hsz)⟩
        case measure => simp [intOf]; omega
    · obtain rfl : i = j := by omega
      have HL := Lib.hid (lb_eq (ns := ns) (t := t) (i := i) (by rw [HNL.out]; exact hj) H1.out (fun hi => by have := H2.out i hi (Nat.le_refl _); omega))
      by_cases hin : i < ps.length
      · obtain ⟨b1, o1, rfl, c1, c2, c3⟩ := mac_at (A.out.below' hbw) hin
        have hnh := hnat i hin
        obtain ⟨⟨⟨nm, pm, bm⟩, bv⟩, hp⟩ : ∃ x, x = ps[i] := ⟨_, rfl⟩
        rw [← hp] at c1 c2 c3 hnh
        obtain ⟨z, hz⟩ : ∃ z, z = Lib.compareBytes nm t := ⟨_, rfl⟩
        have HR := Lib.hid (show (ns[lb ns t]? == some t) = (z == 0) by
          rw [HL.out, hnh, hz]
          by_cases e : nm = t
          · subst e; rw [cb_self]; simp
          · have : ¬ Lib.compareBytes nm t = 0 := fun h => e (cb_eq h)
            have h1 : (nm == t) = false := by simpa using e
            have h2 : (Lib.compareBytes nm t == 0) = false := by simpa using this
            rw [h2]; exact h1)
        have HZ := Lib.hid hz
        clear hz hnh hp hnat
        have hiz : (i : Int) < (ps.length : Int) := by omega
        go_wp2_with fail
        (with_reducible refine (cmpf_any nm t pm bv wr).mono ?_); rintro e w2 ⟨rfl, b2⟩
        rw [← HZ.out]
        go_wp2_with fail
        go_ret2
        exact ⟨by rw [HR.out, HL.out]; rfl, hbw.trans (b2.mono hsz)⟩
      · have HR := Lib.hid (show (ns[lb ns t]? == some t) = false by
          rw [HL.out, List.getElem?_eq_none (by rw [HNL.out]; omega)]; rfl)
        have hiz : decide ((i : Int) < (ps.length : Int)) = false := by simp; omega
        clear hnat
        go_wp2_with fail
        go_ret2
        exact ⟨by rw [HR.out, HL.out]; rfl, hbw⟩

set_option maxHeartbeats 1600000 in
/-- 'find': where a macro is, or would be. -/
theorem find_any (v : Value) (ps : List (Mac × Value)) (t : List UInt8) (w : World) (hl : Rd w 3 v ps.length (mcs ps)) (hlen : ps.length ≤ 1000000) (hs : Sorted (ps.map fun p => p.1.1)) :
    Calls Tryz.prog 80 #[v, .string (S t)] w fun e w' => e = .returned (.tuple #[.int .i64 (lb (ps.map fun p => p.1.1) t : Nat), .bool ((ps.map fun p => p.1.1)[lb (ps.map fun p => p.1.1) t]? == some t)]) ∧ Below w.heap.size w w' := by
  have HB := Lib.hid (bin_any v ps t w hl hlen hs)
  obtain ⟨a0, c0, rfl⟩ := hl.shape
  obtain ⟨r, hr⟩ : ∃ r, r = lb (ps.map fun p => p.1.1) t := ⟨_, rfl⟩
  obtain ⟨q, hq⟩ : ∃ q, q = ((ps.map fun p => p.1.1)[lb (ps.map fun p => p.1.1) t]? == some t) := ⟨_, rfl⟩
  rw [← hq, ← hr] at HB ⊢
  clear hq hr hl hs
  go_enter Tryz.func80, Tryz.ntmps80
  go_wp2_with fail
  (with_reducible refine HB.out.mono ?_); rintro e w2 ⟨rfl, b2⟩
  go_wp2_with fail
  go_ret2
  exact ⟨rfl, b2⟩

end Go.Proofs.YtjfikkjaifdkiaaGreatDoor
