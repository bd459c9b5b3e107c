
/- The macro layer: 'of', 'Group', walked. No condition. -/
import Derived.Test.YtkpdhpbnbpjceaaMacRef
import Derived.Test.YtkpdhpbnbpjceaaShelf
import Derived.Lib.SlBytesConst
namespace Go.Proofs.Ytkpdhpbnbpjceaa
open Go.RowKit

/-- A token as a value. -/
abbrev tv (t : Lx.Tok) : Value := .agg #[.int .i64 t.1, .string (S t.2)]

/-- 'of': is a token one of some kinds? -/
theorem of_any (t : Lx.Tok) (b o c : Nat) (zs : List Int) (w : World) (hbig : zs.length ≤ 1000000000) (hc : ∀ j, j < zs.length → w.cell? ⟨b, o + j, none⟩ = some (.int .i64 (zs.getD j 0))) :
    Calls Try.prog 35 #[tv t, .slice (some ⟨b, o, none⟩) zs.length c] w fun e w' => e = .returned (.bool (zs.contains t.1)) ∧ Below w.heap.size w w' := by
  go_enter Try.func35, Try.ntmps35
  go_wp2_with fail
  (with_reducible refine (Try.slices_Contains_int b o zs.length c zs t.1 _ (Nat.le_refl _) (by omega) (fun j hj => Go.Lib.cell?_alloc_marked _ (hc j hj))).mono ?_); rintro e w' ⟨rfl, rfl⟩
  rw [List.take_length]
  obtain ⟨q, hq⟩ : ∃ q, q = zs.contains t.1 := ⟨_, rfl⟩
  rw [← hq]
  go_wp2_with fail
  go_ret
  exact ⟨by rw [List.contains_eq_mem]; rfl, (Below.refl _ _).alloc (Nat.le_refl _) _⟩

/-- 'of' at one kind that the call has just laid. -/
theorem of1_any (t : Lx.Tok) (k : Int) (w : World) (b : Nat) (hb : b = w.heap.size) :
    Calls Try.prog 35 #[tv t, .slice (some ⟨b, 0, none⟩) 1 1] (w.alloc (.cells #[.int .i64 k] 3)) fun e w' => e = .returned (.bool (t.1 == k)) ∧ Below w.heap.size w w' := by
  subst hb
  refine (of_any t w.heap.size 0 1 [k] _ (by simp) (fun j hj => ?_)).mono fun e w' ⟨h1, h2⟩ => ⟨by rw [h1]; simp [List.contains, List.elem]; cases t.1 == k <;> rfl, ((Below.refl _ _).alloc (Nat.le_refl _) _).trans (h2.mono (by simp))⟩
  have : j = 0 := by simp at hj; omega
  subst this
  rw [cell_of_row _ w.heap.size _ _ 3 (0, 0) (heap_alloc_new w _)]
  rfl
theorem of2_any (t : Lx.Tok) (k m : Int) (w : World) (b : Nat) (hb : b = w.heap.size) :
    Calls Try.prog 35 #[tv t, .slice (some ⟨b, 0, none⟩) 2 2] (w.alloc (.cells #[.int .i64 k, .int .i64 m] 3)) fun e w' => e = .returned (.bool (t.1 == k || t.1 == m)) ∧ Below w.heap.size w w' := by
  subst hb
  refine (of_any t w.heap.size 0 2 [k, m] _ (by simp) (fun j hj => ?_)).mono fun e w' ⟨h1, h2⟩ => ⟨by rw [h1]; simp only [List.contains, List.elem]; cases t.1 == k <;> cases t.1 == m <;> rfl, ((Below.refl _ _).alloc (Nat.le_refl _) _).trans (h2.mono (by simp))⟩
  have : j = 0 ∨ j = 1 := by simp at hj; omega
  rcases this with rfl | rfl <;> (rw [cell_of_row _ w.heap.size _ _ 3 (0, 0) (heap_alloc_new w _)]; rfl)

theorem close_next2 {l : List Lx.Tok} {p k dd d2 : Nat} (h : p + k < l.length) (hc : Mx.close 0 (l.drop p) = (Mx.close dd (l.drop (p + k))).map (· + k)) (hs : Mx.step dd l[p + k] = d2) (hd : d2 ≠ 0) :
    Mx.close 0 (l.drop p) = (Mx.close d2 (l.drop (p + (k + 1)))).map (· + (k + 1)) := by
  rw [hc, drop_at h, Mx.close, hs, if_neg hd, Option.map_map]
  congr 1
  funext x
  simp; omega
theorem close_stop2 {l : List Lx.Tok} {p k dd : Nat} (h : p + k < l.length) (hc : Mx.close 0 (l.drop p) = (Mx.close dd (l.drop (p + k))).map (· + k)) (hs : Mx.step dd l[p + k] = 0) :
    Mx.close 0 (l.drop p) = some (1 + k) := by
  rw [hc, drop_at h, Mx.close, hs, if_pos rfl]; rfl

/-- How often each kind was met. -/
abbrev deep (A B : Nat) : Array Value := #[.int .i64 0, .int .i64 0, .int .i64 0, .int .i64 0, .int .i64 0, .int .i64 A, .int .i64 B, .int .i64 0]

set_option maxHeartbeats 1600000 in
theorem group_in (v : Value) (l : List Lx.Tok) (p : Nat) (w : World) (hl : Rt w v l) (hlen : l.length ≤ 1000000000) (hp : p ≤ l.length) :
    Calls Try.prog 10 #[v, .int .i64 (p : Int)] w fun e w' => e = .returned (.tuple #[.int .i64 (gres p (Mx.group (l.drop p))).1, .int .i64 (gres p (Mx.group (l.drop p))).2]) ∧ Below w.heap.size w w' := by
  obtain ⟨a0, c0, rfl⟩ := hl.shape
  by_cases hlt : p < l.length
  · obtain ⟨b1, o1, rfl, c10, c11⟩ := hl.at hlt
    have hbe : ((p : Int) == (l.length : Int)) = false := by simp; omega
    cases h5 : (l[p].1 == 5)
    · have h5' : ¬ l[p].1 = 5 := by simpa using h5
      have hg : Mx.group (l.drop p) = none := by rw [drop_at hlt, Mx.group, if_neg h5']
      rw [hg]
      clear hg h5' hl
      go_enter Try.func10, Try.ntmps10
      go_wp2_with fail
      (with_reducible refine (of1_any l[p] 5 w _ rfl).mono ?_); rintro e w1 ⟨rfl, b1⟩
      rw [h5]
      go_wp2_with fail
      go_ret2
      exact ⟨rfl, b1⟩
    · have h5' : l[p].1 = 5 := by simpa using h5
      have hg : Mx.group (l.drop p) = Mx.close 0 (l.drop p) := by rw [drop_at hlt, Mx.group, if_pos h5']
      rw [hg]
      clear hg
      have HR := Lib.hid h5'
      have hcap := Rd.cap hl
      clear h5'
      go_enter Try.func10, Try.ntmps10
      go_wp2_with fail
      (with_reducible refine (of1_any l[p] 5 w _ rfl).mono ?_); rintro e w1 ⟨rfl, b1⟩
      rw [h5]
      go_wp2_with fail
      clear c10 c11
      have hgw : w.heap.size ≤ w1.heap.size := b1.size
      go_loopw [35] (fun i wr => ∃ k A B : Nat, i = .int .i64 k ∧ k ≤ l.length - p ∧ B ≤ A ∧ A ≤ k ∧ (k = 0 ∨ B < A) ∧ Hid (Mx.close 0 (l.drop p) = (Mx.close (A - B) (l.drop (p + k))).map (· + k)) ∧ wr.heap[w1.heap.size]? = some (.cells (deep A B) 79 (0, 0)) ∧ Below w.heap.size w wr) (fun i _ => l.length - (intOf i).toNat)
      case atStart => exact ⟨0, 0, 0, rfl, Nat.zero_le _, Nat.le_refl _, Nat.le_refl _, .inl rfl, by simp [Hid], heap_alloc_new w1 _, b1.alloc hgw _⟩
      case round =>
        obtain ⟨k, A, B, rfl, hk, hBA, hAk, hor, HC, hrow, bw⟩ := hrel
        by_cases hlk : k < l.length - p
        · have hlk2 : p + k < l.length := by omega
          obtain ⟨b2, o2, hb2, c20, c21⟩ := (hl.below' bw).at hlk2
          cases hb2
          obtain ⟨z, s, hzs⟩ : ∃ z s, l[p + k] = (z, s) := ⟨_, _, rfl⟩
          rw [hzs] at c20 c21
          rw [show o1 + (p + k) * 2 = o1 + p * 2 + k * 2 by omega] at c20 c21
          clear hl
          go_wp2_with fail
          (with_reducible refine (of2_any (z, s) 5 6 _ _ (by simp)).mono ?_); rintro e w2 ⟨rfl, b2⟩
          have hrl := row_lt hrow
          have hr2 := (b2.block w1.heap.size (by simp; omega)).trans ((Below.heap_alloc wr _ w1.heap.size hrl).trans hrow)
          have ht2 := (b2.block wr.heap.size (by simp)).trans (heap_alloc_new wr _)
          have bw2 := bw.trans ((((Below.refl _ wr).alloc (Nat.le_refl _) _).trans (b2.mono (by simp))).mono bw.size)
          have c5 : w2.cell? ⟨wr.heap.size, 0, none⟩ = some (.int .i64 z) := row_cell ht2 0
          have d5 : w2.cell? ⟨w1.heap.size, 5, none⟩ = some (.int .i64 A) := row_cell hr2 5
          have d6 : w2.cell? ⟨w1.heap.size, 6, none⟩ = some (.int .i64 B) := row_cell hr2 6
          have f5 := row_free hr2 5
          have f6 := row_free hr2 6
          cases h5z : (z == 5)
          · cases h6z : (z == 6)
            · have hs : Mx.step (A - B) l[p + k] = A - B := by
                unfold Mx.step; rw [hzs, if_neg (by simpa using h5z), if_neg (by simpa using h6z)]
              have hd0 : B < A := by
                rcases hor with rfl | h
                · have := HR.out; rw [show l[p] = (z, s) from hzs] at this; simp only at this; simp [this] at h5z
                · exact h
              have HN := Lib.hid (close_next2 (p := p) hlk2 HC.out hs (by omega))
              go_wp2_with fail
              go_roundw
              case rel => exact ⟨k + 1, A, B, by go_num, by omega, hBA, by omega, .inr hd0, HN, hr2, bw2⟩
              case measure => simp [intOf]; omega
            · have hz6 : z = 6 := by simpa using h6z
              subst hz6
              have hs : Mx.step (A - B) l[p + k] = A - (B + 1) := by
                unfold Mx.step; rw [hzs, if_neg (by simp), if_pos rfl]; omega
              have hd0 : B < A := by
                rcases hor with rfl | h
                · have := HR.out; rw [show l[p] = (6, s) from hzs] at this; simp at this
                · exact h
              have bw3 := bw2.setCell (p := ⟨w1.heap.size, 6, none⟩) hgw (.int .i64 ((B : Int) + 1))
              have hr3 := row_set hr2 6 (.int .i64 ((B : Int) + 1))
              cases hbe2 : ((A : Int) == ((B : Int) + 1))
              · have hAB : A ≠ B + 1 := by intro e; rw [e] at hbe2; simp at hbe2
                have HN := Lib.hid (close_next2 (p := p) hlk2 HC.out hs (by omega))
                go_wp2_with fail
                go_roundw
                case rel => exact ⟨k + 1, A, B + 1, by go_num, by omega, by omega, by omega, .inr (by omega), HN, hr3, bw3⟩
                case measure => simp [intOf]; omega
              · have hAB : A = B + 1 := by have : (A : Int) = (B : Int) + 1 := by simpa using hbe2
                                           omega
                have HN := Lib.hid (close_stop2 (p := p) hlk2 HC.out (hs.trans (by omega)))
                go_wp2_with fail
                go_ret2
                exact ⟨ret_two (by rw [HN.out]; simp only [gres]; omega) (by rw [HN.out]; rfl), bw3⟩
          · have hz5 : z = 5 := by simpa using h5z
            subst hz5
            have hs : Mx.step (A - B) l[p + k] = A + 1 - B := by
              unfold Mx.step; rw [hzs, if_pos rfl]; omega
            have HN := Lib.hid (close_next2 (p := p) hlk2 HC.out hs (by omega))
            have hbe2 : (((A : Int) + 1) == (B : Int)) = false := by simp; omega
            have bw3 := bw2.setCell (p := ⟨w1.heap.size, 5, none⟩) hgw (.int .i64 ((A : Int) + 1))
            have hr3 := row_set hr2 5 (.int .i64 ((A : Int) + 1))
            go_wp2_with fail
            go_roundw
            case rel => exact ⟨k + 1, A + 1, B, by go_num, by omega, by omega, by omega, .inr (by omega), HN, hr3, bw3⟩
            case measure => simp [intOf]; omega
        · have hkl : p + k = l.length := by omega
          have h0 := HC.out
          rw [hkl, List.drop_length, Mx.close] at h0
          have HN := Lib.hid h0
          clear h0 hl
          go_wp2_with fail
          go_ret2
          exact ⟨ret_two (by rw [HN.out]; rfl) (by rw [HN.out]; rfl), bw⟩
  · have he : p = l.length := by omega
    have hg : Mx.group (l.drop p) = none := by rw [he, List.drop_length]; rfl
    rw [hg]
    have hbe : ((p : Int) == (l.length : Int)) = true := by simp; omega
    clear hg hl
    go_enter Try.func10, Try.ntmps10
    go_wp2_with fail
    go_ret2
    exact ⟨rfl, Below.refl _ _⟩

end Go.Proofs.Ytkpdhpbnbpjceaa
