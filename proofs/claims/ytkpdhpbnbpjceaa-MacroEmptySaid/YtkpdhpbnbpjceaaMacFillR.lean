
/- The macro layer's reference: what a body is, filled. No condition. -/
import Derived.Test.YtkpdhpbnbpjceaaMacFill
import Derived.Lib.SlBytesConst
namespace Go.Proofs.Ytkpdhpbnbpjceaa
open Go.RowKit

theorem argAt_step {ls : List (List Lx.Tok)} {q : Int} {m : Nat} (hm : m < ls.length) : Mx.argAt ls q (m + 1) = Mx.argAt ls q m ++ (if q = m then ls[m] else []) := by
  unfold Mx.argAt
  by_cases h : q = m
  · subst h
    rw [if_pos (by omega), if_neg (by omega), if_pos rfl]
    simp [List.getD, hm]
  · rw [if_neg h, List.append_nil]
    by_cases h2 : 0 ≤ q ∧ q < (m : Int)
    · rw [if_pos (by omega), if_pos h2]
    · rw [if_neg (by omega), if_neg h2]

/-- Is a text the digit of this place? -/
theorem place_is (s : List UInt8) (m : Nat) (hm : m < 9) : (s == [UInt8.ofNat (49 + m)]) = decide (Mx.placeI s = m) := by
  have e : (UInt8.ofNat (49 + m)).toNat = 49 + m := by simp; omega
  rw [Bool.eq_iff_iff, beq_iff_eq, decide_eq_true_eq]
  match s with
  | [] => simp [Mx.placeI]; try omega
  | [c] =>
    simp only [Mx.placeI, List.cons.injEq, and_true, ← UInt8.toNat_inj, e]
    omega
  | a :: b :: r => simp [Mx.placeI]; try omega

theorem conv_digit (w : World) (m : Nat) (hm : m < 9) : (convert 84 9 (.slice (some ⟨w.heap.size, 0, none⟩) 1 1)).run Try.prog (w.alloc (.cells #[.int .u8 (49 + (m : Int))] 5)) = .ok (.string (S [UInt8.ofNat (49 + m)])) (w.alloc (.cells #[.int .u8 (49 + (m : Int))] 5)) := by
  refine conv_bytes (l := [UInt8.ofNat (49 + m)]) ⟨rfl, .inr ⟨w.heap.size, 0, 1, rfl, fun _ => by simp, fun j u hj => ?_, by simp⟩⟩
  rw [Nat.zero_add, cell_of_row _ w.heap.size _ _ 5 (0, 0) (heap_alloc_new w _)]
  have e : (((UInt8.ofNat (49 + m)).toNat : Nat) : Int) = 49 + (m : Int) := by simp; omega
  simp only [Lib.byteCells, List.map_cons, List.map_nil, e] at hj
  simpa using hj

set_option maxRecDepth 20000 in
set_option maxHeartbeats 1600000 in
/-- The reference's 'Fill', of at most nine lists. -/
theorem refFill_any (v va : Value) (l : List Lx.Tok) (ls : List (List Lx.Tok)) (w : World) (hl : Rt w v l) (ha : Rts w va ls) (hlen : l.length ≤ 100000) (hls : ls.length ≤ 9) (hs : ∀ l ∈ ls, l.length ≤ 100000) :
    Calls Try.prog 22 #[v, va] w fun e w' => ∃ v', e = .returned v' ∧ w'.ownsRow w.heap.size 80 2 v' (Mx.fill ls l).length (tcs (Mx.fill ls l)) ∧ Below w.heap.size w w' := by
  obtain ⟨a0, c0, rfl⟩ := hl.shape
  obtain ⟨a1, c1, rfl⟩ := ha.shape
  have HL := Lib.hid hl
  have HA := Lib.hid ha
  clear hl ha
  go_enter Try.func22, Try.ntmps22
  go_wp2_with fail
  go_loopw [5, 6] (fun v i wr => ∃ (k : Nat) (acc : List Lx.Tok), k ≤ l.length ∧ i = .int .i64 k ∧ Hid (acc = Mx.fill ls (l.take k)) ∧ acc.length ≤ k * 100001 ∧ wr.ownsRow w.heap.size 80 2 v acc.length (tcs acc) ∧ Below w.heap.size w wr) (fun _ i _ => l.length - (intOf i).toNat)
  case atStart => exact ⟨0, [], Nat.zero_le _, rfl, rfl, Nat.zero_le _, World.ownsRow_made w #[] 0 (Nat.le_refl _) (by decide) rfl, (Below.refl _ _).alloc (Nat.le_refl _) _⟩
  case round =>
    obtain ⟨k, acc, hk, rfl, HC, hal, hown, hbw⟩ := hrel
    have hsz := hbw.size
    by_cases hlt : k < l.length
    · obtain ⟨b1, o1, rfl, c10, c11⟩ := (HL.out.below' hbw).at hlt
      obtain ⟨z, s, hzs⟩ : ∃ z s, l[k] = (z, s) := ⟨_, _, rfl⟩
      have HN := Lib.hid (show acc ++ Mx.fillOne ls (z, s) = Mx.fill ls (l.take (k + 1)) by rw [fill_take hlt, ← HC.out, hzs])
      rw [hzs] at c10 c11
      clear hzs
      cases h7 : (z != 7)
      · have hz7 : z = 7 := by simpa [bne] using h7
        subst hz7
        go_wp2_with fail
        have hown2 := hown.alloc (.cells #[.int .i64 7, .string (S s)] 80)
        have ht2 := heap_alloc_new wr (.cells #[.int .i64 7, .string (S s)] 80)
        have hbw2 := hbw.alloc hsz (.cells #[.int .i64 7, .string (S s)] 80)
        obtain ⟨q, hq⟩ : ∃ q, q = Mx.placeI s := ⟨_, rfl⟩
        have HF := Lib.hid (show Mx.fillOne ls (7, s) = Mx.argAt ls q ls.length by rw [Mx.fillOne, if_pos rfl, hq])
        have HP := Lib.hid hq
        clear hq
        have hun : ∀ b, u5.ownBlock = some b → b < wr.heap.size := fun b hb => (hown.lt b hb).2
        go_loopw [5, 8] (fun v j wr2 => ∃ m : Nat, m ≤ ls.length ∧ j = .int .i64 m ∧ wr2.ownsRow w.heap.size 80 2 v (acc ++ Mx.argAt ls q m).length (tcs (acc ++ Mx.argAt ls q m)) ∧ v.ownBlock ≠ some wr.heap.size ∧ wr2.heap[wr.heap.size]? = some (.cells #[.int .i64 7, .string (S s)] 80 (0, 0)) ∧ Below w.heap.size w wr2) (fun _ j _ => ls.length - (intOf j).toNat)
        case atStart => exact ⟨0, Nat.zero_le _, rfl, by rw [show Mx.argAt ls q (0 : Nat) = [] from if_neg (by omega), List.append_nil]; exact hown2, fun e => by have := hun _ e; omega, ht2, hbw2⟩
        case round =>
          obtain ⟨m, hm, rfl, hown3, hne, ht3, hbw3⟩ := hrel
          have hal3 : (acc ++ Mx.argAt ls q m).length ≤ acc.length + 100000 := by
            rw [List.length_append]; unfold Mx.argAt; split
            · have := getD_le hs q.toNat; omega
            · simp
          by_cases hml : m < ls.length
          · have hm9 : m < 9 := by omega
            have c5 : wr.cell? ⟨_, 1, none⟩ = some (.string (S s)) := row_cell ht3 1
            obtain ⟨b3, o3, u, rfl, c30, r3, _, k3⟩ := (HA.out.below' hbw3).at hml
            have HI := Lib.hid (place_is s m hm9)
            have HA2 := Lib.hid (argAt_step (q := q) hml)
            have hlm := hs _ (List.getElem_mem hml)
            obtain ⟨au, cu, rfl⟩ := r3.shape
            have hcv := conv_digit wr m hm9
            have hw : IntKind.u8.wrap (49 + (m : Int)) = 49 + (m : Int) := by
              have : m = 0 ∨ m = 1 ∨ m = 2 ∨ m = 3 ∨ m = 4 ∨ m = 5 ∨ m = 6 ∨ m = 7 ∨ m = 8 := by omega
              rcases this with rfl | rfl | rfl | rfl | rfl | rfl | rfl | rfl | rfl <;> rfl
            obtain ⟨c, hc⟩ : ∃ c, c = UInt8.ofNat (49 + m) := ⟨_, rfl⟩
            rw [← hc] at hcv HI
            clear hc
            have hr4 := Rt.below' r3 ((Below.refl wr.heap.size wr).alloc (Nat.le_refl _) (.cells #[.int .u8 (49 + (m : Int))] 5))
            have hown4 := hown3.alloc (.cells #[.int .u8 (49 + (m : Int))] 5)
            have hbw4 := hbw3.alloc hbw3.size (.cells #[.int .u8 (49 + (m : Int))] 5)
            have ht4 := (Below.heap_alloc wr (.cells #[.int .u8 (49 + (m : Int))] 5) _ (row_lt ht3)).trans ht3
            have c9 := c30
            cases hx : (s == [c])
            · have hq : ¬ q = (m : Int) := by have := HI.out; rw [hx, ← HP.out] at this; simpa using this.symm
              have HZ := Lib.hid (show acc ++ Mx.argAt ls q m = acc ++ Mx.argAt ls q (m + 1 : Nat) by rw [show ((m + 1 : Nat) : Nat) = m + 1 from rfl, HA2.out, if_neg hq, List.append_nil])
              clear hq
              go_wp2_with fail
              go_roundw
              case rel => exact ⟨m + 1, by omega, by go_num, (by rw [← HZ.out]; exact hown4), hne, ht4, hbw4⟩
              case measure => simp [intOf]; omega
            · have hq : q = (m : Int) := by have := HI.out; rw [hx, ← HP.out] at this; simpa using this.symm
              have HZ := Lib.hid (show acc ++ Mx.argAt ls q m ++ ls[m] = acc ++ Mx.argAt ls q (m + 1 : Nat) by rw [show ((m + 1 : Nat) : Nat) = m + 1 from rfl, HA2.out, if_pos hq, List.append_assoc])
              clear hq
              go_wp2_with (at_builtin; go_loud (refine wp_app_all2 tyRef rfl _ _ rfl w.heap.size hown4 hr4 rfl rfl tcs_one (by omega) (by omega) hbw4.size ?_); intro v5 w5 hown5 b5 hg5 hnear)
              go_roundw
              case rel => exact ⟨m + 1, by omega, by go_num, (by rw [← HZ.out, tcs_append, List.length_append]; exact hown5), fun e => by
                rcases hnear with h | ⟨g, h, hle⟩
                · exact hne (h.symm.trans e)
                · rw [h] at e; cases e; have := row_lt ht3; simp at hle; omega, (hg5.block _ (row_lt ht4) (fun e => hne e.symm)).trans ht4, hbw4.trans b5⟩
              case measure => simp [intOf]; omega
          · obtain rfl : m = ls.length := by omega
            have HX := Lib.hid (show acc ++ Mx.argAt ls q ls.length = Mx.fill ls (l.take (k + 1)) by rw [← HF.out]; exact HN.out)
            go_wp2_with fail
            go_roundw
            case rel => exact ⟨k + 1, acc ++ Mx.argAt ls q ls.length, by omega, by go_num, HX, by omega, hown3, hbw3⟩
            case measure => simp [intOf]; omega
      · have HF := Lib.hid (show Mx.fillOne ls (z, s) = [(z, s)] by rw [Mx.fillOne, if_neg (by simpa [bne] using h7)])
        have hown2 := hown.alloc (.cells #[.int .i64 z, .string (S s)] 80)
        go_wp2_with (at_builtin; refine wp_app tyRef rfl _ _ rfl w.heap.size hown2 rfl rfl (by simp) rfl tc_one (by omega) (by omega) (by simp; omega) ?_; intro v3 w3 hown3 b3 _)
        go_roundw
        case rel => exact ⟨k + 1, acc ++ [(z, s)], by omega, by go_num, Lib.hid (by rw [← HN.out, HF.out]), by simp; omega, (by rw [tcs_snoc, List.length_append]; exact hown3), (hbw.alloc hsz _).trans b3⟩
        case measure => simp [intOf]; omega
    · obtain rfl : k = l.length := by omega
      have HE := Lib.hid (HC.out.trans (by rw [List.take_length]))
      go_wp2_with fail
      go_ret
      exact ⟨_, rfl, by rw [← HE.out]; exact hown, hbw⟩

end Go.Proofs.Ytkpdhpbnbpjceaa
