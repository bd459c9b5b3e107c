
/- The macro layer: squeezed texts; the program's walks and the reference's. No condition. -/
import Derived.Test.YtkpdhpbnbpjceaaMacFlatP
import Derived.Test.YtkpdhpbnbpjceaaMacWalk
import Derived.Test.YtkpdhpbnbpjceaaLexProg
import Derived.Test.YtkpdhpbnbpjceaaShelf
namespace Go.Proofs.Ytkpdhpbnbpjceaa
open Go.RowKit

set_option maxRecDepth 20000 in
set_option maxHeartbeats 1600000 in
/-- 'Squeezed' of the reference. -/
theorem refSqueezed_any (s : List UInt8) (hs : s.length ≤ 1000000000) (w : World) :
    Calls Try.prog 41 #[.string (S s)] w fun e w' => e = .returned (.string (S (Mx.sqz s))) ∧ w' = w := by
  go_enter Try.func41, Try.ntmps41
  simp only [S_lit]
  go_wp2_with fail
  go_loop [3, 4] (fun o i => ∃ (k : Nat) (acc : List UInt8), k ≤ s.length ∧ i = .int .i64 k ∧ o = .string (S acc) ∧ acc.length ≤ k ∧ Hid (acc = (Mx.st (s.take k)).1)) (fun _ i => s.length - (intOf i).toNat)
  case atStart => exact ⟨0, [], Nat.zero_le _, rfl, rfl, Nat.le_refl _, rfl⟩
  case round =>
    obtain ⟨k, acc, hk, rfl, rfl, hal, HC⟩ := hrel
    by_cases hlt : k < s.length
    · have hsn := Lib.hid (show Mx.st (s.take (k + 1)) = Mx.stp (Mx.st (s.take k)) s[k] by rw [take_snoc s k hlt, Mx.st_snoc])
      cases hc : (s[k] == 32)
      · have HN := Lib.hid (show acc ++ [s[k]] = (Mx.st (s.take (k + 1))).1 by rw [hsn.out, Mx.stp, if_neg (by simpa using hc), HC.out])
        have hb : (s[k] != 32) = true := by simp [bne, hc]
        go_wp2_with fail
        go_round
        case rel => exact ⟨k + 1, acc ++ [s[k]], by omega, by go_num, rfl, by simp; omega, HN⟩
        case measure => simp [intOf]; omega
      · have hb : (s[k] != 32) = false := by simp [bne, hc]
        have hc32 : s[k] = 32 := by simpa using hc
        rcases Nat.eq_zero_or_pos k with h0 | hpos
        · subst h0
          have HN := Lib.hid (show acc = (Mx.st (s.take (0 + 1))).1 by rw [hsn.out, HC.out, List.take_zero, hc32]; rfl)
          clear hc32
          go_wp2_with fail
          go_round
          case rel => exact ⟨1, acc, by omega, by go_num, rfl, by omega, HN⟩
          case measure => simp [intOf]; omega
        · obtain ⟨j, rfl⟩ : ∃ j, k = j + 1 := ⟨k - 1, by omega⟩
          have hj : j < s.length := by omega
          have hfl : (Mx.st (s.take (j + 1))).2 = decide (s[j] = 32) := by rw [take_snoc s j hj, Mx.st_flag2]
          cases hp : (s[j] != 32)
          · have HN := Lib.hid (show acc = (Mx.st (s.take (j + 1 + 1))).1 by
              have : s[j] = 32 := by simpa [bne] using hp
              rw [hsn.out, HC.out, Mx.stp, if_pos hc32, hfl]; simp [this])
            clear hc32
            go_wp2_with fail
            go_round
            case rel => exact ⟨j + 1 + 1, acc, by omega, by go_num, rfl, by omega, HN⟩
            case measure => simp [intOf]; omega
          · have HN := Lib.hid (show acc ++ [s[j + 1]] = (Mx.st (s.take (j + 1 + 1))).1 by
              have : ¬ s[j] = 32 := by simpa [bne] using hp
              rw [hsn.out, HC.out, Mx.stp, if_pos hc32, hfl, hc32]; simp [this])
            clear hc32
            go_wp2_with fail
            go_round
            case rel => exact ⟨j + 1 + 1, acc ++ [s[j + 1]], by omega, by go_num, rfl, by simp; omega, HN⟩
            case measure => simp [intOf]; omega
    · obtain rfl : k = s.length := by omega
      have HE := Lib.hid (show Mx.trim acc = Mx.sqz s by rw [HC.out, List.take_length]; rfl)
      rcases (List.eq_nil_or_concat acc) with rfl | ⟨o, c, rfl⟩
      · go_wp2_with fail
        go_ret
        exact ⟨ret_str (by rw [← HE.out]; rfl), rfl⟩
      · rw [List.concat_eq_append] at *
        have hol : o.length < 1000000000 := by simp at hal; omega
        have hget : (o ++ [c])[o.length]'(by simp) = c := by simp
        have htk : (o ++ [c]).take o.length = o := by simp
        cases hc : (c == 32)
        · have HT := Lib.hid (show Mx.trim (o ++ [c]) = o ++ [c] by rw [Mx.trim, if_neg (by simpa using hc)])
          go_wp2_with fail
          go_ret
          exact ⟨ret_str (by rw [← HE.out, HT.out]), rfl⟩
        · have HT := Lib.hid (show Mx.trim (o ++ [c]) = o by rw [Mx.trim, if_pos (by simpa using hc), List.dropLast_concat])
          go_wp2_with fail
          go_ret
          exact ⟨ret_str (by rw [← HE.out, HT.out]), rfl⟩

set_option maxRecDepth 20000 in
set_option maxHeartbeats 1600000 in
/-- 'squeezed'. -/
theorem squeezed_any (s : List UInt8) (hs : s.length ≤ 1000000000) (w : World) :
    Calls Try.prog 39 #[.string (S s)] w fun e w' => e = .returned (.string (S (Mx.sqz s))) ∧ Below w.heap.size w w' := by
  go_enter Try.func39, Try.ntmps39
  simp only [S_lit]
  go_wp2_with fail
  go_loopw [3, 7] (fun v i wr => ∃ (k : Nat) (acc : List UInt8), k ≤ s.length ∧ i = .int .i64 k ∧ acc.length ≤ k ∧ Hid (acc = (Mx.st (s.take k)).1) ∧ wr.ownsRow w.heap.size 5 1 v acc.length (Lib.byteCells acc) ∧ Below w.heap.size w wr) (fun _ i _ => s.length - (intOf i).toNat)
  case atStart => exact ⟨0, [], Nat.zero_le _, rfl, Nat.le_refl _, rfl, World.ownsRow_nil _ _ _ _, Below.refl _ _⟩
  case round =>
    obtain ⟨k, acc, hk, rfl, hal, HC, hown, hbw⟩ := hrel
    have hsz := hbw.size
    have hfl := Mx.st_flag (s.take k)
    rw [← HC.out] at hfl
    by_cases hlt : k < s.length
    · have hsn := Lib.hid (show Mx.st (s.take (k + 1)) = Mx.stp (Mx.st (s.take k)) s[k] by rw [take_snoc s k hlt, Mx.st_snoc])
      cases hc : (s[k] == 32)
      · have HN := Lib.hid (show acc ++ [s[k]] = (Mx.st (s.take (k + 1))).1 by rw [hsn.out, Mx.stp, if_neg (by simpa using hc), HC.out])
        clear hfl
        go_wp2_with (at_builtin; refine wp_app tyByte rfl _ _ rfl w.heap.size hown rfl rfl (by simp) rfl byte_one (by omega) (by omega) (by omega) ?_; intro v3 w3 hown3 b3 _)
        go_roundw
        case rel => exact ⟨k + 1, acc ++ [s[k]], by omega, by go_num, by simp; omega, HN, (by rw [byteCells_snoc, List.length_append]; exact hown3), hbw.trans b3⟩
        case measure => simp [intOf]; omega
      · have hc32 : s[k] = 32 := by simpa using hc
        rcases List.eq_nil_or_concat acc with rfl | ⟨o, c, rfl⟩
        · have HN := Lib.hid (show ([] : List UInt8) = (Mx.st (s.take (k + 1))).1 by rw [hsn.out, Mx.stp, if_pos hc32, if_pos (hfl.2 (.inl rfl))]; exact HC.out)
          clear hfl hc32
          obtain ⟨gv, cv, rfl⟩ := own_shape hown
          go_wp2_with fail
          go_roundw
          case rel => exact ⟨k + 1, [], by omega, by go_num, by simp, HN, hown, hbw⟩
          case measure => simp [intOf]; omega
        · rw [List.concat_eq_append] at *
          have hol : o.length < 1000000000 := by simp at hal; omega
          rcases hown.2 with ⟨_, h0⟩ | ⟨g, cap, cur, hv, _⟩
          · simp at h0
          · have hcell : wr.cell? ⟨g, o.length, none⟩ = some (.int .u8 c.toNat) := by
              have := hown.cells (g := g) (by rw [hv]; rfl) o.length (.int .u8 c.toNat) (by simp [Lib.byteCells])
              rwa [addr_add, Nat.zero_add] at this
            subst hv
            have hle : (o ++ [c]).length = o.length + 1 := by simp
            rw [hle] at hown
            have hlen : (.slice (some ⟨g, 0, none⟩) (o ++ [c]).length cap : Value) = .slice (some ⟨g, 0, none⟩) (o.length + 1) cap := by rw [hle]
            rw [hlen]
            clear hlen
            cases hc2 : (c == 32)
            · have HN := Lib.hid (show o ++ [c] ++ [s[k]] = (Mx.st (s.take (k + 1))).1 by
                have hp : (Mx.st (s.take k)).2 = false := by
                  cases h : (Mx.st (s.take k)).2
                  · rfl
                  · have := hfl.1 h; simp at this; subst this; simp at hc2
                rw [hsn.out, Mx.stp, if_pos hc32, hp, hc32]; simp [HC.out])
              clear hfl hc32
              go_wp2_with (at_builtin; refine wp_app tyByte rfl _ _ rfl w.heap.size hown rfl rfl (by simp) rfl byte_one (by omega) (by omega) (by omega) ?_; intro v3 w3 hown3 b3 _)
              go_roundw
              case rel => exact ⟨k + 1, o ++ [c] ++ [s[k]], by omega, by go_num, by simp at hal ⊢; omega, HN, (by rw [byteCells_snoc, List.length_append, hle]; exact hown3), hbw.trans b3⟩
              case measure => simp [intOf]; omega
            · have HN := Lib.hid (show o ++ [c] = (Mx.st (s.take (k + 1))).1 by
                have hp : (Mx.st (s.take k)).2 = true := hfl.2 (.inr (by simpa using hc2))
                rw [hsn.out, Mx.stp, if_pos hc32, if_pos hp]; exact HC.out)
              clear hfl hc32
              go_wp2_with fail
              go_roundw
              case rel => exact ⟨k + 1, o ++ [c], by omega, by go_num, by omega, HN, (by rw [hle]; exact hown), hbw⟩
              case measure => simp [intOf]; omega
    · obtain rfl : k = s.length := by omega
      have HE := Lib.hid (show Mx.trim acc = Mx.sqz s by rw [HC.out, List.take_length]; rfl)
      have hcv := conv_bytes (own_rd hown)
      have HT := Lib.hid (show Lib.trimSuffix acc [32] = Mx.trim acc by
        rcases List.eq_nil_or_concat acc with rfl | ⟨o, c, rfl⟩
        · rfl
        · rw [List.concat_eq_append, Mx.trim, Lib.trimSuffix, Lib.hasSuffix]
          by_cases h32 : c = 32
          · subst h32; simp [List.isSuffixOf_iff_suffix]
          · have : ¬ [32] <:+ o ++ [c] := fun ⟨t, ht⟩ => h32 (by have := congrArg List.getLast? ht; simpa using this.symm)
            simp [h32, List.isSuffixOf_iff_suffix, this])
      go_wp2_with fail
      (with_reducible refine (Try.strings_TrimSuffix (S acc) (S [32]) wr (by simp; omega)).mono ?_); rintro e w3 ⟨rfl, rfl⟩
      rw [S_dataList, S_dataList, HT.out, HE.out]
      go_wp2_with fail
      go_ret
      exact ⟨rfl, hbw⟩

end Go.Proofs.Ytkpdhpbnbpjceaa
