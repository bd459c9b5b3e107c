
/- 'FilesMerge', walked: it answers true at every input. No condition. -/
import Derived.Test.YtgpifaedcelnnaaFiRefDiff
namespace Go.Proofs.Ytgpifaedcelnnaa
open Go.RowKit

theorem merge_len : ∀ (b a : List Fl), (Fi.merge a b).1.length ≤ a.length + b.length := by
  intro b
  induction b with
  | nil => intro a; exact Nat.le_refl _
  | cons f r ih =>
    intro a
    by_cases h : (Fi.put a f).2 = 0
    · rw [merge_go h]
      have := ih (Fi.put a f).1
      have := put_len a f
      rw [List.length_cons]; omega
    · rw [merge_stop h]
      exact Nat.zero_le _

set_option maxRecDepth 20000 in
set_option maxHeartbeats 8000000 in
/-- 'FilesMerge'. -/
theorem filesMerge_any (v u : Value) (l k : List Fl) (w : World) (hl : Rf w v l) (hk : Rf w u k) (hs : ∀ f ∈ l, f.1.length ≤ 9223372036854775807 ∧ f.2.length ≤ 9223372036854775807) (hs2 : ∀ f ∈ k, f.1.length ≤ 9223372036854775807 ∧ f.2.length ≤ 9223372036854775807) :
    Calls Try.prog 7 #[v, u] w fun e w' => e = .returned (.bool true) ∧ Below w.heap.size w w' := by
  have hA := refMap_any v l 40 4000 w hl (by decide) (by decide) hs
  have hB := fun w' (hb : Below w.heap.size w w') => refMap_any u k 40 4000 w' (hk.below' hb) (by decide) (by decide) hs2
  simp only [Int.cast_ofNat_Int] at hA hB
  have oka := map_ok l 40 4000
  have okb := map_ok k 40 4000
  obtain ⟨a, ha⟩ : ∃ a, a = Fi.map l 40 4000 := ⟨_, rfl⟩
  obtain ⟨b, hb⟩ : ∃ b, b = Fi.map k 40 4000 := ⟨_, rfl⟩
  rw [← ha] at hA oka
  rw [← hb] at hB okb
  have hla := oka.2.2
  have hlb := okb.2.2
  have HA := Lib.hid hA
  have HB := Lib.hid hB
  have OA := Lib.hid oka
  have OB := Lib.hid okb
  have hml := merge_len b a
  clear hA hB oka okb ha hb hl hk hs hs2
  obtain ⟨⟨m, me⟩, hm⟩ : ∃ p, p = Fi.merge a b := ⟨_, rfl⟩
  rw [← hm] at hml
  simp only at hml
  have HM := Lib.hid hm
  obtain ⟨D, hD⟩ : ∃ D, D = diffS a b := ⟨_, rfl⟩
  have hdl : D.length ≤ 1000 := by
    rw [hD]
    unfold diffS
    rw [List.length_mergeSort, List.length_append]
    have := dA_len a b
    have := dB_len a b
    omega
  have HDD := Lib.hid hD
  obtain ⟨s, hs⟩ : ∃ s, s = (a == b) := ⟨_, rfl⟩
  have HS := Lib.hid hs
  have hss : (s == s) = true := by simp
  have hee : (me == me) = true := by simp
  clear hm hD hs
  go_enter Try.func7, Try.ntmps7
  go_wp2_with fail
  (with_reducible refine HA.out.mono ?_); rintro e w1 ⟨va, rfl, oa, b1⟩
  have ra := rf_own oa
  clear oa
  go_wp2_with fail
  (with_reducible refine (HB.out w1 b1).mono ?_); rintro e w2 ⟨vb, rfl, ob, b2⟩
  have rb2 := rf_own ob
  have ra2 := ra.below' b2
  have B2 := b1.trans (b2.mono b1.size)
  clear ra ob b1 b2 HA HB
  go_wp2_with fail
  (with_reducible refine (fmerge_any _ _ a b _ ra2 rb2 (by omega) (by omega) OA.out.2.1 (fun f hf => Nat.le_trans (okName_le (OB.out.1 f hf).1) (by decide))).mono ?_); rintro e w3 ⟨vm, rfl, rm, b3⟩
  rw [← HM.out] at rm
  rw [← HM.out]
  have ra3 := ra2.below' b3
  have rb3 := rb2.below' b3
  have B3 := B2.trans (b3.mono B2.size)
  clear ra2 rb2 b3 B2
  go_wp2_with fail
  (with_reducible refine (refFmerge_any _ _ a b _ ra3 rb3 (by omega) (by omega) OA.out.2.1 (fun f hf => Nat.le_trans (okName_le (OB.out.1 f hf).1) (by decide))).mono ?_); rintro e w4 ⟨vn, rfl, rn, b4⟩
  rw [← HM.out] at rn
  rw [← HM.out]
  have ra4 := ra3.below' b4
  have rb4 := rb3.below' b4
  have rm4 := rm.below' b4
  have B4 := B3.trans (b4.mono B3.size)
  clear ra3 rb3 rm b4 B3
  go_wp2_with fail
  (with_reducible refine (equal_any _ _ m m _ rm4 rn (by omega) (by omega)).mono ?_); rintro e w5 ⟨rfl, b5⟩
  rw [show (m == m) = true by simp]
  have ra5 := ra4.below' b5
  have rb5 := rb4.below' b5
  have B5 := B4.trans (b5.mono B4.size)
  clear ra4 rb4 rm4 rn b5 B4
  go_wp2_with fail
  (with_reducible refine (fdiff_any _ _ a b _ ra5 rb5 (by omega) (by omega) OA.out.2.1 OB.out.2.1).mono ?_); rintro e w6 ⟨vx, rfl, ox, b6⟩
  rw [← HDD.out] at ox
  have rx : Rx w6 vx D := own_rd ox
  have ra6 := ra5.below' b6
  have rb6 := rb5.below' b6
  have B6 := B5.trans (b6.mono B5.size)
  clear ra5 rb5 b6 B5 ox
  go_wp2_with fail
  (with_reducible refine (refDiff_any _ _ a b _ ra6 rb6 (by omega) (by omega) OA.out.2.1 OB.out.2.1).mono ?_); rintro e w7 ⟨vy, rfl, oy, b7⟩
  rw [← HDD.out] at oy
  have ry : Rx w7 vy D := own_rd oy
  have rx7 := rx.below' b7
  have ra7 := ra6.below' b7
  have rb7 := rb6.below' b7
  have B7 := B6.trans (b7.mono B6.size)
  clear ra6 rb6 b7 B6 oy rx
  go_wp2_with fail
  (with_reducible refine (words_any _ _ D D _ rx7 ry (by omega) (by omega)).mono ?_); rintro e w8 ⟨rfl, b8⟩
  rw [show (D == D) = true by simp]
  have ra8 := ra7.below' b8
  have rb8 := rb7.below' b8
  have B8 := B7.trans (b8.mono B7.size)
  clear b8 rx7 ry ra7 rb7 B7
  go_wp2_with fail
  (with_reducible refine (fsame_any _ _ a b _ ra8 rb8 (by omega) (by omega)).mono ?_); rintro e w9 ⟨rfl, b9⟩
  rw [← HS.out]
  have ra9 := ra8.below' b9
  have rb9 := rb8.below' b9
  have B9 := B8.trans (b9.mono B8.size)
  clear b9 ra8 rb8 B8
  go_wp2_with fail
  (with_reducible refine (refSame_any _ _ a b _ ra9 rb9 (by omega) (by omega) OA.out.2.1 OB.out.2.1).mono ?_); rintro e wa ⟨rfl, ba⟩
  rw [← HS.out]
  have Ba := B9.trans (ba.mono B9.size)
  clear ba ra9 rb9 B9
  go_wp2_with fail
  (with_reducible refine (fiFixed_any _).mono ?_); rintro e wc ⟨rfl, bc⟩
  go_wp2_with fail
  go_ret
  exact ⟨rfl, Ba.trans (bc.mono Ba.size)⟩

end Go.Proofs.Ytgpifaedcelnnaa
