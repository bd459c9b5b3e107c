
/- 'FilesMerged', walked: it answers true at every input. No condition. -/
import Derived.Test.YtgpifaedcelnnaaFiMerP
namespace Go.Proofs.Ytgpifaedcelnnaa
open Go.RowKit

set_option maxRecDepth 20000 in
set_option maxHeartbeats 8000000 in
/-- 'FilesMerged'. -/
theorem filesMerged_any (v u : Value) (l k : List Fl) (nm : List UInt8) (w : World) (hl : Rf w v l) (hk : Rf w u k) (hs : ∀ f ∈ l, f.1.length ≤ 9223372036854775807 ∧ f.2.length ≤ 9223372036854775807) (hs2 : ∀ f ∈ k, f.1.length ≤ 9223372036854775807 ∧ f.2.length ≤ 9223372036854775807) :
    Calls Try.prog 8 #[v, u, .string (S nm)] w fun e w' => e = .returned (.bool true) ∧ Below w.heap.size w w' := by
  have hA := refMap_any v l 16 100 w hl (by decide) (by decide) hs
  have hB := fun w' (hb : Below w.heap.size w w') => refMap_any u k 16 100 w' (hk.below' hb) (by decide) (by decide) hs2
  simp only [Int.cast_ofNat_Int] at hA hB
  have oka := map_ok l 16 100
  have okb := map_ok k 16 100
  have hla := map_len l 16 100
  have hlb := map_len k 16 100
  obtain ⟨a, ha⟩ : ∃ a, a = Fi.map l 16 100 := ⟨_, rfl⟩
  obtain ⟨b, hb⟩ : ∃ b, b = Fi.map k 16 100 := ⟨_, rfl⟩
  rw [← ha] at hA oka hla
  rw [← hb] at hB okb hlb
  have HA := Lib.hid hA
  have HB := Lib.hid hB
  have OA := Lib.hid oka
  have OB := Lib.hid okb
  have hml := merge_len b a
  have hm0 := merge_goes b a okb.1 oka.2.1 (by omega)
  have hom := (mem_merge b a oka.2.1 okb.2.1 hm0).1
  have hokm := mem_merge_ok oka.2.1 okb.2.1 oka.1 okb.1 hm0
  have hmt := merge_twice oka.2.1 okb.2.1 okb.1 hm0
  have hgm := get_merge oka.2.1 okb.2.1 hm0 nm
  have hdm := fun n hn => diff_merge oka.2.1 okb.2.1 hm0 (n := n) hn
  obtain ⟨⟨m, me⟩, hm⟩ : ∃ p, p = Fi.merge a b := ⟨_, rfl⟩
  rw [← hm] at hml hm0 hom hokm hmt hgm hdm
  simp only at hml hm0 hom hokm hmt hgm hdm
  subst hm0
  have HM := Lib.hid hm
  have HMT := Lib.hid hmt
  have HOM := Lib.hid hom
  have HOK := Lib.hid hokm
  have HDM := Lib.hid hdm
  have HR := Lib.hid ((right_iff9 m).2 ⟨hokm, hom, by omega⟩)
  clear hA hB oka okb ha hb hl hk hs hs2 hm hmt hom hokm hdm
  obtain ⟨D, hD⟩ : ∃ D, D = diffS a m := ⟨_, rfl⟩
  have hdl : D.length ≤ 1000 := by
    rw [hD]
    unfold diffS
    rw [List.length_mergeSort, List.length_append]
    have := dA_len a m
    have := dB_len a m
    omega
  rw [← hD] at HDM
  have HDD := Lib.hid hD
  obtain ⟨⟨mt, mi⟩, hgm2⟩ : ∃ p, p = Fi.get m nm := ⟨_, rfl⟩
  obtain ⟨⟨bt, bi⟩, hgb⟩ : ∃ p, p = Fi.get b nm := ⟨_, rfl⟩
  obtain ⟨⟨at', ai⟩, hga⟩ : ∃ p, p = Fi.get a nm := ⟨_, rfl⟩
  rw [← hgm2, ← hgb, ← hga] at hgm
  simp only at hgm
  have HGM := Lib.hid hgm2
  have HGB := Lib.hid hgb
  have HGA := Lib.hid hga
  clear hgm2 hgb hga hD
  have hfact : (bi = true ∧ mt = bt ∧ mi = true) ∨ (bi = false ∧ mt = at' ∧ mi = ai) := by
    cases bi
    · rw [if_neg (by simp)] at hgm
      injection hgm with h1 h2
      exact .inr ⟨rfl, h1, h2⟩
    · rw [if_pos rfl] at hgm
      injection hgm with h1 h2
      exact .inl ⟨rfl, h1, h2⟩
  clear hgm
  go_enter Try.func8, Try.ntmps8
  go_wp2_with fail
  (with_reducible refine HA.out.mono ?_); rintro e w1 ⟨va, rfl, oa, b1⟩
  have ra := rf_own oa
  clear oa
  go_wp2_with fail
  (with_reducible refine (HB.out w1 b1).mono ?_); rintro e w2 ⟨vb, rfl, ob, b2⟩
  have rb2 := rf_own ob
  have ra2 := ra.below' b2
  have B2 := b1.trans (b2.mono b1.size)
  clear ra ob b1 b2 HA HB
  go_wp2_with fail
  (with_reducible refine (fmerge_any _ _ a b _ ra2 rb2 (by omega) (by omega) OA.out.2.1 (fun f hf => Nat.le_trans (okName_le (OB.out.1 f hf).1) (by decide))).mono ?_); rintro e w3 ⟨vm, rfl, rm, b3⟩
  rw [← HM.out] at rm
  rw [← HM.out]
  have ra3 := ra2.below' b3
  have rb3 := rb2.below' b3
  have B3 := B2.trans (b3.mono B2.size)
  clear ra2 rb2 b3 B2
  go_wp2_with fail
  (with_reducible refine (fmerge_any _ _ m b _ rm rb3 (by omega) (by omega) HOM.out (fun f hf => Nat.le_trans (okName_le (OB.out.1 f hf).1) (by decide))).mono ?_); rintro e w4 ⟨vn, rfl, rn, b4⟩
  rw [HMT.out] at rn
  rw [HMT.out]
  have ra4 := ra3.below' b4
  have rb4 := rb3.below' b4
  have rm4 := rm.below' b4
  have B4 := B3.trans (b4.mono B3.size)
  clear ra3 rb3 rm b4 B3
  go_wp2_with fail
  (with_reducible refine (fsame_any _ _ m m _ rm4 rn (by omega) (by omega)).mono ?_); rintro e w5 ⟨rfl, b5⟩
  rw [show (m == m) = true by simp]
  have ra5 := ra4.below' b5
  have rb5 := rb4.below' b5
  have rm5 := rm4.below' b5
  have B5 := B4.trans (b5.mono B4.size)
  clear ra4 rb4 rm4 rn b5 B4
  go_wp2_with fail
  (with_reducible refine (fright_any _ m _ rm5 (by omega) (fun f hf => Nat.le_trans (okName_le (HOK.out f hf).1) (by decide))).mono ?_); rintro e w6 ⟨rfl, b6⟩
  rw [HR.out]
  have ra6 := ra5.below' b6
  have rb6 := rb5.below' b6
  have rm6 := rm5.below' b6
  have B6 := B5.trans (b6.mono B5.size)
  clear ra5 rb5 rm5 b6 B5
  go_wp2_with fail
  (with_reducible refine (fget_any _ m nm _ rm6 (by omega) HOM.out).mono ?_); rintro e w7 ⟨rfl, b7⟩
  rw [← HGM.out]
  have ra7 := ra6.below' b7
  have rb7 := rb6.below' b7
  have rm7 := rm6.below' b7
  have B7 := B6.trans (b7.mono B6.size)
  clear ra6 rb6 rm6 b7 B6
  go_wp2_with fail
  (with_reducible refine (fget_any _ b nm _ rb7 (by omega) OB.out.2.1).mono ?_); rintro e w8 ⟨rfl, b8⟩
  rw [← HGB.out]
  have ra8 := ra7.below' b8
  have rb8 := rb7.below' b8
  have rm8 := rm7.below' b8
  have B8 := B7.trans (b8.mono B7.size)
  clear ra7 rb7 rm7 b8 B7
  go_wp2_with fail
  (with_reducible refine (fget_any _ a nm _ ra8 (by omega) OA.out.2.1).mono ?_); rintro e w9 ⟨rfl, b9⟩
  rw [← HGA.out]
  have ra9 := ra8.below' b9
  have rb9 := rb8.below' b9
  have rm9 := rm8.below' b9
  have B9 := B8.trans (b9.mono B8.size)
  clear ra8 rb8 rm8 b9 B8
  have hai : (ai != ai) = false := by simp
  have hbt : (bt == bt) = true := by simp
  have hat : (at' == at') = true := by simp
  rcases hfact with ⟨rfl, rfl, rfl⟩ | ⟨rfl, rfl, rfl⟩
  all_goals (
    go_wp2_with fail
    (with_reducible refine (fdiff_any _ _ a m _ ra9 rm9 (by omega) (by omega) OA.out.2.1 HOM.out).mono ?_); rintro e wa ⟨vd, rfl, od, ba⟩
    rw [← HDD.out] at od
    have rd : Rx wa vd D := own_rd od
    have rba := rb9.below' ba
    have Ba := B9.trans (ba.mono B9.size)
    obtain ⟨ad, cd, rfl⟩ := own_shape od
    clear od ra9 rb9 rm9 B9 ba
    go_wp2_with fail
    go_loopw [20] (fun i wr => ∃ q : Nat, q ≤ D.length ∧ i = .int .i64 q ∧ Below wa.heap.size wa wr) (fun i _ => D.length - (intOf i).toNat)
    case atStart => exact ⟨0, Nat.zero_le _, rfl, Below.refl _ _⟩
    case round =>
      obtain ⟨q, hq, rfl, hbw⟩ := hrel
      have hsz := hbw.size
      have Br := Ba.trans (hbw.mono Ba.size)
      by_cases hlt : q < D.length
      · have HH := Lib.hid (HDM.out _ (List.getElem_mem hlt))
        have hqi : (q : Int) < (D.length : Int) := by omega
        obtain ⟨b1, o1, rfl, c1⟩ := (rd.below' hbw).at hlt
        obtain ⟨n, hn⟩ : ∃ n, n = D[q] := ⟨_, rfl⟩
        rw [← hn] at HH c1
        clear hn
        go_wp2_with fail
        (with_reducible refine (fget_any _ b n _ (rba.below' hbw) (by omega) OB.out.2.1).mono ?_); rintro e wb ⟨rfl, bb⟩
        rw [get_hasB, HH.out]
        go_wp2_with fail
        go_roundw
        case rel => exact ⟨q + 1, by omega, by go_num, hbw.trans (bb.mono hsz)⟩
        case measure => simp [intOf]; omega
      · obtain rfl : q = D.length := by omega
        have hno : decide ((D.length : Int) < (D.length : Int)) = false := by simp
        go_wp2_with fail
        (with_reducible refine (fiFixed_any _).mono ?_); rintro e wc ⟨rfl, bc⟩
        go_wp2_with fail
        go_ret
        exact ⟨rfl, Br.trans (bc.mono Br.size)⟩
    )

end Go.Proofs.Ytgpifaedcelnnaa
