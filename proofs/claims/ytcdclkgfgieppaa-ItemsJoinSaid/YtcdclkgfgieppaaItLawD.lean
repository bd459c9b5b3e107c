
/- 'ItemsJoin', walked: it answers true at every input. No condition. -/
import Derived.Test.YtcdclkgfgieppaaItLawC
import Derived.Test.YtcdclkgfgieppaaItJoinP
namespace Go.Proofs.Ytcdclkgfgieppaa
open Go.RowKit

/-- How many more Closes than Opens stand from a place on. -/
def deepAt (l : List Lx.Tok) (k : Nat) : Int := (It.closes (l.drop k) : Int) - It.opens (l.drop k)
theorem deep_step {l : List Lx.Tok} {m : Nat} (h : m < l.length) : deepAt l m = deepAt l (m + 1) + (if l[m].1 = 6 then 1 else 0) - (if l[m].1 = 5 then 1 else 0) := by
  unfold deepAt
  rw [drop_at h, It.opens_cons, It.closes_cons]
  split <;> split <;> omega
theorem deep_bound (l : List Lx.Tok) (k : Nat) : -(l.length : Int) ≤ deepAt l k ∧ deepAt l k ≤ l.length := by
  unfold deepAt It.opens It.closes
  have h1 := List.length_filter_le (fun t : Lx.Tok => t.1 == 5) (l.drop k)
  have h2 := List.length_filter_le (fun t : Lx.Tok => t.1 == 6) (l.drop k)
  rw [List.length_drop] at h1 h2
  omega
theorem deep_end (l : List Lx.Tok) : deepAt l l.length = 0 := by
  unfold deepAt
  rw [List.drop_length]; rfl
theorem deep_closed {l : List Lx.Tok} (h : ∀ j, 0 ≤ deepAt l j) : It.Closed l := fun i => by
  have := h i
  unfold deepAt at this
  omega
theorem deep_far {l : List Lx.Tok} {j : Nat} (h : l.length ≤ j) : deepAt l j = 0 := by
  unfold deepAt
  rw [List.drop_eq_nil_of_le h]; rfl

set_option maxRecDepth 20000 in
set_option maxHeartbeats 4000000 in
/-- 'ItemsJoin'. -/
theorem itemsJoin_any (v u : Value) (l k : List Lx.Tok) (w : World) (hl : Rt w v l) (hk : Rt w u k) (hs : ∀ t ∈ l, t.2.length ≤ 9223372036854775807) (hs2 : ∀ t ∈ k, t.2.length ≤ 9223372036854775807)
    (hz : ∀ t ∈ l, -9223372036854775808 ≤ t.1 ∧ t.1 ≤ 9223372036854775807) (hz2 : ∀ t ∈ k, -9223372036854775808 ≤ t.1 ∧ t.1 ≤ 9223372036854775807) :
    Calls Try.prog 6 #[v, u] w fun e w' => e = .returned (.bool true) ∧ Below w.heap.size w w' := by
  have hC := cut_any v l 30 w hl (by decide) hs
  have hK := fun w' (hb : Below w.heap.size w w') => cut_any u k 30 w' (hk.below' hb) (by decide) hs2
  simp only [Int.cast_ofNat_Int] at hC hK
  have HC := Lib.hid hC
  have HK := Lib.hid hK
  have hlen := cut9_len l 30
  have heach := cut9_each l 30
  have hwf := cut9_wf 30 (wf_all hz)
  have hlen2 := cut9_len k 30
  have heach2 := cut9_each k 30
  have hwf2 := cut9_wf 30 (wf_all hz2)
  clear hC hK hl hk hs hs2 hz hz2
  obtain ⟨lc, hlc⟩ : ∃ lc, lc = (l.take 30).map cut40 := ⟨_, rfl⟩
  obtain ⟨kc, hkc⟩ : ∃ kc, kc = (k.take 30).map cut40 := ⟨_, rfl⟩
  rw [← hlc] at HC hlen heach hwf
  rw [← hkc] at HK hlen2 heach2 hwf2
  clear hlc hkc
  have HE := Lib.hid heach
  have HE2 := Lib.hid heach2
  have HW := Lib.hid hwf
  have HW2 := Lib.hid hwf2
  clear heach heach2 hwf hwf2
  go_enter Try.func6, Try.ntmps6
  go_wp2_with fail
  (with_reducible refine HC.out.mono ?_); rintro e w1 ⟨va, rfl, oa, b1⟩
  have ra := rt_of_own9 oa
  clear oa
  go_wp2_with fail
  (with_reducible refine (HK.out w1 b1).mono ?_); rintro e w2 ⟨vb, rfl, ob, b2⟩
  have rb2 := rt_of_own9 ob
  have ra2 := ra.below' b2
  have B2 := b1.trans (b2.mono b1.size)
  clear ra ob b1 b2 HC HK
  obtain ⟨aa, ca, rfl⟩ := ra2.shape
  have RA2 := Lib.hid ra2
  have RB2 := Lib.hid rb2
  clear ra2 rb2
  have hwr0 : IntKind.i64.wrap ((lc.length : Int) - 1) = (lc.length : Int) - 1 := (Go.IntWalk.i64_left _).trans (Go.IntWalk.wrap64_in _ (by omega))
  have hwr1 : wrap64 ((lc.length : Int) - 1) = (lc.length : Int) - 1 := Go.IntWalk.wrap64_in _ (by omega)
  go_wp2_with fail
  go_loopw [5, 6] (fun d i wr => ∃ j : Nat, j ≤ lc.length ∧ i = .int .i64 ((j : Int) - 1) ∧ d = .int .i64 (deepAt lc j) ∧ Hid (∀ q, j ≤ q → 0 ≤ deepAt lc q) ∧ wr = w2) (fun _ i _ => (intOf i + 1).toNat)
  case atStart => exact ⟨lc.length, Nat.le_refl _, rfl, by rw [deep_end], Lib.hid (fun q hq => by rw [deep_far hq]; exact Int.le_refl _), rfl⟩
  case round =>
    obtain ⟨j, hj, rfl, rfl, HD, rfl⟩ := hrel
    cases j with
    | zero =>
      have hcl := deep_closed (l := lc) (fun q => HD.out q (Nat.zero_le _))
      have hjn := It.parsed_join (k := kc) hcl
      have hpl := parsed_len lc
      have hpl2 := parsed_len kc
      obtain ⟨⟨pa, pb⟩, hp⟩ : ∃ p, It.parsed lc = p := ⟨_, rfl⟩
      obtain ⟨⟨qa, qb⟩, hq⟩ : ∃ p, It.parsed kc = p := ⟨_, rfl⟩
      rw [hp] at hpl hjn
      rw [hq] at hpl2 hjn
      simp only at hjn
      have hpa : pa.length ≤ 30 := Nat.le_trans hpl.1 hlen
      have hpb : pb.length ≤ 30 := Nat.le_trans hpl.2 hlen
      have hqa : qa.length ≤ 30 := Nat.le_trans hpl2.1 hlen2
      have hqb : qb.length ≤ 30 := Nat.le_trans hpl2.2 hlen2
      have HJ := Lib.hid hjn
      have HP := Lib.hid hp
      have HQ := Lib.hid hq
      have HT := Lib.hid (show ∀ t ∈ lc ++ [(3, [])] ++ kc, t.2.length ≤ 100000 ∧ (Lit.int .i64 t.1).wf = true by
        intro t ht
        simp only [List.mem_append, List.mem_singleton] at ht
        rcases ht with (ht | rfl) | ht
        · exact ⟨Nat.le_trans (HE.out t ht) (by decide), HW.out t ht⟩
        · exact ⟨by simp, rfl⟩
        · exact ⟨Nat.le_trans (HE2.out t ht) (by decide), HW2.out t ht⟩)
      clear hjn hp hq hpl hpl2 hcl HD
      rw [show ((0 : Nat) : Int) - 1 = -1 from rfl]
      go_wp2_with fail
      (with_reducible refine (parse9_any _ lc _ RA2.out (by omega) (fun t ht => Nat.le_trans (HE.out t ht) (by decide)) HW.out).mono ?_); rintro e w3 ⟨vc, vd, rfl, oc, od, b3⟩
      rw [HP.out] at oc od
      have rc3 := rt_of_own9 oc
      have rd3 := rt_of_own9 od
      have ra3 := RA2.out.below' b3
      have rb3 := RB2.out.below' b3
      have B3 := B2.trans (b3.mono B2.size)
      clear oc od b3 B2 RA2 RB2
      go_wp2_with fail
      (with_reducible refine (parse9_any _ kc _ rb3 (by omega) (fun t ht => Nat.le_trans (HE2.out t ht) (by decide)) HW2.out).mono ?_); rintro e w4 ⟨ve, vf, rfl, oe, of, b4⟩
      rw [HQ.out] at oe of
      have re4 := rt_of_own9 oe
      have rf4 := rt_of_own9 of
      have rc4 := rc3.below' b4
      have rd4 := rd3.below' b4
      have ra4 := ra3.below' b4
      have rb4 := rb3.below' b4
      have B4 := B3.trans (b4.mono B3.size)
      clear oe of rc3 rd3 ra3 rb3 b4 B3
      have hB4 := B4.size
      have RA := Lib.hid ra4
      have RB := Lib.hid rb4
      have RC := Lib.hid rc4
      have RD := Lib.hid rd4
      have RE := Lib.hid re4
      have RF := Lib.hid rf4
      clear ra4 rb4 rc4 rd4 re4 rf4
      go_wp2_with (first
        | (at_builtin; refine wp_app_all tyTok rfl _ _ rfl w4.heap.size (World.ownsRow_made w4 #[] 0 (Nat.le_refl _) (Nat.zero_le _) (by simp)) (Rt.below' RA.out ((Below.refl _ _).alloc (Nat.le_refl _) _)) rfl rfl tcs_one (by omega) (by omega) (by simp) ?_; intro v5 w5 o5 b5 _; rw [Nat.zero_add, List.nil_append] at o5; have b5' : Below w4.heap.size w4 w5 := ((Below.refl _ _).alloc (Nat.le_refl _) _).trans b5; have hs5 := b5'.size; clear b5)
        | (at_builtin; refine wp_app tyTok rfl _ _ rfl w4.heap.size o5 rfl rfl rfl rfl tc_one (by omega) (by omega) hs5 ?_; intro v6 w6 o6 b6 _; have b6' := b5'.trans b6; have hs6 := b6'.size; have rb6 := Rt.below' RB.out b6'; clear b6)
        | (at_builtin; refine wp_app_all tyTok rfl _ _ rfl w4.heap.size o6 rb6 rfl rfl tcs_one (by omega) (by omega) hs6 ?_; intro v7 w7 o7 b7 _)
        | fail)
      have r7 : Rt w7 v7 (lc ++ [(3, [])] ++ kc) := by
        have h1 := own_rd o7
        have e1 : lc.length + 1 + kc.length = (lc ++ [(3, [])] ++ kc).length := by simp; omega
        have e2 : tcs lc ++ [Value.int .i64 3, .string (S [])] ++ tcs kc = tcs (lc ++ [(3, [])] ++ kc) := by rw [tcs_append, tcs_snoc]
        rw [e1, e2] at h1; exact h1
      have c7 := b6'.trans b7
      have B7 := B4.trans (c7.mono hB4)
      have RC7 := Lib.hid (Rt.below' RC.out c7)
      have RD7 := Lib.hid (Rt.below' RD.out c7)
      have RE7 := Lib.hid (Rt.below' RE.out c7)
      have RF7 := Lib.hid (Rt.below' RF.out c7)
      clear o5 o6 o7 rb6 b5' b6' b7 RA RB RC RD RE RF
      (with_reducible refine (parse9_any _ (lc ++ [(3, [])] ++ kc) _ r7 (by simp; omega) (fun t ht => (HT.out t ht).1) (fun t ht => (HT.out t ht).2)).mono ?_); rintro e w8 ⟨vg, vh, rfl, og, oh, b8⟩
      rw [HJ.out] at og oh
      have rg8 := rt_of_own9 og
      have rh8 := rt_of_own9 oh
      have B8 := B7.trans (b8.mono B7.size)
      have RC8 := Lib.hid (Rt.below' RC7.out b8)
      have RD8 := Lib.hid (Rt.below' RD7.out b8)
      have RE8 := Lib.hid (Rt.below' RE7.out b8)
      have RF8 := Lib.hid (Rt.below' RF7.out b8)
      have RG8 := Lib.hid rg8
      have RH8 := Lib.hid rh8
      clear r7 og oh b8 B7 RC7 RD7 RE7 RF7 c7 rg8 rh8 hB4
      have hB8 := B8.size
      go_wp2_with (first
        | (at_builtin; refine wp_app_all tyIt rfl _ _ rfl w8.heap.size (World.ownsRow_made w8 #[] 0 (Nat.le_refl _) (Nat.zero_le _) (by simp)) (Rt.below' RC8.out ((Below.refl _ _).alloc (Nat.le_refl _) _)) rfl rfl tcs_one (by omega) (by omega) (by simp) ?_; intro v9 w9 o9 b9 _; rw [Nat.zero_add, List.nil_append] at o9; have b9' : Below w8.heap.size w8 w9 := ((Below.refl _ _).alloc (Nat.le_refl _) _).trans b9; have hs9 := b9'.size; clear b9)
        | (at_builtin; refine wp_app tyIt rfl _ _ rfl w8.heap.size o9 rfl rfl rfl rfl tc_one (by omega) (by omega) hs9 ?_; intro va wa oa ba _; have ba' := b9'.trans ba; have hsa := ba'.size; have rea := Rt.below' RE8.out ba'; clear ba)
        | (at_builtin; refine wp_app_all tyIt rfl _ _ rfl w8.heap.size oa rea rfl rfl tcs_one (by omega) (by omega) hsa ?_; intro vb wb ob bb gb; have bb' := ba'.trans bb; have hsb := bb'.size; have rdb := Rt.below' RD8.out bb'; have rfb := Rt.below' RF8.out bb'; clear bb)
        | (at_builtin; refine wp_app_all tyNote rfl _ _ rfl wb.heap.size (World.ownsRow_made wb #[] 0 (Nat.le_refl _) (Nat.zero_le _) (by simp)) (Rt.below' rdb ((Below.refl _ _).alloc (Nat.le_refl _) _)) rfl rfl tcs_one (by omega) (by omega) (by simp) ?_; intro vc2 wc oc2 bc2 _; rw [Nat.zero_add, List.nil_append] at oc2; have bc' : Below wb.heap.size wb wc := ((Below.refl _ _).alloc (Nat.le_refl _) _).trans bc2; have hsc := bc'.size; have rfc := Rt.below' rfb bc'; clear bc2)
        | (at_builtin; refine wp_app_all tyNote rfl _ _ rfl wb.heap.size oc2 rfc rfl rfl tcs_one (by omega) (by omega) hsc ?_; intro vd2 wd od2 bd2 _)
        | fail)
      have cd := bc'.trans bd2
      have rbd : Rt wd vb (pa ++ [(3, [])] ++ qa) := by
        have h1 : Rd wb 2 vb (pa.length + 1 + qa.length) (tcs pa ++ [Value.int .i64 3, .string (S [])] ++ tcs qa) := own_rd ob
        have e1 : pa.length + 1 + qa.length = (pa ++ [(3, [])] ++ qa).length := by simp; omega
        have e2 : tcs pa ++ [Value.int .i64 3, .string (S [])] ++ tcs qa = tcs (pa ++ [(3, [])] ++ qa) := by rw [tcs_append, tcs_snoc]
        rw [e1, e2] at h1; exact Rt.below' h1 cd
      have rdd : Rt wd vd2 (pb ++ qb) := by
        have h1 := own_rd od2
        rw [← List.length_append, ← tcs_append] at h1; exact h1
      have c8 := bb'.trans (cd.mono hsb)
      have rgd := Rt.below' RG8.out c8
      have rhd := Rt.below' RH8.out c8
      have Bd := B8.trans (c8.mono hB8)
      have hl1 : (pa ++ [(3, [])] ++ qa).length ≤ 61 := by simp; omega
      have hl2 : (pb ++ qb).length ≤ 60 := by simp; omega
      clear o9 oa ob oc2 od2 rea rdb rfb rfc b9' ba' bb' bc' bd2 gb cd c8 RC8 RD8 RE8 RF8 RG8 RH8 B8
      obtain ⟨wt, hwt⟩ : ∃ wt, wt = pa ++ [(3, [])] ++ qa := ⟨_, rfl⟩
      obtain ⟨nt, hnt⟩ : ∃ nt, nt = pb ++ qb := ⟨_, rfl⟩
      rw [← hwt] at rbd rgd hl1
      rw [← hnt] at rdd rhd hl2
      clear hwt hnt
      (with_reducible refine (refsIt_any _ wt _ rgd (by omega)).mono ?_); rintro e we ⟨vi, rfl, oi, be⟩
      have rie := rt_of_own9 oi
      have rbe := rbd.below' be
      have rde := rdd.below' be
      have rhe := rhd.below' be
      have Be := Bd.trans (be.mono Bd.size)
      clear oi rbd rgd rdd rhd be Bd
      go_wp2_with fail
      (with_reducible refine (refsIt_any _ wt _ rbe (by omega)).mono ?_); rintro e wf ⟨vj, rfl, oj, bf⟩
      have rjf := rt_of_own9 oj
      have rif := rie.below' bf
      have rdf := rde.below' bf
      have rhf := rhe.below' bf
      have Bf := Be.trans (bf.mono Be.size)
      clear oj rie rbe rde rhe bf Be
      go_wp2_with fail
      (with_reducible refine (sameIt_any _ _ wt wt _ rif rjf (by omega) (by omega)).mono ?_); rintro e wg ⟨rfl, bg⟩
      rw [show (wt == wt) = true by simp]
      have rdg := rdf.below' bg
      have rhg := rhf.below' bg
      have Bg := Bf.trans (bg.mono Bf.size)
      clear rif rjf rdf rhf bg Bf
      go_wp2_with fail
      (with_reducible refine (notes_any _ _ nt nt _ rhg rdg (by omega) (by omega)).mono ?_); rintro e wh ⟨rfl, bh⟩
      rw [show (nt == nt) = true by simp]
      have Bh := Bg.trans (bh.mono Bg.size)
      clear rhg rdg bh Bg
      go_wp2_with fail
      (with_reducible refine (itFixed_any _).mono ?_); rintro e wi ⟨rfl, bi⟩
      go_wp2_with fail
      go_ret
      exact ⟨rfl, Bh.trans (bi.mono Bh.size)⟩
    | succ m =>
      have hm : m < lc.length := by omega
      obtain ⟨b1, o1, rfl, c10, c11⟩ := RA2.out.at hm
      have hst := deep_step hm
      have hbd := deep_bound lc (m + 1)
      have hbd2 := deep_bound lc m
      have hpos := HD.out (m + 1) (Nat.le_refl _)
      rw [show ((m + 1 : Nat) : Int) - 1 = (m : Int) by omega]
      obtain ⟨⟨z, s⟩, hzs⟩ : ∃ x, x = lc[m] := ⟨_, rfl⟩
      rw [← hzs] at c10 c11 hst
      simp only at hst
      obtain ⟨D, hD⟩ : ∃ D, D = deepAt lc (m + 1) := ⟨_, rfl⟩
      rw [← hD] at hst hbd hpos ⊢
      obtain ⟨E, hE⟩ : ∃ E, E = deepAt lc m := ⟨_, rfl⟩
      rw [← hE] at hst hbd2
      have HDE := Lib.hid hE
      clear hzs hD hE
      have hwr2 : IntKind.i64.wrap ((m : Int) - 1) = (m : Int) - 1 := (Go.IntWalk.i64_left _).trans (Go.IntWalk.wrap64_in _ (by omega))
      have hwr3 : wrap64 ((m : Int) - 1) = (m : Int) - 1 := Go.IntWalk.wrap64_in _ (by omega)
      have hml : (m : Int) < (lc.length : Int) := by omega
      have hnext : 0 ≤ E → Hid (∀ q, m ≤ q → 0 ≤ deepAt lc q) := fun h0 => Lib.hid (fun q hq => by
        by_cases e : q = m
        · subst e; rw [← HDE.out]; exact h0
        · exact HD.out q (by omega))
      by_cases h6 : z = 6
      · subst h6
        have hEv : E = D + 1 := by simpa using hst
        have hn := hnext (by omega)
        have hwr4 : IntKind.i64.wrap (D + 1) = D + 1 := (Go.IntWalk.i64_left _).trans (Go.IntWalk.wrap64_in _ (by omega))
        have hwr5 : wrap64 (D + 1) = D + 1 := Go.IntWalk.wrap64_in _ (by omega)
        have hneg : decide (D + 1 < 0) = false := by simp; omega
        clear hst hnext hbd2
        go_wp2_with fail
        go_roundw
        case rel => exact ⟨m, by omega, by rfl, by rw [← HDE.out, hEv], hn, trivial⟩
        case measure => simp [intOf]
      · have h6b : (z == 6) = false := by simpa using h6
        by_cases h5 : z = 5
        · subst h5
          have hEv : E = D - 1 := by simpa using hst
          have hwr4 : IntKind.i64.wrap (D - 1) = D - 1 := (Go.IntWalk.i64_left _).trans (Go.IntWalk.wrap64_in _ (by omega))
          have hwr5 : wrap64 (D - 1) = D - 1 := Go.IntWalk.wrap64_in _ (by omega)
          by_cases hneg : D - 1 < 0
          · clear hst hnext hbd2
            go_wp2_with fail
            (with_reducible refine (itFixed_any _).mono ?_); rintro e wh ⟨rfl, bh⟩
            go_wp2_with fail
            go_ret
            exact ⟨rfl, B2.trans (bh.mono B2.size)⟩
          · have hn := hnext (by omega)
            have hnegb : decide (D - 1 < 0) = false := by simp; omega
            clear hst hnext hbd2
            go_wp2_with fail
            go_roundw
            case rel => exact ⟨m, by omega, by rfl, by rw [← HDE.out, hEv], hn, trivial⟩
            case measure => simp [intOf]
        · have h5b : (z == 5) = false := by simpa using h5
          have hEv : E = D := by simpa [h5, h6] using hst
          have hn := hnext (by omega)
          have hnegb : decide (D < 0) = false := by simp; omega
          clear hst hnext hbd2
          go_wp2_with fail
          go_roundw
          case rel => exact ⟨m, by omega, by rfl, by rw [← HDE.out, hEv], hn, trivial⟩
          case measure => simp [intOf]

end Go.Proofs.Ytcdclkgfgieppaa
