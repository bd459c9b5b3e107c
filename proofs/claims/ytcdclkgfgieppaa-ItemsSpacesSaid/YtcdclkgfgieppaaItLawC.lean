
/- 'ItemsBack', walked: it answers true at every input. No condition. -/
import Derived.Test.YtcdclkgfgieppaaItBackP
namespace Go.Proofs.Ytcdclkgfgieppaa
open Go.RowKit

theorem It.parse_each (m : Nat) : ∀ (n : Nat) (l out notes : List Lx.Tok) (a : Nat), 60 ≤ a → (∀ t ∈ l, t.2.length ≤ m) → (∀ t ∈ out, t.2.length ≤ a) → ∀ t ∈ (It.parse n l out notes).1, t.2.length ≤ a + l.length * m := by
  intro n
  induction n with
  | zero => intro l out notes a _ _ h t ht; have := h t ht; omega
  | succ n ih =>
    intro l out notes a ha hl h
    cases l with
    | nil => intro t ht; have := h t ht; omega
    | cons x r =>
      have hr : ∀ t ∈ r, t.2.length ≤ m := fun t ht => hl t (List.mem_cons_of_mem _ ht)
      have hx : x.2.length ≤ m := hl x (List.mem_cons_self ..)
      have e : a + (x :: r).length * m = a + m + r.length * m := by rw [List.length_cons, Nat.succ_mul]; omega
      have hd : ∀ c, (r.drop c).length * m ≤ r.length * m := fun c => Nat.mul_le_mul_right _ (by rw [List.length_drop]; omega)
      have hrd : ∀ c, ∀ t ∈ r.drop c, t.2.length ≤ m := fun c t ht => hr t (List.mem_of_mem_drop ht)
      rw [e, It.parse]
      have k1 : ∀ o, (∀ t ∈ o, t.2.length ≤ a + m) → ∀ n', ∀ t ∈ (It.parse n r o n').1, t.2.length ≤ a + m + r.length * m := fun o ho n' t ht => ih r o n' (a + m) (by omega) hr ho t ht
      have k2 : ∀ c o, (∀ t ∈ o, t.2.length ≤ a + m) → ∀ n', ∀ t ∈ (It.parse n (r.drop c) o n').1, t.2.length ≤ a + m + r.length * m := fun c o ho n' t ht => by
        have := ih (r.drop c) o n' (a + m) (by omega) (hrd c) ho t ht
        have := hd c
        omega
      have ho := bound_mono h (show a ≤ a + m by omega)
      split
      · exact k1 _ (It.word_bound h hx) _
      · split
        · exact k1 _ (snoc_bound ho (by simp)) _
        · split
          · split
            · exact k1 _ ho _
            · split
              · exact k1 _ (snoc_bound ho (by simp)) _
              · split
                · exact k1 _ ho _
                · split
                  · exact k2 _ _ ho _
                  · rename_i y c _ hno
                    have hno2 : It.noKey (Mx.flatOf (y.headD [])) = false := by simpa using hno
                    have hf : (Mx.flatOf (y.headD [])).length ≤ 60 := by
                      simp only [It.noKey, Bool.or_eq_false_iff, decide_eq_false_iff_not] at hno2
                      omega
                    exact k2 _ _ (snoc_bound ho (by omega)) _
          · exact k1 _ ho _
theorem parsed_each {l : List Lx.Tok} {m : Nat} (h : ∀ t ∈ l, t.2.length ≤ m) : ∀ t ∈ (It.parsed l).1, t.2.length ≤ 60 + l.length * m :=
  It.parse_each m _ l [] [] 60 (Nat.le_refl _) h (by simp)
theorem right_kinds : ∀ (l : List Lx.Tok) (p : Int), It.right p l = true → ∀ t ∈ l, 1 ≤ t.1 ∧ t.1 ≤ 16 := by
  intro l
  induction l with
  | nil => intro p _ t ht; cases ht
  | cons x r ih =>
    intro p h t ht
    rw [It.right, Bool.and_eq_true] at h
    rcases List.mem_cons.1 ht with rfl | ht
    · have := h.1
      simp only [It.okItem, Bool.and_eq_true, decide_eq_true_eq] at this
      omega
    · exact ih _ h.2 t ht
theorem parsed_wf (l : List Lx.Tok) : ∀ t ∈ (It.parsed l).1, (Lit.int .i64 t.1).wf = true := fun t ht => by
  have := right_kinds _ _ (It.right_parsed l) t ht
  exact WalkArith.wf_i64 (by omega)
theorem nameOf_le (k : Nat) : (It.nameOf k).length ≤ 20 := by
  unfold It.nameOf
  by_cases h : k - 4 < 13
  · have : ∀ j : Fin 13, (It.names.getD j.val []).length ≤ 20 := by decide
    exact this ⟨k - 4, h⟩
  · rw [List.getD_eq_getElem?_getD, List.getElem?_eq_none (by show 13 ≤ _; omega)]
    simp
theorem shown_each {l : List Lx.Tok} {m : Nat} (h : ∀ t ∈ l, t.2.length ≤ m) : ∀ t ∈ It.shown l, t.2.length ≤ m + 20 ∧ (Lit.int .i64 t.1).wf = true := by
  intro t ht
  obtain ⟨x, hx, ht⟩ := List.mem_flatMap.1 ht
  have hxl := h x hx
  have hn := nameOf_le x.1.toNat
  unfold It.showOne at ht
  split at ht
  · simp only [List.mem_singleton] at ht; subst ht; exact ⟨by simp only; omega, rfl⟩
  · split at ht
    · rename_i h23
      simp only [List.mem_singleton] at ht; subst ht
      exact ⟨by simp, WalkArith.wf_i64 (by simp only; omega)⟩
    · split at ht
      · simp only [List.mem_cons, List.not_mem_nil, or_false] at ht
        rcases ht with rfl | rfl | rfl | rfl
        · exact ⟨by simp only; omega, rfl⟩
        · exact ⟨by simp, rfl⟩
        · exact ⟨by simp only; omega, rfl⟩
        · exact ⟨by simp, rfl⟩
      · split at ht
        · simp only [List.mem_singleton] at ht; subst ht; exact ⟨by simp only; omega, rfl⟩
        · cases ht

set_option maxRecDepth 20000 in
set_option maxHeartbeats 4000000 in
/-- 'ItemsBack'. -/
theorem itemsBack_any (v u : Value) (l k : List Lx.Tok) (w : World) (hl : Rt w v l) (hk : Rt w u k) (hs : ∀ t ∈ l, t.2.length ≤ 9223372036854775807) (hs2 : ∀ t ∈ k, t.2.length ≤ 9223372036854775807)
    (hz : ∀ t ∈ l, -9223372036854775808 ≤ t.1 ∧ t.1 ≤ 9223372036854775807) (hz2 : ∀ t ∈ k, -9223372036854775808 ≤ t.1 ∧ t.1 ≤ 9223372036854775807) :
    Calls Try.prog 5 #[v, u] w fun e w' => e = .returned (.bool true) ∧ Below w.heap.size w w' := by
  have hC := cut_any v l 60 w hl (by decide) hs
  have hK := fun w' (hb : Below w.heap.size w w') => cutIt_any u k 40 w' (hk.below' hb) (by decide) hs2
  simp only [Int.cast_ofNat_Int] at hC hK
  have HC := Lib.hid hC
  have HK := Lib.hid hK
  have hlen := cut9_len l 60
  have heach := cut9_each l 60
  have hwf := cut9_wf 60 (wf_all hz)
  have hlen2 := cutI_len k 40
  have heach2 := cutI_each k 40
  have hwf2 := cutI_wf 40 (wf_all hz2)
  clear hC hK hl hk hs hs2 hz hz2
  obtain ⟨lc, hlc⟩ : ∃ lc, lc = (l.take 60).map cut40 := ⟨_, rfl⟩
  obtain ⟨kc, hkc⟩ : ∃ kc, kc = (k.take 40).map cut80 := ⟨_, rfl⟩
  rw [← hlc] at HC hlen heach hwf
  rw [← hkc] at HK hlen2 heach2 hwf2
  clear hlc hkc
  have hpl := parsed_len lc
  have hpe := parsed_each heach
  have hpw := parsed_wf lc
  have hpr := It.right_parsed lc
  obtain ⟨⟨pa, pb⟩, hp⟩ : ∃ p, It.parsed lc = p := ⟨_, rfl⟩
  rw [hp] at hpl hpe hpw hpr
  simp only at hpe hpw hpr
  have hpa : pa.length ≤ 60 := Nat.le_trans hpl.1 hlen
  have hpe2 : ∀ t ∈ pa, t.2.length ≤ 2460 := fun t ht => Nat.le_trans (hpe t ht) (by omega)
  have hps := It.parsed_shown hpr
  have hsa := shown_le pa
  have hsae := shown_each hpe2
  obtain ⟨sa, hsa'⟩ : ∃ sa, It.shown pa = sa := ⟨_, rfl⟩
  rw [hsa'] at hsa hsae hps
  have hsk := shown_le kc
  have hske := shown_each heach2
  have hri := It.right_iff kc
  obtain ⟨sk, hsk'⟩ : ∃ sk, It.shown kc = sk := ⟨_, rfl⟩
  rw [hsk'] at hsk hske hri
  have hql := parsed_len sk
  obtain ⟨⟨pc, pd⟩, hq⟩ : ∃ p, It.parsed sk = p := ⟨_, rfl⟩
  rw [hq] at hri hql
  simp only at hri hql
  have HP := Lib.hid hp
  have HPS := Lib.hid hps
  have HPR := Lib.hid hpr
  have HSA := Lib.hid hsa'
  have HSK := Lib.hid hsk'
  have HQ := Lib.hid hq
  have HRI := Lib.hid hri
  have HE := Lib.hid heach
  have HE2 := Lib.hid heach2
  have HW := Lib.hid hwf
  have HW2 := Lib.hid hwf2
  have HPW := Lib.hid hpw
  have HPE := Lib.hid hpe2
  have HSAE := Lib.hid hsae
  have HSKE := Lib.hid hske
  obtain ⟨hql1, _⟩ := hql
  clear hp hps hpr hsa' hsk' hq hri heach heach2 hwf hwf2 hpw hpe hpe2 hsae hske hpl
  go_enter Try.func5, Try.ntmps5
  go_wp2_with fail
  (with_reducible refine HC.out.mono ?_); rintro e w1 ⟨va, rfl, oa, b1⟩
  have ra := rt_of_own9 oa
  clear oa
  go_wp2_with fail
  (with_reducible refine (HK.out w1 b1).mono ?_); rintro e w2 ⟨vb, rfl, ob, b2⟩
  have rk2 := rt_of_own9 ob
  have ra2 := ra.below' b2
  have B2 := b1.trans (b2.mono b1.size)
  clear ra ob b1 b2 HC HK
  go_wp2_with fail
  (with_reducible refine (parse9_any _ lc _ ra2 (by omega) (fun t ht => Nat.le_trans (HE.out t ht) (by decide)) HW.out).mono ?_); rintro e w3 ⟨vc, vd, rfl, oc, _, b3⟩
  rw [HP.out] at oc
  have rc3 := rt_of_own9 oc
  have rk3 := rk2.below' b3
  have B3 := B2.trans (b3.mono B2.size)
  clear oc ra2 rk2 b3 B2
  go_wp2_with fail
  (with_reducible refine (show9_any _ pa _ rc3 (by omega) HPW.out).mono ?_); rintro e w4 ⟨ve, rfl, oe, b4⟩
  rw [HSA.out] at oe
  have re4 := rt_of_own9 oe
  have rc4 := rc3.below' b4
  have rk4 := rk3.below' b4
  have B4 := B3.trans (b4.mono B3.size)
  clear oe rc3 rk3 b4 B3
  go_wp2_with fail
  (with_reducible refine (parse9_any _ sa _ re4 (by omega) (fun t ht => Nat.le_trans (HSAE.out t ht).1 (by decide)) (fun t ht => (HSAE.out t ht).2)).mono ?_); rintro e w5 ⟨vf, vg, rfl, of, og, b5⟩
  rw [HPS.out] at of og
  have rf5 := rt_of_own9 of
  obtain ⟨ag, cg, rfl⟩ := own_shape og
  have rc5 := rc4.below' b5
  have rk5 := rk4.below' b5
  have B5 := B4.trans (b5.mono B4.size)
  clear of og re4 rc4 rk4 b5 B4
  go_wp2_with fail
  (with_reducible refine (show9_any _ kc _ rk5 (by omega) HW2.out).mono ?_); rintro e w6 ⟨vh, rfl, oh, b6⟩
  rw [HSK.out] at oh
  have rh6 := rt_of_own9 oh
  have rc6 := rc5.below' b6
  have rf6 := rf5.below' b6
  have rk6 := rk5.below' b6
  have B6 := B5.trans (b6.mono B5.size)
  clear oh rc5 rf5 rk5 b6 B5
  go_wp2_with fail
  (with_reducible refine (parse9_any _ sk _ rh6 (by omega) (fun t ht => Nat.le_trans (HSKE.out t ht).1 (by decide)) (fun t ht => (HSKE.out t ht).2)).mono ?_); rintro e w7 ⟨vi, vj, rfl, oi, oj, b7⟩
  rw [HQ.out] at oi oj
  have ri7 := rt_of_own9 oi
  obtain ⟨aj, cj, rfl⟩ := own_shape oj
  have rc7 := rc6.below' b7
  have rf7 := rf6.below' b7
  have rk7 := rk6.below' b7
  have B7 := B6.trans (b7.mono B6.size)
  clear oi oj rh6 rc6 rf6 rk6 b7 B6
  go_wp2_with fail
  (with_reducible refine (right9_any _ pa _ rc7 (by omega) (fun t ht => Nat.le_trans (HPE.out t ht) (by decide)) HPW.out).mono ?_); rintro e w8 ⟨rfl, b8⟩
  rw [HPR.out]
  have ri8 := ri7.below' b8
  have rc8 := rc7.below' b8
  have rf8 := rf7.below' b8
  have rk8 := rk7.below' b8
  have B8 := B7.trans (b8.mono B7.size)
  clear ri7 rc7 rf7 rk7 b8 B7
  go_wp2_with fail
  (with_reducible refine (refsIt_any _ pa _ rc8 (by omega)).mono ?_); rintro e w9 ⟨vm, rfl, om, b9⟩
  have rm9 := rt_of_own9 om
  have ri9 := ri8.below' b9
  have rf9 := rf8.below' b9
  have rk9 := rk8.below' b9
  have B9 := B8.trans (b9.mono B8.size)
  clear om ri8 rc8 rf8 rk8 b9 B8
  go_wp2_with fail
  (with_reducible refine (refsIt_any _ pa _ rf9 (by omega)).mono ?_); rintro e wa ⟨vn, rfl, on, ba⟩
  have rna := rt_of_own9 on
  have rma := rm9.below' ba
  have ria := ri9.below' ba
  have rka := rk9.below' ba
  have Ba := B9.trans (ba.mono B9.size)
  clear on ri9 rm9 rf9 rk9 ba B9
  go_wp2_with fail
  (with_reducible refine (sameIt_any _ _ pa pa _ rma rna (by omega) (by omega)).mono ?_); rintro e wb ⟨rfl, bb⟩
  rw [show (pa == pa) = true by simp]
  have rib := ria.below' bb
  have rkb := rka.below' bb
  have Bb := Ba.trans (bb.mono Ba.size)
  clear rma rna ria rka bb Ba
  go_wp2_with fail
  (with_reducible refine (right9_any _ kc _ rkb (by omega) (fun t ht => Nat.le_trans (HE2.out t ht) (by decide)) HW2.out).mono ?_); rintro e wc ⟨rfl, bc⟩
  rw [← HRI.out]
  have ric := rib.below' bc
  have rkc := rkb.below' bc
  have Bc := Bb.trans (bc.mono Bb.size)
  clear rib rkb bc Bb
  obtain ⟨q, hq⟩ : ∃ q, q = (pc == kc) := ⟨_, rfl⟩
  obtain ⟨d, hd⟩ : ∃ d, d = decide (pd.length = 0) := ⟨_, rfl⟩
  rw [← hq, ← hd]
  have HQQ := Lib.hid hq
  have hdd : ((pd.length : Int) == 0) = d := by rw [hd, Bool.eq_iff_iff]; simp
  have HDD := Lib.hid hdd
  clear hq hd hdd
  go_wp2_with fail
  (with_reducible refine (refsIt_any _ pc _ ric (by omega)).mono ?_); rintro e wd ⟨vo, rfl, oo, bd⟩
  have rod := rt_of_own9 oo
  have rkd := rkc.below' bd
  have Bd := Bc.trans (bd.mono Bc.size)
  clear oo ric rkc bd Bc
  go_wp2_with fail
  (with_reducible refine (refsIt_any _ kc _ rkd (by omega)).mono ?_); rintro e we ⟨vq, rfl, oq, be⟩
  have rqe := rt_of_own9 oq
  have roe := rod.below' be
  have Be := Bd.trans (be.mono Bd.size)
  clear oq rod rkd be Bd
  go_wp2_with fail
  (with_reducible refine (sameIt_any _ _ pc kc _ roe rqe (by omega) (by omega)).mono ?_); rintro e wf ⟨rfl, bf⟩
  rw [← HQQ.out]
  have Bf := Be.trans (bf.mono Be.size)
  clear roe rqe bf Be
  cases q with
  | false =>
    go_wp2_with fail
    (with_reducible refine (itFixed_any _).mono ?_); rintro e wh ⟨rfl, bh⟩
    go_wp2_with fail
    go_ret
    exact ⟨rfl, Bf.trans (bh.mono Bf.size)⟩
  | true =>
    cases d with
    | true =>
      have h1 := HDD.out
      go_wp2_with fail
      (with_reducible refine (itFixed_any _).mono ?_); rintro e wh ⟨rfl, bh⟩
      go_wp2_with fail
      go_ret
      exact ⟨rfl, Bf.trans (bh.mono Bf.size)⟩
    | false =>
      have h1 := HDD.out
      go_wp2_with fail
      (with_reducible refine (itFixed_any _).mono ?_); rintro e wh ⟨rfl, bh⟩
      go_wp2_with fail
      go_ret
      exact ⟨rfl, Bf.trans (bh.mono Bf.size)⟩

end Go.Proofs.Ytcdclkgfgieppaa
