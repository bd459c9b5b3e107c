
/- 'MacroGroups', 'MacroFlat', walked: each answers true at every input. No condition. -/
import Derived.Test.YtkpdhpbnbpjceaaMacFixed
import Derived.Test.YtkpdhpbnbpjceaaMacFlatQ
namespace Go.Proofs.Ytkpdhpbnbpjceaa
open Go.RowKit

theorem cutm_len (l : List Lx.Tok) (m : Nat) : ((l.take m).map cut40).length ≤ m := by simp; omega
theorem cutm_each (l : List Lx.Tok) (m : Nat) : ∀ t ∈ (l.take m).map cut40, t.2.length ≤ 40 := by
  intro t ht
  obtain ⟨x, _, rfl⟩ := List.mem_map.1 ht
  simp [cut40]; omega
theorem args_len (n : Nat) : ∀ (l : List Lx.Tok) (x : List (List Lx.Tok) × Nat), Mx.args n l = some x → x.1.length ≤ n ∧ ∀ y ∈ x.1, y.length ≤ l.length := by
  induction n with
  | zero => intro l x h; simp [Mx.args] at h; subst h; simp
  | succ n ih =>
    intro l x h
    rw [Mx.args] at h
    split at h
    · simp at h
    · rename_i g hg
      simp only [Option.map_eq_some_iff] at h
      obtain ⟨y, hy, rfl⟩ := h
      have h1 := ih _ _ hy
      refine ⟨by simpa using h1.1, fun z hz => ?_⟩
      rcases List.mem_cons.1 hz with rfl | hz
      · simp; omega
      · have := h1.2 z hz
        simp at this; omega
theorem argsAt_len (l : List Lx.Tok) (p n : Int) : (argsAt l p n).1.length ≤ 9 ∧ ∀ y ∈ (argsAt l p n).1, y.length ≤ l.length := by
  unfold argsAt
  split
  · simp
  · rename_i h
    cases ha : Mx.args n.toNat (l.drop p.toNat) with
    | none => simp [ares]
    | some x =>
      have := args_len _ _ _ ha
      refine ⟨by simp only [ares]; omega, fun y hy => ?_⟩
      have := this.2 y hy
      simp at this; omega

set_option maxRecDepth 20000 in
set_option maxHeartbeats 4000000 in
/-- 'MacroGroups'. -/
theorem macroGroups_any (v : Value) (l : List Lx.Tok) (p n : Int) (w : World) (hl : Rt w v l) (hs : ∀ t ∈ l, t.2.length ≤ 9223372036854775807) :
    Calls Try.prog 3 #[v, .int .i64 p, .int .i64 n] w fun e w' => e = .returned (.bool true) ∧ Below w.heap.size w w' := by
  have hC := cut_any v l 60 w hl (by decide) hs
  simp only [Int.cast_ofNat_Int] at hC
  have HC := Lib.hid hC
  clear hC
  clear hl hs
  have hlen := cutm_len l 60
  obtain ⟨lc, hlc⟩ : ∃ lc, lc = (l.take 60).map cut40 := ⟨_, rfl⟩
  rw [← hlc] at HC hlen
  clear hlc
  have hal := argsAt_len lc p n
  obtain ⟨z1, z2, hz⟩ : ∃ z1 z2, Mx.groupAt lc p = (z1, z2) := ⟨_, _, rfl⟩
  obtain ⟨ls, z3, z4, hy⟩ : ∃ ls z3 z4, argsAt lc p n = (ls, z3, z4) := ⟨_, _, _, rfl⟩
  rw [hy] at hal
  have hal1 : ls.length ≤ 9 := hal.1
  have hal2 : ∀ y ∈ ls, y.length ≤ lc.length := hal.2
  have HZ := Lib.hid hz
  have HY := Lib.hid hy
  clear hz hy hal
  go_enter Try.func3, Try.ntmps3
  go_wp2_with fail
  (with_reducible refine HC.out.mono ?_); rintro e w1 ⟨va, rfl, oa, b1⟩
  have ra := rt_of_own' oa
  clear oa
  go_wp2_with fail
  (with_reducible refine (group_any _ _ p _ ra (by omega)).mono ?_); rintro e w2 ⟨rfl, b2⟩
  rw [HZ.out]
  have ra2 := ra.below' b2
  have H2 := b1.trans (b2.mono b1.size)
  clear ra b1 b2
  go_wp2_with fail
  (with_reducible refine (refs_any _ _ _ ra2 (by omega)).mono ?_); rintro e w3 ⟨vb, rfl, ob, b3⟩
  have rb := rt_of_own' ob
  have ra3 := ra2.below' b3
  have H3 := H2.trans (b3.mono H2.size)
  clear ra2 b3 ob H2
  go_wp2_with fail
  (with_reducible refine (refGroup_any _ _ p _ rb (by omega)).mono ?_); rintro e w4 ⟨rfl, b4⟩
  rw [HZ.out]
  have ra4 := ra3.below' b4
  have H4 := H3.trans (b4.mono H3.size)
  clear ra3 b4 rb H3
  go_wp2_with fail
  (with_reducible refine (args_any _ _ p n _ ra4 (by omega)).mono ?_); rintro e w5 ⟨vx, rfl, rx, b5⟩
  rw [HY.out] at rx ⊢
  have ra5 := ra4.below' b5
  have H5 := H4.trans (b5.mono H4.size)
  clear ra4 b5 H4
  go_wp2_with fail
  (with_reducible refine (refs_any _ _ _ ra5 (by omega)).mono ?_); rintro e w6 ⟨vc, rfl, oc, b6⟩
  have rc := rt_of_own' oc
  have rx6 := Rts.below' rx b6
  have H6 := H5.trans (b6.mono H5.size)
  clear ra5 b6 oc rx H5
  go_wp2_with fail
  (with_reducible refine (refArgs_any _ _ p n _ rc (by omega)).mono ?_); rintro e w7 ⟨vy, rfl, ry, b7⟩
  rw [HY.out] at ry ⊢
  have rx7 := Rts.below' rx6 b7
  have H7 := H6.trans (b7.mono H6.size)
  clear rx6 b7 rc H6
  go_wp2_with fail
  (with_reducible refine (lists_any _ _ _ rx7 (by show ls.length ≤ _; omega) (fun y hy => by have := hal2 y hy; omega)).mono ?_); rintro e w8 ⟨vz, rfl, oz, b8⟩
  have ry8 := Rts.below' ry b8
  have rz := oz.rts
  have H8 := H7.trans (b8.mono H7.size)
  clear rx7 b8 ry oz H7
  go_wp2_with fail
  (with_reducible refine (sameLists_any _ _ _ _ _ rz ry8 (by show ls.length ≤ _; omega) (by show ls.length ≤ _; omega) (fun y hy => by have := hal2 y hy; omega) (fun y hy => by have := hal2 y hy; omega)).mono ?_); rintro e w9 ⟨rfl, b9⟩
  rw [show ((ls, z3, z4).1 == (ls, z3, z4).1) = true from by simp]
  have H9 := H8.trans (b9.mono H8.size)
  clear rz ry8 b9 H8
  go_wp2_with fail
  (with_reducible refine (macFixed_any _).mono ?_); rintro e wa ⟨rfl, ba⟩
  go_wp2_with fail
  go_ret
  exact ⟨rfl, H9.trans (ba.mono H9.size)⟩

set_option maxRecDepth 20000 in
set_option maxHeartbeats 4000000 in
/-- 'MacroFlat'. -/
theorem macroFlat_any (v u : Value) (l k : List Lx.Tok) (w : World) (hl : Rt w v l) (hk : Rt w u k) (hs : ∀ t ∈ l, t.2.length ≤ 9223372036854775807) (hs2 : ∀ t ∈ k, t.2.length ≤ 9223372036854775807) :
    Calls Try.prog 7 #[v, u] w fun e w' => e = .returned (.bool true) ∧ Below w.heap.size w w' := by
  have hC := cut_any v l 30 w hl (by decide) hs
  simp only [Int.cast_ofNat_Int] at hC
  have HC := Lib.hid hC
  clear hC
  have hK := fun w' (hb : Below w.heap.size w w') => cut_any u k 30 w' (hk.below' hb) (by decide) hs2
  simp only [Int.cast_ofNat_Int] at hK
  have HK := Lib.hid hK
  clear hK
  clear hl hs hk hs2
  have hlen := cutm_len l 30
  have heach := cutm_each l 30
  have hlen2 := cutm_len k 30
  have heach2 := cutm_each k 30
  obtain ⟨lc, hlc⟩ : ∃ lc, lc = (l.take 30).map cut40 := ⟨_, rfl⟩
  obtain ⟨kc, hkc⟩ : ∃ kc, kc = (k.take 30).map cut40 := ⟨_, rfl⟩
  rw [← hlc] at HC hlen heach
  rw [← hkc] at HK hlen2 heach2
  clear hlc hkc
  have hfa := Mx.flat_le heach
  have hfb := Mx.flat_le heach2
  have h2 := Mx.flat_two lc kc
  have h1 := Mx.flat_word lc
  have he := Mx.sqz_ends (Mx.bare lc)
  have ht : ∀ t ∈ lc ++ [(2, [])] ++ kc, t.2.length ≤ 100000 := by
    intro t ht
    simp only [List.mem_append, List.mem_singleton] at ht
    rcases ht with (ht | rfl) | ht
    · have := heach t ht; omega
    · simp
    · have := heach2 t ht; omega
  obtain ⟨a, ha⟩ : ∃ a, a = Mx.flatOf lc := ⟨_, rfl⟩
  obtain ⟨b, hb⟩ : ∃ b, b = Mx.flatOf kc := ⟨_, rfl⟩
  rw [show Mx.sqz (Mx.bare lc) = a from ha.symm] at he
  rw [← ha] at hfa h1 h2
  rw [← hb] at hfb h2
  have hal : a.length ≤ 1230 := by omega
  have hbl : b.length ≤ 1230 := by omega
  have HA := Lib.hid ha.symm
  have HB := Lib.hid hb.symm
  have H1 := Lib.hid h1
  have H2 := Lib.hid h2
  have HE := Lib.hid he
  have HT := Lib.hid ht
  clear ha hb h1 h2 he ht hfa hfb
  go_enter Try.func7, Try.ntmps7
  go_wp2_with fail
  (with_reducible refine HC.out.mono ?_); rintro e w1 ⟨va, rfl, oa, b1⟩
  have ra := rt_of_own' oa
  clear oa
  go_wp2_with fail
  (with_reducible refine (HK.out w1 b1).mono ?_); rintro e w2 ⟨vb, rfl, ob, b2⟩
  have rb := rt_of_own' ob
  have ra2 := ra.below' b2
  have B2 := b1.trans (b2.mono b1.size)
  clear ra ob b1 b2
  go_wp2_with fail
  (with_reducible refine (flat_any _ _ _ ra2 (by omega) (fun t ht => by have := heach t ht; omega)).mono ?_); rintro e w3 ⟨rfl, b3⟩
  rw [HA.out]
  have ra3 := ra2.below' b3
  have rb3 := rb.below' b3
  have B3 := B2.trans (b3.mono B2.size)
  clear ra2 rb b3 B2
  go_wp2_with fail
  (with_reducible refine (flat_any _ _ _ rb3 (by omega) (fun t ht => by have := heach2 t ht; omega)).mono ?_); rintro e w4 ⟨rfl, b4⟩
  rw [HB.out]
  have ra4 := ra3.below' b4
  have rb4 := rb3.below' b4
  have B4 := B3.trans (b4.mono B3.size)
  have hB4 := B4.size
  clear ra3 rb3 b4 B3
  have RA := Lib.hid ra4
  have RB := Lib.hid rb4
  clear ra4 rb4
  go_wp2_with (first
    | (at_builtin; refine wp_app_all tyTok rfl _ _ rfl w4.heap.size (World.ownsRow_made w4 #[] 0 (Nat.le_refl _) (Nat.zero_le _) (by simp)) (Rt.below' RA.out ((Below.refl _ _).alloc (Nat.le_refl _) _)) rfl rfl tcs_one (by omega) (by omega) (by simp) ?_; intro v5 w5 o5 b5 _; rw [Nat.zero_add, List.nil_append] at o5; have b5' : Below w4.heap.size w4 w5 := ((Below.refl _ _).alloc (Nat.le_refl _) _).trans b5; have hs5 := b5'.size; clear b5)
    | (at_builtin; refine wp_app tyTok rfl _ _ rfl w4.heap.size o5 rfl rfl rfl rfl tc_one (by omega) (by omega) hs5 ?_; intro v6 w6 o6 b6 _; have b6' := b5'.trans b6; have hs6 := b6'.size; have rb6 := Rt.below' RB.out b6'; clear b6)
    | (at_builtin; refine wp_app_all tyTok rfl _ _ rfl w4.heap.size o6 rb6 rfl rfl tcs_one (by omega) (by omega) hs6 ?_; intro v7 w7 o7 b7 _))
  have r7 : Rt w7 v7 (lc ++ [(2, [])] ++ kc) := by
    have h1 := own_rd o7
    have e1 : lc.length + 1 + kc.length = (lc ++ [(2, [])] ++ kc).length := by simp; omega
    have e2 : tcs lc ++ [Value.int .i64 2, .string (S [])] ++ tcs kc = tcs (lc ++ [(2, [])] ++ kc) := by rw [tcs_append, tcs_snoc]
    rw [e1, e2] at h1; exact h1
  have B7 := B4.trans ((b6'.trans b7).mono hB4)
  clear o5 o6 o7 rb6 b5' b6' b7
  (with_reducible refine (flat_any _ _ _ r7 (by simp; omega) HT.out).mono ?_); rintro e w8 ⟨rfl, b8⟩
  have B8 := B7.trans (b8.mono B7.size)
  clear r7 b8 B7
  rw [H2.out]
  obtain ⟨c, hc⟩ : ∃ c, c = if a = [] ∨ b = [] then a ++ b else a ++ [32] ++ b := ⟨_, rfl⟩
  rw [← hc]
  have HCC := Lib.hid hc
  clear hc
  go_wp2_with fail
  have m8 : Rt (w8.alloc (.cells #[.int .i64 1, .string (S a)] 41)) (.slice (some ⟨w8.heap.size, 0, none⟩) 1 1) [(1, a)] := rt_made w8 [(1, a)] _
  have B9 := B8.alloc B8.size (.cells #[.int .i64 1, .string (S a)] 41)
  (with_reducible refine (flat_any _ [(1, a)] _ m8 (by simp) (fun t ht => by simp at ht; subst ht; show a.length ≤ _; omega)).mono ?_); rintro e w9 ⟨rfl, b9⟩
  rw [H1.out]
  have Ba := B9.trans (b9.mono B9.size)
  clear m8 B9 b9 B8
  cases a with
  | nil =>
    have HX := Lib.hid (HCC.out.trans (if_pos (.inl rfl)))
    rw [List.nil_append] at HX
    have hcb := HX.out
    subst hcb
    go_wp2_with fail
    (with_reducible refine (macFixed_any _).mono ?_); rintro e wa ⟨rfl, ba⟩
    go_wp2_with fail
    go_ret
    exact ⟨rfl, Ba.trans (ba.mono Ba.size)⟩
  | cons d r =>
    have hd0 : (d == 32) = false := by have := HE.out.1; simpa using this
    have hlast : ((d :: r)[r.length]'(by simp) == 32) = false := by
      have := HE.out.2.1
      rw [List.getLast?_eq_getElem?] at this
      simp only [List.length_cons, Nat.add_sub_cancel] at this
      rw [List.getElem?_eq_getElem (by simp)] at this
      simpa using this
    have hrl : r.length ≤ 1230 := by simp at hal; omega
    cases b with
    | nil =>
      have HX := Lib.hid (HCC.out.trans (if_pos (.inr rfl)))
      rw [List.append_nil] at HX
      have hcb := HX.out
      subst hcb
      go_wp2_with fail
      (with_reducible refine (macFixed_any _).mono ?_); rintro e wa ⟨rfl, ba⟩
      go_wp2_with fail
      go_ret
      exact ⟨rfl, Ba.trans (ba.mono Ba.size)⟩
    | cons x y =>
      have HX := Lib.hid (HCC.out.trans (if_neg (by simp)))
      have hyl : y.length ≤ 1230 := by simp at hbl; omega
      have hcat : r.length + 1 + 1 + (y.length + 1) ≤ 9223372036854775807 := by omega
      have hcb := HX.out
      subst hcb
      go_wp2_with fail
      (with_reducible refine (macFixed_any _).mono ?_); rintro e wa ⟨rfl, ba⟩
      go_wp2_with fail
      go_ret
      exact ⟨rfl, Ba.trans (ba.mono Ba.size)⟩

end Go.Proofs.Ytkpdhpbnbpjceaa
