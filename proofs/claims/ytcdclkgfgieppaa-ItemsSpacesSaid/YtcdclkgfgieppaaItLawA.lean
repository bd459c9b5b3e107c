
/- 'ItemsTell', walked: it answers true at every input. No condition. -/
import Derived.Test.YtcdclkgfgieppaaItFixed
namespace Go.Proofs.Ytcdclkgfgieppaa
open Go.RowKit

theorem wf_all {l : List Lx.Tok} (h : ∀ x ∈ l, -9223372036854775808 ≤ x.1 ∧ x.1 ≤ 9223372036854775807) : ∀ t ∈ l, (Lit.int .i64 t.1).wf = true := fun t ht => WalkArith.wf_i64 (h t ht)
theorem cut9_len (l : List Lx.Tok) (m : Nat) : ((l.take m).map cut40).length ≤ m := by simp; omega
theorem cut9_each (l : List Lx.Tok) (m : Nat) : ∀ t ∈ (l.take m).map cut40, t.2.length ≤ 40 := by
  intro t ht
  obtain ⟨x, _, rfl⟩ := List.mem_map.1 ht
  simp [cut40]; omega
theorem cut9_wf {l : List Lx.Tok} (m : Nat) (h : ∀ t ∈ l, (Lit.int .i64 t.1).wf = true) : ∀ t ∈ (l.take m).map cut40, (Lit.int .i64 t.1).wf = true := by
  intro t ht
  obtain ⟨x, hx, rfl⟩ := List.mem_map.1 ht
  exact h x (List.mem_of_mem_take hx)
theorem cutI_len (l : List Lx.Tok) (m : Nat) : ((l.take m).map cut80).length ≤ m := by simp; omega
theorem cutI_each (l : List Lx.Tok) (m : Nat) : ∀ t ∈ (l.take m).map cut80, t.2.length ≤ 80 := by
  intro t ht
  obtain ⟨x, _, rfl⟩ := List.mem_map.1 ht
  simp [cut80]; omega
theorem cutI_wf {l : List Lx.Tok} (m : Nat) (h : ∀ t ∈ l, (Lit.int .i64 t.1).wf = true) : ∀ t ∈ (l.take m).map cut80, (Lit.int .i64 t.1).wf = true := by
  intro t ht
  obtain ⟨x, hx, rfl⟩ := List.mem_map.1 ht
  exact h x (List.mem_of_mem_take hx)

theorem It.parse_len : ∀ (n : Nat) (l out notes : List Lx.Tok), (It.parse n l out notes).1.length ≤ out.length + l.length ∧ (It.parse n l out notes).2.length ≤ notes.length + l.length := by
  intro n
  induction n with
  | zero => intro l out notes; simp [It.parse]
  | succ n ih =>
    intro l out notes
    cases l with
    | nil => simp [It.parse]
    | cons t r =>
      rw [It.parse]
      have hw := It.word_len out t.2
      repeat' split
      all_goals (
        refine ⟨Nat.le_trans (ih _ _ _).1 ?_, Nat.le_trans (ih _ _ _).2 ?_⟩ <;> simp only [List.length_append, List.length_cons, List.length_nil, List.length_drop] <;> omega)
theorem parsed_len (l : List Lx.Tok) : (It.parsed l).1.length ≤ l.length ∧ (It.parsed l).2.length ≤ l.length := by
  have := It.parse_len l.length l [] []
  simpa [It.parsed] using this

set_option maxRecDepth 20000 in
set_option maxHeartbeats 4000000 in
/-- 'ItemsTell'. -/
theorem itemsTell_any (v u : Value) (l k : List Lx.Tok) (w : World) (hl : Rt w v l) (hk : Rt w u k) (hs : ∀ t ∈ l, t.2.length ≤ 9223372036854775807) (hs2 : ∀ t ∈ k, t.2.length ≤ 9223372036854775807)
    (hz : ∀ t ∈ l, -9223372036854775808 ≤ t.1 ∧ t.1 ≤ 9223372036854775807) (hz2 : ∀ t ∈ k, -9223372036854775808 ≤ t.1 ∧ t.1 ≤ 9223372036854775807) :
    Calls Try.prog 3 #[v, u] w fun e w' => e = .returned (.bool true) ∧ Below w.heap.size w w' := by
  have hC := cut_any v l 60 w hl (by decide) hs
  have hK := fun w' (hb : Below w.heap.size w w') => cutIt_any u k 40 w' (hk.below' hb) (by decide) hs2
  simp only [Int.cast_ofNat_Int] at hC hK
  have HC := Lib.hid hC
  have HK := Lib.hid hK
  have hlen := cut9_len l 60
  have heach := cut9_each l 60
  have hwf := cut9_wf 60 (wf_all hz)
  have hlen2 := cutI_len k 40
  have heach2 := cutI_each k 40
  have hwf2 := cutI_wf 40 (wf_all hz2)
  clear hC hK hl hk hs hs2 hz hz2
  obtain ⟨lc, hlc⟩ : ∃ lc, lc = (l.take 60).map cut40 := ⟨_, rfl⟩
  obtain ⟨kc, hkc⟩ : ∃ kc, kc = (k.take 40).map cut80 := ⟨_, rfl⟩
  rw [← hlc] at HC hlen heach hwf
  rw [← hkc] at HK hlen2 heach2 hwf2
  clear hlc hkc
  have hpl := parsed_len lc
  obtain ⟨⟨pa, pb⟩, hp⟩ : ∃ p, It.parsed lc = p := ⟨_, rfl⟩
  rw [hp] at hpl
  have hpa : pa.length ≤ 60 := Nat.le_trans hpl.1 hlen
  have hpb : pb.length ≤ 60 := Nat.le_trans hpl.2 hlen
  have hsh := shown_le kc
  obtain ⟨sk, hsk⟩ : ∃ sk, It.shown kc = sk := ⟨_, rfl⟩
  rw [hsk] at hsh
  obtain ⟨r, hr⟩ : ∃ r, It.right 0 kc = r := ⟨_, rfl⟩
  have HP := Lib.hid hp
  have HSK := Lib.hid hsk
  have HR := Lib.hid hr
  have HE := Lib.hid heach
  have HE2 := Lib.hid heach2
  have HW := Lib.hid hwf
  have HW2 := Lib.hid hwf2
  clear hp hsk hr heach heach2 hwf hwf2 hpl
  go_enter Try.func3, Try.ntmps3
  go_wp2_with fail
  (with_reducible refine HC.out.mono ?_); rintro e w1 ⟨va, rfl, oa, b1⟩
  have ra := rt_of_own9 oa
  clear oa
  go_wp2_with fail
  (with_reducible refine (HK.out w1 b1).mono ?_); rintro e w2 ⟨vb, rfl, ob, b2⟩
  have rk2 := rt_of_own9 ob
  have ra2 := ra.below' b2
  have B2 := b1.trans (b2.mono b1.size)
  clear ra ob b1 b2 HC HK
  go_wp2_with fail
  (with_reducible refine (parse9_any _ lc _ ra2 (by omega) (fun t ht => Nat.le_trans (HE.out t ht) (by decide)) HW.out).mono ?_); rintro e w3 ⟨vc, vd, rfl, oc, od, b3⟩
  rw [HP.out] at oc od
  have rc3 := rt_of_own9 oc
  have rd3 := rt_of_own9 od
  have ra3 := ra2.below' b3
  have rk3 := rk2.below' b3
  have B3 := B2.trans (b3.mono B2.size)
  clear oc od ra2 rk2 b3 B2
  go_wp2_with fail
  (with_reducible refine (refs_any _ lc _ ra3 (by omega)).mono ?_); rintro e w4 ⟨ve, rfl, oe, b4⟩
  have re4 := rt_of_own9 oe
  have rc4 := rc3.below' b4
  have rd4 := rd3.below' b4
  have rk4 := rk3.below' b4
  have B4 := B3.trans (b4.mono B3.size)
  clear oe ra3 rc3 rd3 rk3 b4 B3
  go_wp2_with fail
  (with_reducible refine (refParse9_any _ lc _ re4 (by omega) (fun t ht => Nat.le_trans (HE.out t ht) (by decide))).mono ?_); rintro e w5 ⟨vf, vg, rfl, of, og, b5⟩
  rw [HP.out] at of og
  have rf5 := rt_of_own9 of
  have rg5 := rt_of_own9 og
  have rc5 := rc4.below' b5
  have rd5 := rd4.below' b5
  have rk5 := rk4.below' b5
  have B5 := B4.trans (b5.mono B4.size)
  clear of og re4 rc4 rd4 rk4 b5 B4
  go_wp2_with fail
  (with_reducible refine (refsIt_any _ pa _ rc5 (by omega)).mono ?_); rintro e w6 ⟨vh, rfl, oh, b6⟩
  have rh6 := rt_of_own9 oh
  have rf6 := rf5.below' b6
  have rg6 := rg5.below' b6
  have rd6 := rd5.below' b6
  have rk6 := rk5.below' b6
  have B6 := B5.trans (b6.mono B5.size)
  clear oh rc5 rf5 rg5 rd5 rk5 b6 B5
  go_wp2_with fail
  (with_reducible refine (sameIt_any _ _ pa pa _ rh6 rf6 (by omega) (by omega)).mono ?_); rintro e w7 ⟨rfl, b7⟩
  rw [show (pa == pa) = true by simp]
  have rg7 := rg6.below' b7
  have rd7 := rd6.below' b7
  have rk7 := rk6.below' b7
  have B7 := B6.trans (b7.mono B6.size)
  clear rh6 rf6 rg6 rd6 rk6 b7 B6
  go_wp2_with fail
  (with_reducible refine (notes_any _ _ pb pb _ rd7 rg7 (by omega) (by omega)).mono ?_); rintro e w8 ⟨rfl, b8⟩
  rw [show (pb == pb) = true by simp]
  have rk8 := rk7.below' b8
  have B8 := B7.trans (b8.mono B7.size)
  clear rg7 rd7 rk7 b8 B7
  go_wp2_with fail
  (with_reducible refine (right9_any _ kc _ rk8 (by omega) (fun t ht => Nat.le_trans (HE2.out t ht) (by decide)) HW2.out).mono ?_); rintro e w9 ⟨rfl, b9⟩
  rw [HR.out]
  have rk9 := rk8.below' b9
  have B9 := B8.trans (b9.mono B8.size)
  clear rk8 b9 B8
  go_wp2_with fail
  (with_reducible refine (refsIt_any _ kc _ rk9 (by omega)).mono ?_); rintro e wa ⟨vi, rfl, oi, ba⟩
  have ria := rt_of_own9 oi
  have rka := rk9.below' ba
  have Ba := B9.trans (ba.mono B9.size)
  clear oi rk9 ba B9
  go_wp2_with fail
  (with_reducible refine (refRight9_any _ kc _ ria (by omega) (fun t ht => Nat.le_trans (HE2.out t ht) (by decide))).mono ?_); rintro e wb ⟨rfl, bb⟩
  rw [HR.out]
  have rkb := rka.below' bb
  have Bb := Ba.trans (bb.mono Ba.size)
  clear ria rka bb Ba
  have hrr : (r == r) = true := by simp
  go_wp2_with fail
  (with_reducible refine (show9_any _ kc _ rkb (by omega) HW2.out).mono ?_); rintro e wc ⟨vj, rfl, oj, bc⟩
  rw [HSK.out] at oj
  have rjc := rt_of_own9 oj
  have rkc := rkb.below' bc
  have Bc := Bb.trans (bc.mono Bb.size)
  clear oj rkb bc Bb
  go_wp2_with fail
  (with_reducible refine (refs_any _ sk _ rjc (by omega)).mono ?_); rintro e wd ⟨vm, rfl, om, bd⟩
  have rmd := rt_of_own9 om
  have rkd := rkc.below' bd
  have Bd := Bc.trans (bd.mono Bc.size)
  clear om rjc rkc bd Bc
  go_wp2_with fail
  (with_reducible refine (refsIt_any _ kc _ rkd (by omega)).mono ?_); rintro e we ⟨vn, rfl, on, be⟩
  have rne := rt_of_own9 on
  have rme := rmd.below' be
  have Be := Bd.trans (be.mono Bd.size)
  clear on rmd rkd be Bd
  go_wp2_with fail
  (with_reducible refine (refShow9_any _ kc _ rne (by omega)).mono ?_); rintro e wf ⟨vo, rfl, oo, bf⟩
  rw [HSK.out] at oo
  have rof := rt_of_own9 oo
  have rmf := rme.below' bf
  have Bf := Be.trans (bf.mono Be.size)
  clear oo rne rme bf Be
  go_wp2_with fail
  (with_reducible refine (same_any _ _ sk sk _ rmf rof (by omega) (by omega)).mono ?_); rintro e wg ⟨rfl, bg⟩
  rw [show (sk == sk) = true by simp]
  have Bg := Bf.trans (bg.mono Bf.size)
  clear rmf rof bg Bf
  go_wp2_with fail
  (with_reducible refine (itFixed_any _).mono ?_); rintro e wh ⟨rfl, bh⟩
  go_wp2_with fail
  go_ret
  exact ⟨rfl, Bg.trans (bh.mono Bg.size)⟩

end Go.Proofs.Ytcdclkgfgieppaa
