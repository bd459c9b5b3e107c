
/- 'MacroFills', walked: it answers true at every input. No condition. -/
import Derived.Test.YtkpdhpbnbpjceaaMacLawA
import Derived.Test.YtkpdhpbnbpjceaaMacFillR
namespace Go.Proofs.Ytkpdhpbnbpjceaa
open Go.RowKit

theorem tcs_set (l : List Lx.Tok) (i : Nat) (h : i < l.length) (z : Int) : (tcs l).set (i * 2) (.int .i64 z) = tcs (l.set i (z, l[i].2)) := by
  induction l generalizing i with
  | nil => simp at h
  | cons t l ih =>
    have e : ∀ (t : Lx.Tok) l, tcs (t :: l) = .int .i64 t.1 :: .string (S t.2) :: tcs l := fun t l => by simp [tcs, tc]
    cases i with
    | zero => simp [tcs, tc]
    | succ i =>
      have hi : i < l.length := by simpa using h
      rw [e, show (i + 1) * 2 = i * 2 + 1 + 1 by omega]
      simp only [List.set_cons_succ, List.getElem_cons_succ, e, ih i hi]

/-- Texts of at most 40 bytes. -/
def Le40 (l : List Lx.Tok) : Prop := ∀ t ∈ l, t.2.length ≤ 40
theorem le40 {l : List Lx.Tok} (h : Le40 l) : ∀ t ∈ l, t.2.length ≤ 40 := h

set_option maxRecDepth 20000 in
set_option maxHeartbeats 4000000 in
/-- 'MacroFills'. -/
theorem macroFills_any (v u : Value) (l : List Lx.Tok) (ls : List (List Lx.Tok)) (w : World) (hl : Rt w v l) (hu : Rts w u ls) (hs : ∀ t ∈ l, t.2.length ≤ 9223372036854775807) (hs2 : ∀ l ∈ ls, ∀ t ∈ l, t.2.length ≤ 9223372036854775807) :
    Calls Try.prog 4 #[v, u] w fun e w' => e = .returned (.bool true) ∧ Below w.heap.size w w' := by
  have hC := cut_any v l 60 w hl (by decide) hs
  simp only [Int.cast_ofNat_Int] at hC
  have HC := Lib.hid hC
  clear hC hl hs
  have hlen := cutm_len l 60
  have heach := cutm_each l 60
  obtain ⟨lc, hlc⟩ : ∃ lc, lc = (l.take 60).map cut40 := ⟨_, rfl⟩
  rw [← hlc] at HC hlen heach
  clear hlc
  have HU := Lib.hid hu
  obtain ⟨au, cu, rfl⟩ := hu.shape
  clear hu
  have HCUT := Lib.hid (fun (w' : World) (x : Value) (y : List Lx.Tok) (hr : Rt w' x y) (hm : y ∈ ls) => cut_any x y 20 w' hr (by decide) (hs2 y hm))
  go_enter Try.func4, Try.ntmps4
  go_wp2_with fail
  (with_reducible refine HC.out.mono ?_); rintro e w1 ⟨va, rfl, oa, b1⟩
  have hs1 := b1.size
  go_wp2_with fail
  have hun := own_under oa
  go_loopw [5, 6] (fun v i wr => ∃ k : Nat, k ≤ ls.length ∧ k ≤ 9 ∧ i = .int .i64 k ∧ Oll wr w1.heap.size 22 v ((ls.take k).map fun l => (l.take 20).map cut40) ∧ Below w1.heap.size w1 wr) (fun _ i _ => ls.length - (intOf i).toNat)
  case atStart => exact ⟨0, Nat.zero_le _, Nat.zero_le _, rfl, Oll.made _ _ _ (Nat.le_refl _), (Below.refl _ _).alloc (Nat.le_refl _) _⟩
  case round =>
    obtain ⟨k, hk, hk9, rfl, hown, hbw⟩ := hrel
    have hsz := hbw.size
    by_cases hlt : k < ls.length ∧ k < 9
    · obtain ⟨hlt, hlt9⟩ := hlt
      have hlt9i : (k : Int) < 9 := by omega
      obtain ⟨b2, o2, x, rfl, c2, r2, _, k2⟩ := (HU.out.below' (b1.trans (hbw.mono hs1))).at hlt
      have hcut := Lib.hid (HCUT.out wr x _ r2 (List.getElem_mem hlt))
      have hcl := cutm_len ls[k] 20
      obtain ⟨y, hy⟩ : ∃ y, y = (ls[k].take 20).map cut40 := ⟨_, rfl⟩
      have HX := Lib.hid (show ((ls.take (k + 1)).map fun l => (l.take 20).map cut40) = ((ls.take k).map fun l => (l.take 20).map cut40) ++ [y] by rw [take_snoc ls k hlt, List.map_append, hy]; rfl)
      have hlk : ((ls.take k).map fun l => (l.take 20).map cut40).length = k := by simp; omega
      have HLK := Lib.hid hlk
      rw [← hy] at hcut hcl
      have hcut2 := hcut.out
      simp only [Int.cast_ofNat_Int] at hcut2
      have HCU := Lib.hid hcut2
      have hunv := hown.under
      clear hcut hcut2 hy hlk
      go_wp2_with fail
      (with_reducible refine HCU.out.mono ?_); rintro e w3 ⟨cv, rfl, hcv, b3⟩
      obtain ⟨a1, c1, rfl⟩ := own_shape hcv
      have hown3 := hown.below' b3
      have hs3 := b3.size
      have hsep : ∀ b, (Value.slice a1 y.length c1).ownBlock = some b → b < w3.heap.size ∧ u5.ownBlock ≠ some b ∧ w1.heap.size ≤ b := fun b hb => ⟨(hcv.lt b hb).2, fun e => by have h1 := hunv b e; have h2 := (hcv.lt b hb).1; omega, by have h2 := (hcv.lt b hb).1; omega⟩
      have hb4 := hbw.trans (b3.mono hsz)
      have hlk2 := HLK.out
      have hbig : (((ls.take k).map fun l => (l.take 20).map cut40).length + 1) * 24 ≤ 140737488355328 := by rw [hlk2]; omega
      have hbig2 : ((ls.take k).map fun l => (l.take 20).map cut40).length ≤ 1000000000000000 := by rw [hlk2]; omega
      go_wp2_with (at_builtin; refine wp_oll tyLl rfl _ _ rfl w1.heap.size hown3 (own_rd hcv) hsep rfl rfl rfl rfl hbig hbig2 (by omega) ?_; intro v6 w6 hown6 b6)
      go_roundw
      case rel => exact ⟨k + 1, by omega, by omega, by go_num, (by rw [HX.out]; exact hown6), hb4.trans b6⟩
      case measure => simp [intOf]; omega
    · obtain ⟨aL, has⟩ : ∃ aL, aL = (ls.take k).map fun l => (l.take 20).map cut40 := ⟨_, rfl⟩
      have hasl : aL.length ≤ 9 := by rw [has]; simp; omega
      have hase : ∀ x ∈ aL, x.length ≤ 20 := by
        intro x hx
        rw [has] at hx
        obtain ⟨y, _, rfl⟩ := List.mem_map.1 hx
        exact cutm_len y 20
      rw [← has] at hown
      clear has
      have oa2 := own_below oa hun hbw
      have B2 := b1.trans (hbw.mono hs1)
      have hcase : k = ls.length ∨ ((9 : Int) < (ls.length : Int) ∧ k = 9) := by
        by_cases h : k < ls.length
        · right; omega
        · left; omega
      clear hk hk9 hlt
      rcases hcase with rfl | ⟨hc, rfl⟩
      all_goals (
        go_wp2_with fail
        go_loopw [7] (fun i wr2 => ∃ (j : Nat) (lf : List Lx.Tok), j ≤ lc.length ∧ i = .int .i64 j ∧ Hid (lf.length = lc.length) ∧ Hid (Le40 lf) ∧ wr2.ownsRow w.heap.size 41 2 va lc.length (tcs lf) ∧ Oll wr2 w1.heap.size 22 u5 aL ∧ Below w.heap.size w wr2) (fun i _ => lc.length - (intOf i).toNat)
        case atStart => exact ⟨0, lc, Nat.zero_le _, rfl, rfl, heach, oa2, hown, B2⟩
        case round =>
          obtain ⟨j, lf, hj, rfl, HLF, HLE, hrow, hOll, hbw2⟩ := hrel
          have hsz2 := hbw2.size
          by_cases hjl : j < lc.length
          · rcases hrow.2 with ⟨_, h0⟩ | ⟨g, cap, cur, hv, hgB, hgr, _⟩
            · omega
            · subst hv
              have hjf : j < lf.length := by rw [HLF.out]; exact hjl
              have z0 := own_at hrow (tcs_at lf j hjf).1
              have z1 := own_at hrow (tcs_at lf j hjf).2
              have f0 := own_free hrow (j * 2)
              obtain ⟨⟨zz, s⟩, hzs⟩ : ∃ x, x = lf[j] := ⟨_, rfl⟩
              have hsl : s.length ≤ 40 := le40 HLE.out (zz, s) (by rw [hzs]; exact List.getElem_mem hjf)
              have hset := own_setk hrow (j * 2) (.int .i64 1)
              rw [tcs_set lf j hjf] at hset
              rw [← hzs] at z0 z1 hset
              clear hzs
              have bset := hbw2.setCell (p := ⟨g, j * 2, none⟩) hgB (.int .i64 1)
              have hOs := hOll.apart (setCell_grown wr ⟨g, j * 2, none⟩ (.int .i64 1)) (by have := hun g rfl; exact this)
              have HLF2 := Lib.hid (show (lf.set j (1, s)).length = lc.length by rw [List.length_set]; exact HLF.out)
              have HLE2 := Lib.hid (show Le40 (lf.set j (1, s)) by
                intro t ht
                rcases List.mem_or_eq_of_mem_set ht with ht | rfl
                · exact le40 HLE.out t ht
                · exact hsl)
              have Hset := Lib.hid hset
              have HOs := Lib.hid hOs
              have Hbset := Lib.hid bset
              have Hrow := Lib.hid hrow
              have HOl := Lib.hid hOll
              have Hbw2 := Lib.hid hbw2
              clear hset hOs bset hrow hOll hbw2 hun oa oa2 hown
              go_wp2_with fail
              all_goals (
                go_roundw
                case rel => first
                  | exact ⟨j + 1, lf, by omega, by go_num, HLF, HLE, Hrow.out, HOl.out, Hbw2.out⟩
                  | exact ⟨j + 1, lf.set j (1, s), by omega, by go_num, HLF2, HLE2, Hset.out, HOs.out, Hbset.out⟩
                  | exact ⟨j + 1, by omega, by omega, lf, HLF, HLE, Hrow.out, HOl.out, Hbw2.out⟩
                  | exact ⟨j + 1, by omega, by omega, lf.set j (1, s), HLF2, HLE2, Hset.out, HOs.out, Hbset.out⟩
                case measure => simp [intOf]; omega)
          · obtain rfl : j = lc.length := by omega
            have ra : Rt wr va lf := by have h := own_rd hrow; rw [← HLF.out] at h; exact h
            obtain ⟨a9, c9, rfl⟩ := own_shape hrow
            have rl := hOll.rts
            have hlf : lf.length ≤ 60 := by rw [HLF.out]; exact hlen
            obtain ⟨ws, wb, hw⟩ : ∃ ws wb, wordOf lf = (ws, wb) := ⟨_, _, rfl⟩
            have HW := Lib.hid hw
            have hfl := fill_le hase lf
            obtain ⟨ff, hff⟩ : ∃ ff, ff = Mx.fill aL lf := ⟨_, rfl⟩
            rw [← hff] at hfl
            have HFF := Lib.hid hff
            have hffl : ff.length ≤ 1260 := by omega
            obtain ⟨ft, hft⟩ : ∃ ft, ft = Mx.flatOf lf := ⟨_, rfl⟩
            have HFT := Lib.hid hft
            clear hw hff hft hfl hrow hOll HLF
            go_wp2_with fail
            (with_reducible refine (macWord_any _ _ _ ra).mono ?_); rintro e w3 ⟨rfl, b3⟩
            rw [HW.out]
            have ra3 := ra.below' b3
            have rl3 := Rts.below' rl b3
            have B3 := hbw2.trans (b3.mono hsz2)
            clear ra rl b3 hbw2
            go_wp2_with fail
            (with_reducible refine (refs_any _ _ _ ra3 (by omega)).mono ?_); rintro e w4 ⟨vb, rfl, ob, b4⟩
            have rb := rt_of_own' ob
            have ra4 := ra3.below' b4
            have rl4 := Rts.below' rl3 b4
            have B4 := B3.trans (b4.mono B3.size)
            clear ra3 rl3 b4 ob B3
            go_wp2_with fail
            (with_reducible refine (refWord_one _ _ _ rb).mono ?_); rintro e w5 ⟨rfl, rfl⟩
            rw [HW.out]
            clear rb
            go_wp2_with fail
            (with_reducible refine (fill_any _ _ _ _ _ ra4 rl4 (by omega) (fun x hx => by have := hase x hx; omega)).mono ?_); rintro e w6 ⟨vf, rfl, of, b6⟩
            rw [← HFF.out] at of
            have rf := rt_of_own' of
            have ra6 := ra4.below' b6
            have rl6 := Rts.below' rl4 b6
            have B6 := B4.trans (b6.mono B4.size)
            clear ra4 rl4 b6 of B4
            go_wp2_with fail
            (with_reducible refine (refs_any _ _ _ rf (by omega)).mono ?_); rintro e w7 ⟨vg, rfl, og, b7⟩
            have rg := rt_of_own' og
            have ra7 := ra6.below' b7
            have rl7 := Rts.below' rl6 b7
            have B7 := B6.trans (b7.mono B6.size)
            clear ra6 rl6 b7 og B6 rf
            go_wp2_with fail
            (with_reducible refine (refs_any _ _ _ ra7 (by omega)).mono ?_); rintro e w8 ⟨vh, rfl, oh, b8⟩
            have rh := rt_of_own' oh
            have rg8 := rg.below' b8
            have ra8 := ra7.below' b8
            have rl8 := Rts.below' rl7 b8
            have B8 := B7.trans (b8.mono B7.size)
            clear ra7 rl7 b8 oh B7 rg
            go_wp2_with fail
            (with_reducible refine (lists_any _ _ _ rl8 (by omega) (fun x hx => by have := hase x hx; omega)).mono ?_); rintro e w9 ⟨vi, rfl, oi, b9⟩
            have ri := oi.rts
            have rg9 := rg8.below' b9
            have rh9 := rh.below' b9
            have ra9 := ra8.below' b9
            have B9 := B8.trans (b9.mono B8.size)
            clear ra8 rl8 b9 oi B8 rg8 rh
            go_wp2_with fail
            (with_reducible refine (refFill_any _ _ _ _ _ rh9 ri (by omega) hasl (fun x hx => by have := hase x hx; omega)).mono ?_); rintro e wa ⟨vj, rfl, oj, ba⟩
            rw [← HFF.out] at oj
            have rj := rt_of_own' oj
            have rga := rg9.below' ba
            have raa := ra9.below' ba
            have Ba := B9.trans (ba.mono B9.size)
            clear ra9 ba oj B9 rg9 rh9 ri
            go_wp2_with fail
            (with_reducible refine (same_any _ _ _ _ _ rga rj (by omega) (by omega)).mono ?_); rintro e wb2 ⟨rfl, bb⟩
            rw [show (ff == ff) = true from by simp]
            have rab := raa.below' bb
            have Bb := Ba.trans (bb.mono Ba.size)
            clear raa rga rj bb Ba
            go_wp2_with fail
            (with_reducible refine (flat_any _ _ _ rab (by omega) (fun t ht => by have := le40 HLE.out t ht; omega)).mono ?_); rintro e wc ⟨rfl, bc⟩
            rw [← HFT.out]
            have rac := rab.below' bc
            have Bc := Bb.trans (bc.mono Bb.size)
            clear rab bc Bb
            go_wp2_with fail
            (with_reducible refine (refs_any _ _ _ rac (by omega)).mono ?_); rintro e wd ⟨vk, rfl, ok, bd⟩
            have rk := rt_of_own' ok
            have Bd := Bc.trans (bd.mono Bc.size)
            clear rac bd ok Bc
            go_wp2_with fail
            (with_reducible refine (refFlat_any _ _ _ rk (by omega) (fun t ht => by have := le40 HLE.out t ht; omega)).mono ?_); rintro e we ⟨rfl, rfl⟩
            rw [← HFT.out]
            go_wp2_with fail
            (with_reducible refine (macFixed_any _).mono ?_); rintro e wf ⟨rfl, bf⟩
            go_wp2_with fail
            go_ret
            exact ⟨rfl, Bd.trans (bf.mono Bd.size)⟩
      )

end Go.Proofs.Ytkpdhpbnbpjceaa
