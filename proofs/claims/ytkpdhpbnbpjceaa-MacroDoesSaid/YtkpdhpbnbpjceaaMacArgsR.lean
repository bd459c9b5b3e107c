
/- The macro layer's reference: what stands within groups. No condition. -/
import Derived.Test.YtkpdhpbnbpjceaaMacArgs
namespace Go.Proofs.Ytkpdhpbnbpjceaa
open Go.RowKit

set_option maxRecDepth 20000 in
set_option maxHeartbeats 3200000 in
/-- The reference's 'Args', where the place is one, and as many are asked for as may be. -/
theorem refArgs_in (v : Value) (l : List Lx.Tok) (p n : Nat) (w : World) (hl : Rt w v l) (hlen : l.length ≤ 1000000000) (hp : p ≤ l.length) (hn : n ≤ 9) :
    Calls Try.prog 14 #[v, .int .i64 (p : Int), .int .i64 (n : Int)] w fun e w' => ∃ v', e = .returned (.tuple #[v', .int .i64 (ares p (Mx.args n (l.drop p))).2.1, .int .i64 (ares p (Mx.args n (l.drop p))).2.2]) ∧ Rts w' v' (ares p (Mx.args n (l.drop p))).1 ∧ Below w.heap.size w w' := by
  obtain ⟨a0, c0, rfl⟩ := hl.shape
  have hcap := Rd.cap hl
  have A := Lib.hid hl
  clear hl
  have e1 : decide ((p : Int) < 0) = false := by simp
  have e2 : decide (l.length < p) = false := by simp; omega
  have e3 : decide ((n : Int) < 0) = false := by simp
  have e4 : decide (9 < (n : Int)) = false := by simp; omega
  go_enter Try.func14, Try.ntmps14
  go_wp2_with fail
  go_loopw [1, 9, 10] (fun at_ out i wr => ∃ (k q : Nat) (acc : List (List Lx.Tok)), at_ = .int .i64 q ∧ i = .int .i64 k ∧ k ≤ n ∧ p ≤ q ∧ q ≤ l.length ∧ acc.length = k ∧ Oll wr w.heap.size 28 out acc ∧ Below w.heap.size w wr ∧ Hid (Mx.args n (l.drop p) = (Mx.args (n - k) (l.drop q)).map fun x => (acc ++ x.1, q - p + x.2))) (fun _ _ i _ => n - (intOf i).toNat)
  case atStart => exact ⟨0, p, [], rfl, rfl, Nat.zero_le _, Nat.le_refl _, hp, rfl, Oll.made _ _ _ (Nat.le_refl _), (Below.refl _ _).alloc (Nat.le_refl _) _, by simp [Hid]⟩
  case round =>
    obtain ⟨k, q, acc, rfl, rfl, hk, hpq, hq, hacc, hown, hbw, HC⟩ := hrel
    have hsz := hbw.size
    by_cases hkn : k < n
    · go_wp2_with fail
      go_loopw [1] (fun at_ wr2 => ∃ r : Nat, at_ = .int .i64 r ∧ q ≤ r ∧ r ≤ l.length ∧ Hid (q + Mx.spaces (l.drop q) = r + Mx.spaces (l.drop r)) ∧ Below wr.heap.size wr wr2) (fun at_ _ => l.length - (intOf at_).toNat)
      case atStart => exact ⟨q, rfl, Nat.le_refl _, hq, by simp [Hid], Below.refl _ _⟩
      case round =>
        obtain ⟨r, rfl, hqr, hr, HS, hb2⟩ := hrel
        by_cases hrl : r < l.length
        · obtain ⟨b, o, hb, c20, c21⟩ := (Rt.below' (Rt.below' A.out hbw) hb2).at hrl
          subst hb
          cases h2 : (l[r].1 == 2)
          · have hsr : r = q + Mx.spaces (l.drop q) := by rw [HS.out, spaces_stop hrl (by simpa using h2)]; rfl
            obtain ⟨n', hn'⟩ : ∃ n', n - k = n' + 1 := ⟨n - k - 1, by omega⟩
            have HC1 := HC.out
            rw [hn'] at HC1
            cases hG : Mx.group (l.drop r) with
            | none =>
              rw [args_none hsr hG] at HC1
              have HN := Lib.hid HC1
              have HG := Lib.hid hG
              clear HC1 hG hsr
              have hr3 := Rt.below' (Rt.below' A.out hbw) hb2
              go_wp2_with fail
              (with_reducible refine (refGroup_in _ l r _ hr3 hlen hr).mono ?_); rintro e w4 ⟨rfl, b4⟩
              rw [HG.out]
              go_wp2_with fail
              go_ret3
              exact ⟨_, ret_three (by rw [HN.out]; rfl) (by rw [HN.out]; rfl), by rw [HN.out]; exact Rts.nil _, (hbw.trans (hb2.mono hsz)).trans (b4.mono (by have := hb2.size; omega))⟩
            | some g =>
              have hgl := Mx.group_le hG
              rw [List.length_drop] at hgl
              obtain ⟨t, ht⟩ : ∃ t, r + g = t + 1 := ⟨r + g - 1, by omega⟩
              have hres : gres r (some g) = (((t : Int) + 1), 0) := by simp only [gres]; rw [Prod.mk.injEq]; exact ⟨by omega, rfl⟩
              have HN := Lib.hid (args_next hpq hsr hG HC1)
              rw [ht] at HN
              have HG := Lib.hid hG
              have HRES := Lib.hid hres
              have hs2 := hb2.size
              clear HC1 hG hsr hres
              have hr3 := Rt.below' (Rt.below' A.out hbw) hb2
              have H3 := Lib.hid hr3
              go_wp2_with fail
              (with_reducible refine (refGroup_in _ l r _ hr3 hlen hr).mono ?_); rintro e w4 ⟨rfl, b4⟩
              clear hr3
              rw [HG.out, HRES.out]
              have hs4 := b4.size
              obtain ⟨part, hpt⟩ : ∃ part, part = (l.take t).drop (r + 1) := ⟨_, rfl⟩
              have hpart : Rt w4 (.slice (some ⟨b, o + (r + 1) * 2, none⟩) (t - (r + 1)) (c0 - (r + 1))) part := by
                rw [hpt]; exact Rt.part (Rt.below' H3.out b4) rfl (by omega) (by omega) _ (by omega)
              have hplen : part.length ≤ 1000000000 := by rw [hpt]; simp; omega
              have HP := Lib.hid hpt
              clear hpt
              have hown5 := (hown.below' hb2).below' b4
              have hun := hown.under
              have hbs := (hb2.mono hsz).trans (b4.mono (by omega : w.heap.size ≤ wr.heap.size))
              have HPART := Lib.hid hpart
              clear hpart
              go_wp2_with (first
                | (at_builtin; refine wp_app_all tyRef rfl _ _ rfl w4.heap.size (World.ownsRow_made w4 #[] 0 (Nat.le_refl _) (Nat.zero_le _) (by simp)) (Rt.below' HPART.out ((Below.refl _ _).alloc (Nat.le_refl _) _)) rfl rfl tcs_one (by omega) (by omega) (by simp) ?_; intro cv w5 hcv b5 hg5; obtain ⟨a1, c1, rfl⟩ := own_shape hcv; rw [Nat.zero_add, List.nil_append] at hcv; rw [Nat.zero_add]; have b5' : Below w4.heap.size w4 w5 := ((Below.refl _ _).alloc (Nat.le_refl _) _).trans b5; have hs5 := b5'.size; have hown6 := hown5.below' b5'; have hcr : Rt w5 (.slice a1 part.length c1) part := own_rd hcv; have hsep : ∀ b, (Value.slice a1 part.length c1).ownBlock = some b → b < w5.heap.size ∧ u9.ownBlock ≠ some b ∧ w.heap.size ≤ b := fun b hb => ⟨(hcv.lt b hb).2, fun e => by have h1 := hun b e; have h2 := (hcv.lt b hb).1; omega, by have h2 := (hcv.lt b hb).1; omega⟩; have hbs5 := hbs.trans (b5'.mono (by omega : w.heap.size ≤ w4.heap.size)))
                | (at_builtin; refine wp_oll tyLr rfl _ _ rfl w.heap.size hown6 hcr hsep rfl rfl rfl rfl (by omega) (by omega) (by omega) ?_; intro v6 w6 hown7 b6))
              go_roundw
              case rel => exact ⟨k + 1, t + 1, _, by go_num, by go_num, by omega, by omega, by omega, by simp [hacc], hown7, (hbw.trans hbs5).trans b6, Lib.hid (by rw [show n - (k + 1) = n' by omega, HP.out]; exact HN.out)⟩
              case measure => simp [intOf]; omega
          · have HN := Lib.hid (HS.out.trans (show r + Mx.spaces (l.drop r) = r + 1 + Mx.spaces (l.drop (r + 1)) by rw [spaces_step hrl (by simpa using h2)]; omega))
            go_wp2_with fail
            go_roundw
            case rel => exact ⟨r + 1, by go_num, by omega, by omega, HN, hb2⟩
            case measure => simp [intOf]; omega
        · obtain rfl : r = l.length := by omega
          have hsr : l.length = q + Mx.spaces (l.drop q) := by rw [HS.out, spaces_end (Nat.le_refl _)]; rfl
          obtain ⟨n', hn'⟩ : ∃ n', n - k = n' + 1 := ⟨n - k - 1, by omega⟩
          have HC1 := HC.out
          rw [hn'] at HC1
          have hG : Mx.group (l.drop l.length) = none := by rw [List.drop_length]; rfl
          rw [args_none hsr hG] at HC1
          have HN := Lib.hid HC1
          have HG := Lib.hid hG
          clear HC1 hG hsr
          have hr3 := Rt.below' (Rt.below' A.out hbw) hb2
          go_wp2_with fail
          (with_reducible refine (refGroup_in _ l l.length _ hr3 hlen hr).mono ?_); rintro e w4 ⟨rfl, b4⟩
          rw [HG.out]
          go_wp2_with fail
          go_ret3
          exact ⟨_, ret_three (by rw [HN.out]; rfl) (by rw [HN.out]; rfl), by rw [HN.out]; exact Rts.nil _, (hbw.trans (hb2.mono hsz)).trans (b4.mono (by have := hb2.size; omega))⟩
    · obtain rfl : k = n := by omega
      have HN := Lib.hid (HC.out.trans (show _ = some (acc, q - p) by rw [Nat.sub_self, Mx.args]; simp))
      go_wp2_with fail
      go_ret3
      exact ⟨_, ret_three (by rw [HN.out]; simp only [ares]; omega) (by rw [HN.out]; rfl), by rw [HN.out]; exact hown.rts, hbw⟩

end Go.Proofs.Ytkpdhpbnbpjceaa
