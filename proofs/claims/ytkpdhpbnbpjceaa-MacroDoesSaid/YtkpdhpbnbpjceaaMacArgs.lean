
/- The macro layer: what stands within groups, the program's and the reference's walks. No condition. -/
import Derived.Test.YtkpdhpbnbpjceaaMacWalk
import Derived.Test.YtkpdhpbnbpjceaaOwn
import Derived.OwnWalk
namespace Go.Proofs.Ytkpdhpbnbpjceaa
open Go.RowKit

theorem tyLl : SlTy Try.prog 30 22 1 24 := SlTy.mk' (z := .slice none 0 0) Try.underlying30 (by kernel_rfl) rfl (by decide)
theorem tyLr : SlTy Try.prog 33 28 1 24 := SlTy.mk' (z := .slice none 0 0) Try.underlying33 (by kernel_rfl) rfl (by decide)

/-- A part of what is read. -/
theorem Rt.part {w : World} {a : Option Addr} {n c : Nat} {l : List Lx.Tok} (h : Rt w (.slice a n c) l) {b o : Nat} (ha : a = some ⟨b, o, none⟩) {i j : Nat} (hij : i ≤ j) (hj : j ≤ l.length) (c2 : Nat) (hc2 : j - i ≤ c2) :
    Rt w (.slice (some ⟨b, o + i * 2, none⟩) (j - i) c2) ((l.take j).drop i) := by
  have hlen : ((l.take j).drop i).length = j - i := by simp; omega
  refine ⟨tcs_length _, ?_⟩
  rw [hlen]
  refine .inr ⟨b, o + i * 2, c2, rfl, fun hp => ?_, fun q u hq => ?_, hc2⟩
  · subst ha
    exact h.under (by omega) b rfl
  · subst ha
    have hq2 := (List.getElem?_eq_some_iff.1 hq).1
    rw [tcs_length, hlen] at hq2
    obtain ⟨r, hr, rfl | rfl⟩ : ∃ r, r < j - i ∧ (q = r * 2 ∨ q = r * 2 + 1) := ⟨q / 2, by omega, by omega⟩
    · have h1 := (tcs_at ((l.take j).drop i) r (by omega)).1
      rw [h1] at hq
      cases hq
      obtain ⟨b', o', hb, hc1, hc2⟩ := h.at (i := i + r) (by omega)
      cases hb
      rw [show o + i * 2 + r * 2 = o + (i + r) * 2 by omega, hc1]
      simp
    · have h1 := (tcs_at ((l.take j).drop i) r (by omega)).2
      rw [h1] at hq
      cases hq
      obtain ⟨b', o', hb, hc1, hc2⟩ := h.at (i := i + r) (by omega)
      cases hb
      rw [show o + i * 2 + (r * 2 + 1) = o + (i + r) * 2 + 1 by omega, hc2]
      simp

set_option maxHeartbeats 1000000 in
/-- 'slices.Clone' of tokens. -/
theorem clone_tok (v : Value) (l : List Lx.Tok) (w : World) (hl : Rt w v l) (hlen : l.length ≤ 1000000000) :
    Calls Try.prog 37 #[v] w fun e w' => ∃ v', e = .returned v' ∧ w'.ownsRow w.heap.size 41 2 v' l.length (tcs l) ∧ Below w.heap.size w w' := by
  obtain ⟨a0, c0, rfl⟩ := hl.shape
  have q22 : ∀ (w : World) (a : Option Addr) (n c n' c' : Nat), (binOp .eql 22 (.slice a n c) (.slice none n' c')).run Try.prog w = .ok (.bool a.isNone) w := fun w a n c n' c' => Lib.run_eql_slice_nil w _ _ a n c n' c' Try.underlying22
  cases a0 with
  | none =>
    have h0 : l = [] := by
      rcases hl.2 with ⟨_, h0⟩ | ⟨b, o, cap, hv, _⟩
      · exact List.eq_nil_of_length_eq_zero h0
      · cases hv
    subst h0
    clear hl
    go_enter Try.func37, Try.ntmps37
    go_wp2_with fail
    go_ret
    exact ⟨_, rfl, World.ownsRow_nil _ _ _ _, Below.refl _ _⟩
  | some a0 =>
    have A := Lib.hid hl
    clear hl
    go_enter Try.func37, Try.ntmps37
    go_wp2_with (at_builtin; refine wp_app_all tyTok rfl _ _ rfl w.heap.size (World.ownsRow_made w #[] 0 (Nat.le_refl _) (Nat.zero_le _) (by simp)) (Rt.below' A.out ((Below.refl _ _).alloc (Nat.le_refl _) _)) rfl rfl tcs_one (by omega) (by omega) (by simp) ?_; intro v2 w2 hown2 hb2 hg2)
    go_ret
    exact ⟨_, rfl, by simpa using hown2, ((Below.refl _ w).alloc (Nat.le_refl _) _).trans hb2⟩

/-! ### the pure side -/
theorem args_none {l : List Lx.Tok} {q r n : Nat} (hr : r = q + Mx.spaces (l.drop q)) (hg : Mx.group (l.drop r) = none) : Mx.args (n + 1) (l.drop q) = none := by
  subst hr
  rw [Mx.args, List.drop_drop, hg]
theorem args_some {l : List Lx.Tok} {q r n g : Nat} (hr : r = q + Mx.spaces (l.drop q)) (hg : Mx.group (l.drop r) = some g) :
    Mx.args (n + 1) (l.drop q) = (Mx.args n (l.drop (r + g))).map fun x => (((l.take (r + g - 1)).drop (r + 1)) :: x.1, r + g - q + x.2) := by
  have h2 := Mx.group_le hg
  subst hr
  simp only [Mx.args, List.drop_drop, hg, List.drop_take]
  rw [show q + (Mx.spaces (l.drop q) + g) = q + Mx.spaces (l.drop q) + g by omega, show q + (Mx.spaces (l.drop q) + 1) = q + Mx.spaces (l.drop q) + 1 by omega]
  congr 1
  funext x
  rw [show q + Mx.spaces (l.drop q) + g - 1 - (q + Mx.spaces (l.drop q) + 1) = g - 2 by omega, show q + Mx.spaces (l.drop q) + g - q = Mx.spaces (l.drop q) + g by omega]
theorem spaces_step {l : List Lx.Tok} {q : Nat} (h : q < l.length) (h2 : l[q].1 = 2) : Mx.spaces (l.drop q) = Mx.spaces (l.drop (q + 1)) + 1 := by
  rw [drop_at h, Mx.spaces, if_pos h2]
theorem spaces_stop {l : List Lx.Tok} {q : Nat} (h : q < l.length) (h2 : ¬ l[q].1 = 2) : Mx.spaces (l.drop q) = 0 := by
  rw [drop_at h, Mx.spaces, if_neg h2]
theorem spaces_end {l : List Lx.Tok} {q : Nat} (h : l.length ≤ q) : Mx.spaces (l.drop q) = 0 := by
  rw [List.drop_eq_nil_of_le h, Mx.spaces]

/-- What 'Args' answers where the place is one. -/
def ares (p : Nat) : Option (List (List Lx.Tok) × Nat) → List (List Lx.Tok) × Int × Int
  | some x => (x.1, (p : Int) + x.2, 0)
  | none => ([], 0, 10)

theorem ret_three {v : Value} {a b a' b' : Int} (h1 : a = a') (h2 : b = b') : Ending.returned (.tuple #[v, .int .i64 a, .int .i64 b]) = .returned (.tuple #[v, .int .i64 a', .int .i64 b']) := by rw [h1, h2]
theorem args_next {l : List Lx.Tok} {p q r g n n' : Nat} {acc : List (List Lx.Tok)} (hpq : p ≤ q) (hr : r = q + Mx.spaces (l.drop q)) (hg : Mx.group (l.drop r) = some g) (h : Mx.args n (l.drop p) = (Mx.args (n' + 1) (l.drop q)).map fun x => (acc ++ x.1, q - p + x.2)) :
    Mx.args n (l.drop p) = (Mx.args n' (l.drop (r + g))).map fun x => (acc ++ [((l.take (r + g - 1)).drop (r + 1))] ++ x.1, r + g - p + x.2) := by
  rw [h, args_some hr hg, Option.map_map]
  congr 1
  funext x
  have h2 := Mx.group_le hg
  simp; omega

set_option maxRecDepth 20000 in
set_option maxHeartbeats 3200000 in
/-- 'Args', where the place is one, and as many are asked for as may be. -/
theorem args_in (v : Value) (l : List Lx.Tok) (p n : Nat) (w : World) (hl : Rt w v l) (hlen : l.length ≤ 1000000000) (hp : p ≤ l.length) (hn : n ≤ 9) :
    Calls Try.prog 13 #[v, .int .i64 (p : Int), .int .i64 (n : Int)] w fun e w' => ∃ v', e = .returned (.tuple #[v', .int .i64 (ares p (Mx.args n (l.drop p))).2.1, .int .i64 (ares p (Mx.args n (l.drop p))).2.2]) ∧ Rts w' v' (ares p (Mx.args n (l.drop p))).1 ∧ Below w.heap.size w w' := by
  obtain ⟨a0, c0, rfl⟩ := hl.shape
  have hcap := Rd.cap hl
  have A := Lib.hid hl
  clear hl
  have e1 : decide ((p : Int) < 0) = false := by simp
  have e2 : decide (l.length < p) = false := by simp; omega
  have e3 : decide ((n : Int) < 0) = false := by simp
  have e4 : decide (9 < (n : Int)) = false := by simp; omega
  go_enter Try.func13, Try.ntmps13
  go_wp2_with fail
  go_loopw [1, 9, 29] (fun at_ out i wr => ∃ (k q : Nat) (acc : List (List Lx.Tok)), at_ = .int .i64 q ∧ i = .int .i64 k ∧ k ≤ n ∧ p ≤ q ∧ q ≤ l.length ∧ acc.length = k ∧ Oll wr w.heap.size 22 out acc ∧ Below w.heap.size w wr ∧ Hid (Mx.args n (l.drop p) = (Mx.args (n - k) (l.drop q)).map fun x => (acc ++ x.1, q - p + x.2))) (fun _ _ i _ => n - (intOf i).toNat)
  case atStart => exact ⟨0, p, [], rfl, rfl, Nat.zero_le _, Nat.le_refl _, hp, rfl, Oll.nil _ _ _, Below.refl _ _, by simp [Hid]⟩
  case round =>
    obtain ⟨k, q, acc, rfl, rfl, hk, hpq, hq, hacc, hown, hbw, HC⟩ := hrel
    have hsz := hbw.size
    by_cases hkn : k < n
    · go_wp2_with fail
      go_loopw [1] (fun at_ wr2 => ∃ r : Nat, at_ = .int .i64 r ∧ q ≤ r ∧ r ≤ l.length ∧ Hid (q + Mx.spaces (l.drop q) = r + Mx.spaces (l.drop r)) ∧ Below wr.heap.size wr wr2) (fun at_ _ => l.length - (intOf at_).toNat)
      case atStart => exact ⟨q, rfl, Nat.le_refl _, hq, by simp [Hid], Below.refl _ _⟩
      case round =>
        obtain ⟨r, rfl, hqr, hr, HS, hb2⟩ := hrel
        by_cases hrl : r < l.length
        · obtain ⟨b, o, hb, c20, c21⟩ := (Rt.below' (Rt.below' A.out hbw) hb2).at hrl
          subst hb
          cases h2 : (l[r].1 == 2)
          · have hsr : r = q + Mx.spaces (l.drop q) := by rw [HS.out, spaces_stop hrl (by simpa using h2)]; rfl
            obtain ⟨n', hn'⟩ : ∃ n', n - k = n' + 1 := ⟨n - k - 1, by omega⟩
            have HC1 := HC.out
            rw [hn'] at HC1
            cases hG : Mx.group (l.drop r) with
            | none =>
              rw [args_none hsr hG] at HC1
              have HN := Lib.hid HC1
              have HG := Lib.hid hG
              clear HC1 hG hsr
              go_wp2_with fail
              (with_reducible refine (of1_any l[r] 2 _ _ rfl).mono ?_); rintro e w3 ⟨rfl, b3⟩
              rw [h2]
              have hr3 := Rt.below' (Rt.below' (Rt.below' A.out hbw) hb2) b3
              go_wp2_with fail
              (with_reducible refine (group_in _ l r _ hr3 hlen hr).mono ?_); rintro e w4 ⟨rfl, b4⟩
              rw [HG.out]
              go_wp2_with fail
              go_ret3
              exact ⟨_, ret_three (by rw [HN.out]; rfl) (by rw [HN.out]; rfl), by rw [HN.out]; exact Rts.nil _, ((hbw.trans (hb2.mono hsz)).trans (b3.mono (by have := hb2.size; omega))).trans (b4.mono (by have := hb2.size; have := b3.size; omega))⟩
            | some g =>
              have hgl := Mx.group_le hG
              rw [List.length_drop] at hgl
              obtain ⟨t, ht⟩ : ∃ t, r + g = t + 1 := ⟨r + g - 1, by omega⟩
              have hres : gres r (some g) = (((t : Int) + 1), 0) := by simp only [gres]; rw [Prod.mk.injEq]; exact ⟨by omega, rfl⟩
              have HN := Lib.hid (args_next hpq hsr hG HC1)
              rw [ht] at HN
              have HG := Lib.hid hG
              have HRES := Lib.hid hres
              have hs2 := hb2.size
              clear HC1 hG hsr hres
              go_wp2_with fail
              (with_reducible refine (of1_any l[r] 2 _ _ rfl).mono ?_); rintro e w3 ⟨rfl, b3⟩
              rw [h2]
              have hr3 := Rt.below' (Rt.below' (Rt.below' A.out hbw) hb2) b3
              have H3 := Lib.hid hr3
              have hs3 := b3.size
              go_wp2_with fail
              (with_reducible refine (group_in _ l r _ hr3 hlen hr).mono ?_); rintro e w4 ⟨rfl, b4⟩
              clear hr3
              rw [HG.out, HRES.out]
              have hs4 := b4.size
              obtain ⟨part, hpt⟩ : ∃ part, part = (l.take t).drop (r + 1) := ⟨_, rfl⟩
              have hpart : Rt w4 (.slice (some ⟨b, o + (r + 1) * 2, none⟩) (t - (r + 1)) (c0 - (r + 1))) part := by
                rw [hpt]; exact Rt.part (Rt.below' H3.out b4) rfl (by omega) (by omega) _ (by omega)
              have hplen : part.length ≤ 1000000000 := by rw [hpt]; simp; omega
              have HP := Lib.hid hpt
              clear hpt
              go_wp2_with fail
              (with_reducible refine (clone_tok _ _ w4 hpart hplen).mono ?_); rintro e w5 ⟨cv, rfl, hcv, b5⟩
              obtain ⟨a1, c1, rfl⟩ := own_shape hcv
              have hs5 := b5.size
              have hown5 := (((hown.below' hb2).below' b3).below' b4).below' b5
              have hun := hown.under
              have hsep : ∀ b, (Value.slice a1 part.length c1).ownBlock = some b → b < w5.heap.size ∧ u9.ownBlock ≠ some b ∧ w.heap.size ≤ b := fun b hb => ⟨(hcv.lt b hb).2, fun e => by have h1 := hun b e; have h2 := (hcv.lt b hb).1; omega, by have h2 := (hcv.lt b hb).1; omega⟩
              have hbs := ((hb2.mono hsz).trans (b3.mono (by omega))).trans ((b4.mono (by omega)).trans (b5.mono (by omega)))
              clear hpart
              go_wp2_with (at_builtin; refine wp_oll tyLl rfl _ _ rfl w.heap.size hown5 (own_rd hcv) hsep rfl rfl rfl rfl (by omega) (by omega) (by omega) ?_; intro v6 w6 hown6 b6)
              go_roundw
              case rel => exact ⟨k + 1, t + 1, _, by go_num, by go_num, by omega, by omega, by omega, by simp [hacc], hown6, (hbw.trans hbs).trans b6, Lib.hid (by rw [show n - (k + 1) = n' by omega, HP.out]; exact HN.out)⟩
              case measure => simp [intOf]; omega
          · have HN := Lib.hid (HS.out.trans (show r + Mx.spaces (l.drop r) = r + 1 + Mx.spaces (l.drop (r + 1)) by rw [spaces_step hrl (by simpa using h2)]; omega))
            go_wp2_with fail
            (with_reducible refine (of1_any l[r] 2 _ _ rfl).mono ?_); rintro e w3 ⟨rfl, b3⟩
            rw [h2]
            go_wp2_with fail
            go_roundw
            case rel => exact ⟨r + 1, by go_num, by omega, by omega, HN, hb2.trans (b3.mono hb2.size)⟩
            case measure => simp [intOf]; omega
        · obtain rfl : r = l.length := by omega
          have hsr : l.length = q + Mx.spaces (l.drop q) := by rw [HS.out, spaces_end (Nat.le_refl _)]; rfl
          obtain ⟨n', hn'⟩ : ∃ n', n - k = n' + 1 := ⟨n - k - 1, by omega⟩
          have HC1 := HC.out
          rw [hn'] at HC1
          have hG : Mx.group (l.drop l.length) = none := by rw [List.drop_length]; rfl
          rw [args_none hsr hG] at HC1
          have HN := Lib.hid HC1
          have HG := Lib.hid hG
          clear HC1 hG hsr
          have hr3 := Rt.below' (Rt.below' A.out hbw) hb2
          go_wp2_with fail
          (with_reducible refine (group_in _ l l.length _ hr3 hlen hr).mono ?_); rintro e w4 ⟨rfl, b4⟩
          rw [HG.out]
          go_wp2_with fail
          go_ret3
          exact ⟨_, ret_three (by rw [HN.out]; rfl) (by rw [HN.out]; rfl), by rw [HN.out]; exact Rts.nil _, (hbw.trans (hb2.mono hsz)).trans (b4.mono (by have := hb2.size; omega))⟩
    · obtain rfl : k = n := by omega
      have HN := Lib.hid (HC.out.trans (show _ = some (acc, q - p) by rw [Nat.sub_self, Mx.args]; simp))
      go_wp2_with fail
      go_ret3
      exact ⟨_, ret_three (by rw [HN.out]; simp only [ares]; omega) (by rw [HN.out]; rfl), by rw [HN.out]; exact hown.rts, hbw⟩

end Go.Proofs.Ytkpdhpbnbpjceaa
