
/- Lists of lists, held against each other, and turned for the reference. No condition. -/
import Derived.Test.YtkpdhpbnbpjceaaMacArgsR
namespace Go.Proofs.Ytkpdhpbnbpjceaa
open Go.RowKit

set_option maxHeartbeats 400000 in
/-- 'Same' reads alone. -/
theorem same_quiet (va vb : Value) (la lb : List Lx.Tok) (w : World) (ha : Rt w va la) (hb : Rt w vb lb) (hla : la.length ≤ 1000000000000) (hlb : lb.length ≤ 1000000000000) :
    Calls Try.prog 20 #[va, vb] w fun e w' => e = .returned (.bool (la == lb)) ∧ ∃ m, w' = w.drewN m := by
  have hne := run_neq_ref
  obtain ⟨aa, ca, rfl⟩ := ha.shape
  obtain ⟨ab, cb, rfl⟩ := hb.shape
  by_cases hlen : la.length = lb.length
  · have HL := Lib.hid hlen
    have hb1 : ((la.length : Int) != (lb.length : Int)) = false := by simp [hlen]
    clear hlen
    go_enter Try.func20, Try.ntmps20
    go_wp2
    go_loopw [4, 5] (fun _ i wr => ∃ k : Nat, k ≤ la.length ∧ i = .int .i64 k ∧ Hid (la.take k = lb.take k) ∧ Hid (∃ m, wr = w.drewN m)) (fun _ i _ => la.length - (intOf i).toNat)
    case atStart => exact ⟨0, Nat.zero_le _, rfl, rfl, ⟨0, rfl⟩⟩
    case round =>
      obtain ⟨k, hk, rfl, HE, HD⟩ := hrel
      by_cases hlt : k < la.length
      · have hlt' : k < lb.length := HL.out ▸ hlt
        have ha' : Rt wr (.slice aa la.length ca) la := by obtain ⟨m, e⟩ := HD.out; rw [e]; exact Rd.drewN ha m
        have hb' : Rt wr (.slice ab lb.length cb) lb := by obtain ⟨m, e⟩ := HD.out; rw [e]; exact Rd.drewN hb m
        obtain ⟨b1, o1, rfl, c10, c11⟩ := Rt.at ha' hlt
        obtain ⟨b2, o2, rfl, c20, c21⟩ := Rt.at hb' hlt'
        clear ha' hb' ha hb
        go_wp2
        go_quiet (fail)
        go_wp2
        · have hx : (la[k] != lb[k]) = true := by assumption
          go_ret
          refine ⟨ret_bool ?_, by obtain ⟨m, e⟩ := HD.out; rw [e]; exact ⟨_, World.drewN_drewN _ _ _⟩⟩
          have : la ≠ lb := fun e => ne_of_bne hx (by subst e; rfl)
          simp [this]
        · have hx : (la[k] != lb[k]) = false := by assumption
          go_roundw
          case rel => exact ⟨k + 1, by omega, by go_num, take_succ_eq hlt hlt' HE.out (eq_of_bne hx), Lib.hid (by obtain ⟨m, e⟩ := HD.out; rw [e]; exact ⟨_, World.drewN_drewN _ _ _⟩)⟩
          case measure => simp [intOf]; omega
      · have hkl : k = la.length := by omega
        have heq : la = lb := by
          have := HE.out
          rw [hkl, List.take_length, HL.out, List.take_length] at this
          exact this
        have HQ := Lib.hid heq
        clear heq hkl ha hb
        go_wp2
        go_ret
        exact ⟨ret_bool (by simp [HQ.out]), HD.out⟩
  · have hb1 : ((la.length : Int) != (lb.length : Int)) = true := by simp [bne]; omega
    go_enter Try.func20, Try.ntmps20
    go_wp2
    go_ret
    refine ⟨ret_bool ?_, 0, rfl⟩
    have : la ≠ lb := fun e => hlen (by rw [e])
    simp [this]

set_option maxHeartbeats 800000 in
/-- 'Lists' of the reference: are they the same lists? -/
theorem sameLists_any (va vb : Value) (la lb : List (List Lx.Tok)) (w : World) (ha : Rts w va la) (hb : Rts w vb lb) (hla : la.length ≤ 1000000) (hlb : lb.length ≤ 1000000) (hsa : ∀ l ∈ la, l.length ≤ 1000000000000) (hsb : ∀ l ∈ lb, l.length ≤ 1000000000000) :
    Calls Try.prog 15 #[va, vb] w fun e w' => e = .returned (.bool (la == lb)) ∧ Below w.heap.size w w' := by
  obtain ⟨aa, ca, rfl⟩ := ha.shape
  obtain ⟨ab, cb, rfl⟩ := hb.shape
  have HA := Lib.hid ha
  have HB := Lib.hid hb
  clear ha hb
  by_cases hlen : la.length = lb.length
  · have HL := Lib.hid hlen
    have hb1 : ((la.length : Int) != (lb.length : Int)) = false := by simp [hlen]
    clear hlen
    go_enter Try.func15, Try.ntmps15
    go_wp2_with fail
    go_loopw [5] (fun i wr => ∃ k : Nat, k ≤ la.length ∧ i = .int .i64 k ∧ Hid (la.take k = lb.take k) ∧ Below w.heap.size w wr) (fun i _ => la.length - (intOf i).toNat)
    case atStart => exact ⟨0, Nat.zero_le _, rfl, rfl, Below.refl _ _⟩
    case round =>
      obtain ⟨k, hk, rfl, HE, hbw⟩ := hrel
      have hsz := hbw.size
      by_cases hlt : k < la.length
      · have hlt' : k < lb.length := HL.out ▸ hlt
        obtain ⟨b1, o1, x1, rfl, c1, r1, _, k1⟩ := (HA.out.below' hbw).at hlt
        obtain ⟨b2, o2, x2, rfl, c2, r2, _, k2⟩ := (HB.out.below' hbw).at hlt'
        have hq1 := hsa _ (List.getElem_mem hlt)
        have hq2 := hsb _ (List.getElem_mem hlt')
        have i1 : (k : Int) < (la.length : Int) := by omega
        have i2 : (k : Int) < (lb.length : Int) := by omega
        cases hx : (la[k] == lb[k])
        · have HS : ∀ n, Calls Try.prog 20 #[x1, x2] (wr.drewN n) fun e w' => e = .returned (.bool false) ∧ ∃ m, w' = (wr.drewN n).drewN m := fun n => by
            have := same_quiet x1 x2 _ _ (wr.drewN n) (Rd.drewN r1 n) (Rd.drewN r2 n) hq1 hq2
            rw [hx] at this; exact this
          go_wp2_with fail
          go_quiet (first | (go_at_call 20; refine Calls.quiet_of (HS _)))
          go_wp2_with fail
          go_ret
          refine ⟨ret_bool ?_, below_drewN hbw _⟩
          have : la ≠ lb := fun e => by subst e; simp at hx
          simp [this]
        · have HX := Lib.hid (take_succ_eq hlt hlt' HE.out (by simpa using hx))
          have HS : ∀ n, Calls Try.prog 20 #[x1, x2] (wr.drewN n) fun e w' => e = .returned (.bool true) ∧ ∃ m, w' = (wr.drewN n).drewN m := fun n => by
            have := same_quiet x1 x2 _ _ (wr.drewN n) (Rd.drewN r1 n) (Rd.drewN r2 n) hq1 hq2
            rw [hx] at this; exact this
          go_wp2_with fail
          go_quiet (first | (go_at_call 20; refine Calls.quiet_of (HS _)))
          go_wp2_with fail
          go_roundw
          case rel => exact ⟨k + 1, by omega, by go_num, HX, below_drewN hbw _⟩
          case measure => simp [intOf]; omega
      · have hkl : k = la.length := by omega
        have heq : la = lb := by
          have := HE.out
          rw [hkl, List.take_length, HL.out, List.take_length] at this
          exact this
        have HQ := Lib.hid heq
        clear heq hkl
        go_wp2_with fail
        go_ret
        exact ⟨ret_bool (by simp [HQ.out]), hbw⟩
  · have hb1 : ((la.length : Int) != (lb.length : Int)) = true := by simp [bne]; omega
    go_enter Try.func15, Try.ntmps15
    go_wp2_with fail
    go_ret
    refine ⟨ret_bool ?_, Below.refl _ _⟩
    have : la ≠ lb := fun e => hlen (by rw [e])
    simp [this]

set_option maxRecDepth 20000 in
set_option maxHeartbeats 800000 in
/-- The law's 'Lists': the same lists, for the document. -/
theorem lists_any (v : Value) (ls : List (List Lx.Tok)) (w : World) (hl : Rts w v ls) (hlen : ls.length ≤ 1000000) (hs : ∀ l ∈ ls, l.length ≤ 1000000000) :
    Calls Try.prog 16 #[v] w fun e w' => ∃ v', e = .returned v' ∧ Oll w' w.heap.size 28 v' ls ∧ Below w.heap.size w w' := by
  obtain ⟨a0, c0, rfl⟩ := hl.shape
  have HA := Lib.hid hl
  clear hl
  go_enter Try.func16, Try.ntmps16
  go_wp2_with fail
  go_loopw [3, 4] (fun v i wr => ∃ k : Nat, k ≤ ls.length ∧ i = .int .i64 k ∧ Oll wr w.heap.size 28 v (ls.take k) ∧ Below w.heap.size w wr) (fun _ i _ => ls.length - (intOf i).toNat)
  case atStart => exact ⟨0, Nat.zero_le _, rfl, Oll.made _ _ _ (Nat.le_refl _), (Below.refl _ _).alloc (Nat.le_refl _) _⟩
  case round =>
    obtain ⟨k, hk, rfl, hown, hbw⟩ := hrel
    have hsz := hbw.size
    by_cases hlt : k < ls.length
    · obtain ⟨b1, o1, x1, rfl, c1, r1, _, k1⟩ := (HA.out.below' hbw).at hlt
      have hq1 := hs _ (List.getElem_mem hlt)
      have hun := hown.under
      go_wp2_with fail
      (with_reducible refine (refs_any _ _ _ r1 hq1).mono ?_); rintro e w3 ⟨cv, rfl, hcv, b3⟩
      obtain ⟨a1, c1, rfl⟩ := own_shape hcv
      have hown3 := hown.below' b3
      have hs3 := b3.size
      have hcr : Rt w3 (.slice a1 ls[k].length c1) ls[k] := own_rd hcv
      have hsep : ∀ b, (Value.slice a1 ls[k].length c1).ownBlock = some b → b < w3.heap.size ∧ u3.ownBlock ≠ some b ∧ w.heap.size ≤ b := fun b hb => ⟨(hcv.lt b hb).2, fun e => by have h1 := hun b e; have h2 := (hcv.lt b hb).1; omega, by have h2 := (hcv.lt b hb).1; omega⟩
      have hlk : (ls.take k).length = k := by simp; omega
      have hb4 := hbw.trans (b3.mono hsz)
      go_wp2_with (at_builtin; refine wp_oll tyLr rfl _ _ rfl w.heap.size hown3 hcr hsep rfl rfl rfl rfl (by omega) (by omega) (by omega) ?_; intro v6 w6 hown6 b6)
      go_roundw
      case rel => exact ⟨k + 1, by omega, by go_num, (by rw [take_snoc ls k hlt]; exact hown6), hb4.trans b6⟩
      case measure => simp [intOf]; omega
    · obtain rfl : k = ls.length := by omega
      rw [List.take_length] at hown
      go_wp2_with fail
      go_ret
      exact ⟨_, rfl, hown, hbw⟩

end Go.Proofs.Ytkpdhpbnbpjceaa
