
/- The reference's 'has', 'Same', 'Diff'. No condition. -/
import Derived.Test.YtgpifaedcelnnaaFiDiffR
namespace Go.Proofs.Ytgpifaedcelnnaa
open Go.RowKit

set_option maxRecDepth 20000 in
set_option maxHeartbeats 1600000 in
/-- 'has' of the reference. -/
theorem refHas_any (v : Value) (l : List Fl) (f : Fl) (w : World) (hl : Rf w v l) (hlen : l.length ≤ 1000000) :
    Calls Try.prog 38 #[v, .agg #[.string (S f.1), .string (S f.2)]] w fun e w' => e = .returned (.bool (l.contains f)) ∧ Below w.heap.size w w' := by
  have hel := fun p => run_eql_file p f
  obtain ⟨nm, tx⟩ := f
  simp only at hel
  obtain ⟨a0, c0, rfl⟩ := hl.shape
  have HL := Lib.hid hl
  clear hl
  obtain ⟨w0, hw0⟩ : ∃ w0, w0 = w.alloc (.cells #[.string (S nm), .string (S tx)] 25) := ⟨_, rfl⟩
  have hb0 : Below w.heap.size w w0 := by rw [hw0]; exact (Below.refl _ _).alloc (Nat.le_refl _) _
  have hg0 : w0.heap[w.heap.size]? = some (.cells #[.string (S nm), .string (S tx)] 25 (0, 0)) := by rw [hw0]; exact heap_alloc_new w _
  have hs0 := hb0.size
  have HW := Lib.hid hw0
  clear hw0
  go_enter Try.func38, Try.ntmps38
  go_wp2_with fail
  rw [← HW.out]
  go_loopw [4, 5] (fun _ i wr => ∃ k : Nat, k ≤ l.length ∧ i = .int .i64 k ∧ Hid (l.contains (nm, tx) = (l.drop k).contains (nm, tx)) ∧ Below w0.heap.size w0 wr) (fun _ i _ => l.length - (intOf i).toNat)
  case atStart => exact ⟨0, Nat.zero_le _, rfl, rfl, Below.refl _ _⟩
  case round =>
    obtain ⟨k, hk, rfl, HE, hbw⟩ := hrel
    have hsz := hbw.size
    have hg5 := (hbw.block _ (row_lt hg0)).trans hg0
    have z0 := pair_cell0 hg5
    have z1 := pair_cell1 hg5
    have B5 := hb0.trans (hbw.mono hs0)
    by_cases hlt : k < l.length
    · obtain ⟨b1, o1, rfl, c10, c11⟩ := ((HL.out.below' hb0).below' hbw).at hlt
      have HM := Lib.hid (HE.out.trans (by rw [List.drop_eq_getElem_cons hlt, List.contains_cons]))
      obtain ⟨⟨n2, t2⟩, hx⟩ : ∃ x, x = l[k] := ⟨_, rfl⟩
      rw [← hx] at c10 c11 HM
      clear hx HE
      have hel2 := hel (n2, t2)
      simp only at hel2
      have hcom : ((nm, tx) == (n2, t2)) = ((n2, t2) == (nm, tx)) := by rw [Bool.eq_iff_iff, beq_iff_eq, beq_iff_eq]; exact eq_comm
      rw [hcom] at HM
      obtain ⟨q, hq⟩ : ∃ q, q = ((n2, t2) == (nm, tx)) := ⟨_, rfl⟩
      rw [← hq] at HM hel2
      clear hq hcom hel
      cases q
      · go_wp2_with fail
        go_quiet (fail)
        go_wp2_with fail
        go_roundw
        case rel => exact ⟨k + 1, by omega, by go_num, Lib.hid (by rw [HM.out, Bool.false_or]), below_drewN hbw _⟩
        case measure => simp [intOf]; omega
      · go_wp2_with fail
        go_quiet (fail)
        go_wp2_with fail
        go_ret
        exact ⟨ret_bool (by rw [HM.out, Bool.true_or]), below_drewN B5 _⟩
    · obtain rfl : k = l.length := by omega
      have HF := Lib.hid (HE.out.trans (by rw [List.drop_length, List.contains_nil]))
      clear hel
      go_wp2_with fail
      go_ret
      exact ⟨ret_bool HF.out.symm, B5⟩

set_option maxRecDepth 20000 in
set_option maxHeartbeats 1600000 in
/-- 'Same' of the reference. -/
theorem refSame_any (va vb : Value) (a b : List Fl) (w : World) (ha : Rf w va a) (hb : Rf w vb b) (hla : a.length ≤ 1000000) (hlb : b.length ≤ 1000000) (hsa : Fi.Ord a) (hsb : Fi.Ord b) :
    Calls Try.prog 29 #[va, vb] w fun e w' => e = .returned (.bool (a == b)) ∧ Below w.heap.size w w' := by
  have HSI := Lib.hid (same_is hsa hsb)
  obtain ⟨aa, ca, rfl⟩ := ha.shape
  obtain ⟨ab, cb, rfl⟩ := hb.shape
  have HA := Lib.hid ha
  have HB := Lib.hid hb
  clear ha hb hsa hsb
  go_enter Try.func29, Try.ntmps29
  go_wp2_with fail
  go_loopw [4, 5] (fun _ i wr => ∃ k : Nat, k ≤ a.length ∧ i = .int .i64 k ∧ Hid (a.all b.contains = (a.drop k).all b.contains) ∧ Below w.heap.size w wr) (fun _ i _ => a.length - (intOf i).toNat)
  case atStart => exact ⟨0, Nat.zero_le _, rfl, rfl, Below.refl _ _⟩
  case round =>
    obtain ⟨k, hk, rfl, HE, hbw⟩ := hrel
    have hsz := hbw.size
    by_cases hlt : k < a.length
    · obtain ⟨b1, o1, rfl, c10, c11⟩ := (HA.out.below' hbw).at hlt
      have HM := Lib.hid (HE.out.trans (by rw [List.drop_eq_getElem_cons hlt, List.all_cons]))
      obtain ⟨⟨nm, tx⟩, hx⟩ : ∃ x, x = a[k] := ⟨_, rfl⟩
      rw [← hx] at c10 c11 HM
      have HC := Lib.hid (refHas_any _ b (nm, tx) wr (HB.out.below' hbw) hlb)
      obtain ⟨q, hq⟩ : ∃ q, q = b.contains (nm, tx) := ⟨_, rfl⟩
      rw [← hq] at HC HM
      clear hx HE hq
      go_wp2_with fail
      (with_reducible refine HC.out.mono ?_); rintro e w2 ⟨rfl, b2⟩
      have B2 := hbw.trans (b2.mono hsz)
      cases q
      · go_wp2_with fail
        go_ret
        exact ⟨ret_bool (by rw [← HSI.out, HM.out]; simp), B2⟩
      · go_wp2_with fail
        go_roundw
        case rel => exact ⟨k + 1, by omega, by go_num, Lib.hid (by rw [HM.out, Bool.true_and]), B2⟩
        case measure => simp [intOf]; omega
    · obtain rfl : k = a.length := by omega
      have HF := Lib.hid (HE.out.trans (by rw [List.drop_length, List.all_nil]))
      go_wp2_with fail
      go_ret
      refine ⟨ret_bool ?_, hbw⟩
      rw [← HSI.out, HF.out, Bool.true_and, Bool.eq_iff_iff]
      simp
      omega

set_option maxRecDepth 20000 in
set_option maxHeartbeats 4000000 in
/-- 'Diff' of the reference. -/
theorem refDiff_any (va vb : Value) (a b : List Fl) (w : World) (ha : Rf w va a) (hb : Rf w vb b) (hla : a.length ≤ 1000) (hlb : b.length ≤ 1000) (hsa : Fi.Ord a) (hsb : Fi.Ord b) :
    Calls Try.prog 28 #[va, vb] w fun e w' => ∃ v', e = .returned v' ∧ w'.ownsRow w.heap.size 9 1 v' (diffS a b).length (xcs (diffS a b)) ∧ Below w.heap.size w w' := by
  rw [← diffR_is hsa hsb]
  obtain ⟨aa, ca, rfl⟩ := ha.shape
  obtain ⟨ab, cb, rfl⟩ := hb.shape
  have HA := Lib.hid ha
  have HB := Lib.hid hb
  clear ha hb hsa hsb
  go_enter Try.func28, Try.ntmps28
  go_wp2_with fail
  go_loopw [5, 6, 7] (fun v i j wr => ∃ (p q : Nat) (out : List (List UInt8)), p ≤ a.length ∧ q ≤ b.length ∧ i = .int .i64 p ∧ j = .int .i64 q ∧ Hid (diffR a b = out ++ diffR (a.drop p) (b.drop q)) ∧ out.length ≤ p + q ∧ wr.ownsRow w.heap.size 9 1 v out.length (xcs out) ∧ Below w.heap.size w wr) (fun _ i j _ => (a.length - (intOf i).toNat) + (b.length - (intOf j).toNat))
  case atStart => exact ⟨0, 0, [], Nat.zero_le _, Nat.zero_le _, rfl, rfl, Lib.hid rfl, Nat.le_refl _, World.ownsRow_made w #[] 0 (Nat.le_refl _) (by decide) rfl, (Below.refl _ _).alloc (Nat.le_refl _) _⟩
  case round =>
    obtain ⟨p, q, out, hp, hq, rfl, rfl, HE, hol, hown, hbw⟩ := hrel
    have hsz := hbw.size
    have hwq := hown
    have hwq := hown
    have hwq := hown
    have hwq := hown
    by_cases hpl : p < a.length
    · obtain ⟨b1, o1, rfl, c10, c11⟩ := (HA.out.below' hbw).at hpl
      have hpi : (p : Int) < (a.length : Int) := by omega
      have hpe : ((p : Int) == (a.length : Int)) = false := by simp; omega
      have hdp : a.drop p = a[p] :: a.drop (p + 1) := List.drop_eq_getElem_cons hpl
      obtain ⟨⟨n1, t1⟩, hx⟩ : ∃ x, x = a[p] := ⟨_, rfl⟩
      rw [← hx] at c10 c11 hdp
      clear hx hwq
      by_cases hql : q < b.length
      · obtain ⟨b2, o2, rfl, d10, d11⟩ := (HB.out.below' hbw).at hql
        have hqi : (q : Int) < (b.length : Int) := by omega
        have hqe : ((q : Int) == (b.length : Int)) = false := by simp; omega
        have hdq : b.drop q = b[q] :: b.drop (q + 1) := List.drop_eq_getElem_cons hql
        obtain ⟨⟨n2, t2⟩, hx⟩ : ∃ x, x = b[q] := ⟨_, rfl⟩
        rw [← hx] at d10 d11 hdq
        clear hx
        have HM := Lib.hid (HE.out.trans (by rw [hdp, hdq, diffR_cons]))
        simp only at HM
        cases hl1 : Op.bytesLess n1 n2
        · cases hl2 : Op.bytesLess n2 n1
          · obtain ⟨x, hx⟩ : ∃ x, x = (t1 != t2) := ⟨_, rfl⟩
            have HM2 := Lib.hid (show diffR a b = (out ++ (if x then [n1] else [])) ++ diffR (a.drop (p + 1)) (b.drop (q + 1)) by
              rw [less_is] at hl1 hl2
              rw [HM.out, if_neg (of_decide_eq_false hl1), if_neg (of_decide_eq_false hl2), hx]
              by_cases e : t1 = t2 <;> simp [e])
            have hxx : (t1 != t2) = x := hx.symm
            clear HM hdp hdq HE hx
            go_wp2_with fail
            go_quiet (fail)
            obtain ⟨W1, hW⟩ : ∃ W, W = wr.drewN nq := ⟨_, rfl⟩
            have c10 : W1.cell? ⟨b1, o1 + p * 2, none⟩ = some (.string (S n1)) := by rw [hW]; exact c10
            have c11 : W1.cell? ⟨b1, o1 + p * 2 + 1, none⟩ = some (.string (S t1)) := by rw [hW]; exact c11
            have d10 : W1.cell? ⟨b2, o2 + q * 2, none⟩ = some (.string (S n2)) := by rw [hW]; exact d10
            have d11 : W1.cell? ⟨b2, o2 + q * 2 + 1, none⟩ = some (.string (S t2)) := by rw [hW]; exact d11
            have oW1 : W1.ownsRow w.heap.size 9 1 u5 out.length (xcs out) := by rw [hW]; exact own_drewN hown _
            have BW1 : Below w.heap.size w W1 := by rw [hW]; exact below_drewN hbw _
            rw [← hW]
            clear hW hown hbw
            go_wp2_with fail
            go_quiet (fail)
            obtain ⟨W2, hW⟩ : ∃ W, W = W1.drewN nq := ⟨_, rfl⟩
            have c10 : W2.cell? ⟨b1, o1 + p * 2, none⟩ = some (.string (S n1)) := by rw [hW]; exact c10
            have c11 : W2.cell? ⟨b1, o1 + p * 2 + 1, none⟩ = some (.string (S t1)) := by rw [hW]; exact c11
            have d10 : W2.cell? ⟨b2, o2 + q * 2, none⟩ = some (.string (S n2)) := by rw [hW]; exact d10
            have d11 : W2.cell? ⟨b2, o2 + q * 2 + 1, none⟩ = some (.string (S t2)) := by rw [hW]; exact d11
            have oW2 : W2.ownsRow w.heap.size 9 1 u5 out.length (xcs out) := by rw [hW]; exact own_drewN oW1 _
            have BW2 : Below w.heap.size w W2 := by rw [hW]; exact below_drewN BW1 _
            rw [← hW]
            clear hW oW1 BW1
            cases x
            · have HM2 := Lib.hid (show diffR a b = out ++ diffR (a.drop (p + 1)) (b.drop (q + 1)) by rw [HM2.out]; simp)
              have hxy : (t1 == t2) = true := by simpa [bne] using hxx
              go_wp2_with fail
              go_quiet (fail)
              obtain ⟨W3, hW⟩ : ∃ W, W = W2.drewN nq := ⟨_, rfl⟩
              have c10 : W3.cell? ⟨b1, o1 + p * 2, none⟩ = some (.string (S n1)) := by rw [hW]; exact c10
              have c11 : W3.cell? ⟨b1, o1 + p * 2 + 1, none⟩ = some (.string (S t1)) := by rw [hW]; exact c11
              have oW3 : W3.ownsRow w.heap.size 9 1 u5 out.length (xcs out) := by rw [hW]; exact own_drewN oW2 _
              have BW3 : Below w.heap.size w W3 := by rw [hW]; exact below_drewN BW2 _
              rw [← hW]
              clear hW oW2 BW2
              go_wp2_with fail
              go_roundw
              case rel => exact ⟨p + 1, q + 1, out, by omega, by omega, by go_num, by go_num, HM2, by (try rw [List.length_append]); (try simp only [List.length_cons, List.length_nil]); omega, oW3, BW3⟩
              case measure => simp [intOf]; omega
            · have HM2 := Lib.hid (show diffR a b = (out ++ [n1]) ++ diffR (a.drop (p + 1)) (b.drop (q + 1)) by rw [HM2.out]; simp)
              have hxy : (t1 == t2) = false := by simpa [bne] using hxx
              go_wp2_with fail
              go_quiet (fail)
              obtain ⟨W3, hW⟩ : ∃ W, W = W2.drewN nq := ⟨_, rfl⟩
              have c10 : W3.cell? ⟨b1, o1 + p * 2, none⟩ = some (.string (S n1)) := by rw [hW]; exact c10
              have c11 : W3.cell? ⟨b1, o1 + p * 2 + 1, none⟩ = some (.string (S t1)) := by rw [hW]; exact c11
              have oW3 : W3.ownsRow w.heap.size 9 1 u5 out.length (xcs out) := by rw [hW]; exact own_drewN oW2 _
              have BW3 : Below w.heap.size w W3 := by rw [hW]; exact below_drewN BW2 _
              rw [← hW]
              clear hW oW2 BW2
              go_wp2_with (first | (at_builtin; refine wp_app tyX rfl _ _ rfl w.heap.size oW3 rfl rfl rfl rfl x_one (by omega) (by omega) BW3.size ?_; intro v3 w3 o3 b3 _) | fail)
              go_roundw
              case rel => exact ⟨p + 1, q + 1, out ++ [n1], by omega, by omega, by go_num, by go_num, HM2, by (try rw [List.length_append]); (try simp only [List.length_cons, List.length_nil]); omega, (by rw [xcs_snoc, List.length_append]; exact o3), BW3.trans b3⟩
              case measure => simp [intOf]; omega
          · have HM2 := Lib.hid (show diffR a b = (out ++ [n2]) ++ diffR (a.drop p) (b.drop (q + 1)) by
              rw [less_is] at hl1 hl2
              rw [HM.out, if_neg (of_decide_eq_false hl1), if_pos (of_decide_eq_true hl2), hdp]; simp)
            clear HM hdp hdq HE
            go_wp2_with fail
            go_quiet (fail)
            obtain ⟨W1, hW⟩ : ∃ W, W = wr.drewN nq := ⟨_, rfl⟩
            have c10 : W1.cell? ⟨b1, o1 + p * 2, none⟩ = some (.string (S n1)) := by rw [hW]; exact c10
            have c11 : W1.cell? ⟨b1, o1 + p * 2 + 1, none⟩ = some (.string (S t1)) := by rw [hW]; exact c11
            have d10 : W1.cell? ⟨b2, o2 + q * 2, none⟩ = some (.string (S n2)) := by rw [hW]; exact d10
            have d11 : W1.cell? ⟨b2, o2 + q * 2 + 1, none⟩ = some (.string (S t2)) := by rw [hW]; exact d11
            have oW1 : W1.ownsRow w.heap.size 9 1 u5 out.length (xcs out) := by rw [hW]; exact own_drewN hown _
            have BW1 : Below w.heap.size w W1 := by rw [hW]; exact below_drewN hbw _
            rw [← hW]
            clear hW hown hbw
            go_wp2_with fail
            go_quiet (fail)
            obtain ⟨W2, hW⟩ : ∃ W, W = W1.drewN nq := ⟨_, rfl⟩
            have c10 : W2.cell? ⟨b1, o1 + p * 2, none⟩ = some (.string (S n1)) := by rw [hW]; exact c10
            have c11 : W2.cell? ⟨b1, o1 + p * 2 + 1, none⟩ = some (.string (S t1)) := by rw [hW]; exact c11
            have d10 : W2.cell? ⟨b2, o2 + q * 2, none⟩ = some (.string (S n2)) := by rw [hW]; exact d10
            have d11 : W2.cell? ⟨b2, o2 + q * 2 + 1, none⟩ = some (.string (S t2)) := by rw [hW]; exact d11
            have oW2 : W2.ownsRow w.heap.size 9 1 u5 out.length (xcs out) := by rw [hW]; exact own_drewN oW1 _
            have BW2 : Below w.heap.size w W2 := by rw [hW]; exact below_drewN BW1 _
            rw [← hW]
            clear hW oW1 BW1
            go_wp2_with (first | (at_builtin; refine wp_app tyX rfl _ _ rfl w.heap.size oW2 rfl rfl rfl rfl x_one (by omega) (by omega) BW2.size ?_; intro v3 w3 o3 b3 _) | fail)
            go_roundw
            case rel => exact ⟨p, q + 1, out ++ [n2], by omega, by omega, by go_num, by go_num, HM2, by (try rw [List.length_append]); (try simp only [List.length_cons, List.length_nil]); omega, (by rw [xcs_snoc, List.length_append]; exact o3), BW2.trans b3⟩
            case measure => simp [intOf]; omega
        · have HM2 := Lib.hid (show diffR a b = (out ++ [n1]) ++ diffR (a.drop (p + 1)) (b.drop q) by
            rw [less_is] at hl1
            rw [HM.out, if_pos (of_decide_eq_true hl1), hdq]; simp)
          clear HM hdp hdq HE
          go_wp2_with fail
          go_quiet (fail)
          obtain ⟨W1, hW⟩ : ∃ W, W = wr.drewN nq := ⟨_, rfl⟩
          have c10 : W1.cell? ⟨b1, o1 + p * 2, none⟩ = some (.string (S n1)) := by rw [hW]; exact c10
          have c11 : W1.cell? ⟨b1, o1 + p * 2 + 1, none⟩ = some (.string (S t1)) := by rw [hW]; exact c11
          have d10 : W1.cell? ⟨b2, o2 + q * 2, none⟩ = some (.string (S n2)) := by rw [hW]; exact d10
          have d11 : W1.cell? ⟨b2, o2 + q * 2 + 1, none⟩ = some (.string (S t2)) := by rw [hW]; exact d11
          have oW1 : W1.ownsRow w.heap.size 9 1 u5 out.length (xcs out) := by rw [hW]; exact own_drewN hown _
          have BW1 : Below w.heap.size w W1 := by rw [hW]; exact below_drewN hbw _
          rw [← hW]
          clear hW hown hbw
          go_wp2_with (first | (at_builtin; refine wp_app tyX rfl _ _ rfl w.heap.size oW1 rfl rfl rfl rfl x_one (by omega) (by omega) BW1.size ?_; intro v3 w3 o3 b3 _) | fail)
          go_roundw
          case rel => exact ⟨p + 1, q, out ++ [n1], by omega, by omega, by go_num, by go_num, HM2, by (try rw [List.length_append]); (try simp only [List.length_cons, List.length_nil]); omega, (by rw [xcs_snoc, List.length_append]; exact o3), BW1.trans b3⟩
          case measure => simp [intOf]; omega
      · obtain rfl : q = b.length := by omega
        have hqe : ((b.length : Int) == (b.length : Int)) = true := by simp
        have HM2 := Lib.hid (show diffR a b = (out ++ [n1]) ++ diffR (a.drop (p + 1)) (b.drop b.length) by
          rw [HE.out, hdp, List.drop_length, diffR_end, diffR_end]; simp)
        clear hdp HE
        go_wp2_with fail
        go_quiet (fail)
        obtain ⟨W1, hW⟩ : ∃ W, W = wr.drewN nq := ⟨_, rfl⟩
        have c10 : W1.cell? ⟨b1, o1 + p * 2, none⟩ = some (.string (S n1)) := by rw [hW]; exact c10
        have c11 : W1.cell? ⟨b1, o1 + p * 2 + 1, none⟩ = some (.string (S t1)) := by rw [hW]; exact c11
        have oW1 : W1.ownsRow w.heap.size 9 1 u5 out.length (xcs out) := by rw [hW]; exact own_drewN hown _
        have BW1 : Below w.heap.size w W1 := by rw [hW]; exact below_drewN hbw _
        rw [← hW]
        clear hW hown hbw
        go_wp2_with (first | (at_builtin; refine wp_app tyX rfl _ _ rfl w.heap.size oW1 rfl rfl rfl rfl x_one (by omega) (by omega) BW1.size ?_; intro v3 w3 o3 b3 _) | fail)
        go_roundw
        case rel => exact ⟨p + 1, b.length, out ++ [n1], by omega, by omega, by go_num, by go_num, HM2, by (try rw [List.length_append]); (try simp only [List.length_cons, List.length_nil]); omega, (by rw [xcs_snoc, List.length_append]; exact o3), BW1.trans b3⟩
        case measure => simp [intOf]; omega
    · obtain rfl : p = a.length := by omega
      have hpe : ((a.length : Int) == (a.length : Int)) = true := by simp
      have hpd : decide ((a.length : Int) < (a.length : Int)) = false := by simp
      clear hwq
      by_cases hql : q < b.length
      · obtain ⟨b2, o2, rfl, d10, d11⟩ := (HB.out.below' hbw).at hql
        have hqi : (q : Int) < (b.length : Int) := by omega
        have hqe : ((q : Int) == (b.length : Int)) = false := by simp; omega
        have hdq : b.drop q = b[q] :: b.drop (q + 1) := List.drop_eq_getElem_cons hql
        obtain ⟨⟨n2, t2⟩, hx⟩ : ∃ x, x = b[q] := ⟨_, rfl⟩
        rw [← hx] at d10 d11 hdq
        clear hx
        have HM2 := Lib.hid (show diffR a b = (out ++ [n2]) ++ diffR (a.drop a.length) (b.drop (q + 1)) by
          rw [HE.out, hdq, List.drop_length, diffR_nil, diffR_nil]; simp)
        clear hdq HE
        go_wp2_with fail
        go_quiet (fail)
        obtain ⟨W1, hW⟩ : ∃ W, W = wr.drewN nq := ⟨_, rfl⟩
        have d10 : W1.cell? ⟨b2, o2 + q * 2, none⟩ = some (.string (S n2)) := by rw [hW]; exact d10
        have d11 : W1.cell? ⟨b2, o2 + q * 2 + 1, none⟩ = some (.string (S t2)) := by rw [hW]; exact d11
        have oW1 : W1.ownsRow w.heap.size 9 1 u5 out.length (xcs out) := by rw [hW]; exact own_drewN hown _
        have BW1 : Below w.heap.size w W1 := by rw [hW]; exact below_drewN hbw _
        rw [← hW]
        clear hW hown hbw
        go_wp2_with fail
        go_quiet (fail)
        obtain ⟨W2, hW⟩ : ∃ W, W = W1.drewN nq := ⟨_, rfl⟩
        have d10 : W2.cell? ⟨b2, o2 + q * 2, none⟩ = some (.string (S n2)) := by rw [hW]; exact d10
        have d11 : W2.cell? ⟨b2, o2 + q * 2 + 1, none⟩ = some (.string (S t2)) := by rw [hW]; exact d11
        have oW2 : W2.ownsRow w.heap.size 9 1 u5 out.length (xcs out) := by rw [hW]; exact own_drewN oW1 _
        have BW2 : Below w.heap.size w W2 := by rw [hW]; exact below_drewN BW1 _
        rw [← hW]
        clear hW oW1 BW1
        go_wp2_with (first | (at_builtin; refine wp_app tyX rfl _ _ rfl w.heap.size oW2 rfl rfl rfl rfl x_one (by omega) (by omega) BW2.size ?_; intro v3 w3 o3 b3 _) | fail)
        go_roundw
        case rel => exact ⟨a.length, q + 1, out ++ [n2], by omega, by omega, by go_num, by go_num, HM2, by (try rw [List.length_append]); (try simp only [List.length_cons, List.length_nil]); omega, (by rw [xcs_snoc, List.length_append]; exact o3), BW2.trans b3⟩
        case measure => simp [intOf]; omega
      · obtain rfl : q = b.length := by omega
        have hqd : decide ((b.length : Int) < (b.length : Int)) = false := by simp
        have HF := Lib.hid (HE.out.trans (by rw [List.drop_length, List.drop_length, diffR_nil, List.map_nil, List.append_nil]))
        go_wp2_with fail
        go_ret
        exact ⟨_, rfl, by rw [HF.out]; exact hown, hbw⟩

end Go.Proofs.Ytgpifaedcelnnaa
