
/- Same; Diff of the program. No condition. -/
import Derived.Test.YtgpifaedcelnnaaFiFind
import Derived.Sort.OwnSorted
namespace Go.Proofs.Ytgpifaedcelnnaa
open Go.RowKit

set_option maxHeartbeats 800000 in
/-- 'slices.Equal' of files. -/
theorem slEqual_any (va vb : Value) (la lb : List Fl) (w : World) (ha : Rf w va la) (hb : Rf w vb lb) (hla : la.length ≤ 1000000000000) (hlb : lb.length ≤ 1000000000000) :
    Calls Try.prog 37 #[va, vb] w fun e w' => e = .returned (.bool (la == lb)) ∧ Below w.heap.size w w' := by
  have hne := run_neq_file
  obtain ⟨aa, ca, rfl⟩ := ha.shape
  obtain ⟨ab, cb, rfl⟩ := hb.shape
  by_cases hlen : la.length = lb.length
  · have HL := Lib.hid hlen
    have hb1 : ((la.length : Int) != (lb.length : Int)) = false := by simp [hlen]
    clear hlen
    go_enter Try.func37, Try.ntmps37
    go_wp2
    go_loopw [13] (fun i wr => ∃ k : Nat, k ≤ la.length ∧ i = .int .i64 k ∧ Hid (la.take k = lb.take k) ∧ Below w.heap.size w wr) (fun i _ => la.length - (intOf i).toNat)
    case atStart => exact ⟨0, Nat.zero_le _, rfl, rfl, Below.refl _ _⟩
    case round =>
      obtain ⟨k, hk, rfl, HE, hbw⟩ := hrel
      by_cases hlt : k < la.length
      · have hlt' : k < lb.length := HL.out ▸ hlt
        have ha' := ha.below' hbw
        have hb' := hb.below' hbw
        obtain ⟨b1, o1, rfl, c10, c11⟩ := ha'.at hlt
        obtain ⟨b2, o2, rfl, c20, c21⟩ := hb'.at hlt'
        clear ha' hb' ha hb
        go_wp2
        go_quiet (fail)
        go_wp2
        · have hx : (la[k] != lb[k]) = true := by assumption
          go_ret
          refine ⟨ret_bool ?_, below_drewN hbw _⟩
          have : la ≠ lb := fun e => ne_of_bne hx (by subst e; rfl)
          simp [this]
        · have hx : (la[k] != lb[k]) = false := by assumption
          go_roundw
          case rel => exact ⟨k + 1, by omega, by go_num, take_succ_eq hlt hlt' HE.out (eq_of_bne hx), below_drewN hbw _⟩
          case measure => simp [intOf]; omega
      · have hkl : k = la.length := by omega
        have heq : la = lb := by
          have := HE.out
          rw [hkl, List.take_length, HL.out, List.take_length] at this
          exact this
        have HQ := Lib.hid heq
        clear heq hkl ha hb
        go_wp2
        go_ret
        exact ⟨ret_bool (by simp [HQ.out]), hbw⟩
  · have hb1 : ((la.length : Int) != (lb.length : Int)) = true := by simp [bne]; omega
    go_enter Try.func37, Try.ntmps37
    go_wp2
    go_ret
    refine ⟨ret_bool ?_, Below.refl _ _⟩
    have : la ≠ lb := fun e => hlen (by rw [e])
    simp [this]

/-- 'Same'. -/
theorem fsame_any (va vb : Value) (la lb : List Fl) (w : World) (ha : Rf w va la) (hb : Rf w vb lb) (hla : la.length ≤ 1000000000000) (hlb : lb.length ≤ 1000000000000) :
    Calls Try.prog 24 #[va, vb] w fun e w' => e = .returned (.bool (la == lb)) ∧ Below w.heap.size w w' := by
  have HE := Lib.hid (slEqual_any va vb la lb w ha hb hla hlb)
  obtain ⟨aa, ca, rfl⟩ := ha.shape
  obtain ⟨ab, cb, rfl⟩ := hb.shape
  obtain ⟨q, hq⟩ : ∃ q, q = (la == lb) := ⟨_, rfl⟩
  rw [← hq] at HE ⊢
  clear hq ha hb
  go_enter Try.func24, Try.ntmps24
  go_wp2_with fail
  (with_reducible refine HE.out.mono ?_); rintro e w2 ⟨rfl, b2⟩
  go_wp2_with fail
  go_ret
  exact ⟨rfl, b2⟩

theorem hasF_is {l : List Fl} (h : Fi.Ord l) (f : Fl) : l.contains f = decide (∃ hx : lb (Fi.names l) f.1 < l.length, l[lb (Fi.names l) f.1] = f) := by
  rw [Bool.eq_iff_iff, decide_eq_true_iff, List.contains_iff_mem]
  constructor
  · intro hm
    obtain ⟨i, hi, e⟩ := List.getElem_of_mem hm
    have := lb_mem h (x := i) (t := f.1) (by rw [Fi.names_len]; exact hi) (by rw [Fi.names_at hi, e])
    refine ⟨by omega, ?_⟩
    simp only [this]
    exact e
  · rintro ⟨hx, e⟩
    rw [← e]; exact List.getElem_mem hx

theorem hasF_at {l : List Fl} (h : Fi.Ord l) (f : Fl) {r : Nat} (hr : r = lb (Fi.names l) f.1) : l.contains f = decide (∃ hx : r < l.length, l[r] = f) := by
  subst hr; exact hasF_is h f

set_option maxRecDepth 20000 in
set_option maxHeartbeats 1600000 in
/-- 'has'. -/
theorem fhas_any (v : Value) (l : List Fl) (f : Fl) (w : World) (hl : Rf w v l) (hlen : l.length ≤ 1000000) (hs : Fi.Ord l) :
    Calls Try.prog 35 #[v, .agg #[.string (S f.1), .string (S f.2)]] w fun e w' => e = .returned (.bool (l.contains f)) ∧ Below w.heap.size w w' := by
  have hat := Fi.has_at hs f.1
  obtain ⟨nm, tx⟩ := f
  simp only at hat
  have HR := Lib.hid hl
  obtain ⟨a0, c0, rfl⟩ := hl.shape
  clear hl
  obtain ⟨w0, hw0⟩ : ∃ w0, w0 = w.alloc (.cells #[.string (S nm), .string (S tx)] 25) := ⟨_, rfl⟩
  have hb0 : Below w.heap.size w w0 := by rw [hw0]; exact (Below.refl _ _).alloc (Nat.le_refl _) _
  have hg0 : w0.heap[w.heap.size]? = some (.cells #[.string (S nm), .string (S tx)] 25 (0, 0)) := by rw [hw0]; exact heap_alloc_new w _
  have hs0 := hb0.size
  have HP := Lib.hid (place_any _ l nm w0 (HR.out.below' hb0) (by omega) hs)
  rw [lb_is hs, show (Fi.names l).contains nm = Fi.has l nm from rfl] at HP
  obtain ⟨r, hr⟩ : ∃ r, r = lb (Fi.names l) nm := ⟨_, rfl⟩
  have hcc := hasF_at hs (nm, tx) hr
  rw [← hr] at HP hat
  obtain ⟨q, hq⟩ : ∃ q, q = Fi.has l nm := ⟨_, rfl⟩
  rw [← hq] at HP hat
  have HW := Lib.hid hw0
  clear hr hq hw0 hs
  cases q
  · have hno := of_decide_eq_false hat.symm
    have HC := Lib.hid (show l.contains (nm, tx) = false by
      rw [hcc, decide_eq_false_iff_not]
      rintro ⟨hx, e⟩
      exact hno ⟨hx, by rw [e]⟩)
    rw [HC.out]
    clear hcc hat hno
    go_enter Try.func35, Try.ntmps35
    go_wp2_with fail
    rw [← HW.out]
    (with_reducible refine HP.out.mono ?_); rintro e w2 ⟨rfl, b2⟩
    have hg2 := (b2.block _ (row_lt hg0)).trans hg0
    have x0 := pair_cell0 hg2
    have x1 := pair_cell1 hg2
    go_wp2_with fail
    go_quiet (fail)
    go_wp2_with fail
    go_ret
    exact ⟨rfl, below_drewN (hb0.trans (b2.mono hs0)) _⟩
  · obtain ⟨hrl, hn⟩ := of_decide_eq_true hat.symm
    have hri : (r : Int) < (l.length : Int) := by omega
    obtain ⟨⟨n2, t2⟩, hf2⟩ : ∃ g, g = l[r] := ⟨_, rfl⟩
    have HC := Lib.hid (show l.contains (nm, tx) = ((n2, t2) == (nm, tx)) by
      rw [hcc, hf2]
      by_cases e : l[r] = (nm, tx)
      · rw [decide_eq_true ⟨hrl, e⟩]; simp [e]
      · rw [decide_eq_false (fun ⟨_, h⟩ => e h)]; simpa using e)
    rw [HC.out]
    have HF2 := Lib.hid hf2
    have hel := run_eql_file (n2, t2) (nm, tx)
    simp only at hel
    clear hcc hat hn hf2
    go_enter Try.func35, Try.ntmps35
    go_wp2_with fail
    rw [← HW.out]
    (with_reducible refine HP.out.mono ?_); rintro e w2 ⟨rfl, b2⟩
    have hg2 := (b2.block _ (row_lt hg0)).trans hg0
    have x0 := pair_cell0 hg2
    have x1 := pair_cell1 hg2
    have hb2 := hb0.trans (b2.mono hs0)
    obtain ⟨b1, o1, rfl, c1, c2⟩ := (HR.out.below' hb2).at hrl
    rw [← HF2.out] at c1 c2
    go_wp2_with fail
    go_quiet (fail)
    go_wp2_with fail
    go_ret
    exact ⟨rfl, below_drewN hb2 _⟩

theorem tyX : SlTy Try.prog 41 9 1 16 := SlTy.mk' (z := .string ⟨#[]⟩) Try.underlying41 (by kernel_rfl) rfl (by decide)
def dA (a b : List Fl) : List (List UInt8) := (a.filter fun f => !b.contains f).map Prod.fst
def dB (a b : List Fl) : List (List UInt8) := (b.filter fun f => !Fi.has a f.1).map Prod.fst
/-- The names that differ, in order. -/
def diffS (a b : List Fl) : List (List UInt8) := (dA a b ++ dB a b).mergeSort fun x y => decide (x ≤ y)
theorem dA_snoc {a b : List Fl} {k : Nat} (h : k < a.length) : dA (a.take (k + 1)) b = dA (a.take k) b ++ (if b.contains a[k] then [] else [a[k].1]) := by
  unfold dA
  rw [take_snoc a k h, List.filter_append, List.map_append]
  congr 1
  cases hc : b.contains a[k] <;> simp only [List.filter_cons, List.filter_nil, hc, Bool.not_true, Bool.not_false, if_true, Bool.false_eq_true, if_false, List.map_cons, List.map_nil]
theorem dB_snoc {a b : List Fl} {k : Nat} (h : k < b.length) : dB a (b.take (k + 1)) = dB a (b.take k) ++ (if Fi.has a b[k].1 then [] else [b[k].1]) := by
  unfold dB
  rw [take_snoc b k h, List.filter_append, List.map_append]
  congr 1
  cases hc : Fi.has a b[k].1 <;> simp only [List.filter_cons, List.filter_nil, hc, Bool.not_true, Bool.not_false, if_true, Bool.false_eq_true, if_false, List.map_cons, List.map_nil]
theorem dA_len (a b : List Fl) : (dA a b).length ≤ a.length := by unfold dA; rw [List.length_map]; exact List.length_filter_le _ _
theorem dB_len (a b : List Fl) : (dB a b).length ≤ b.length := by unfold dB; rw [List.length_map]; exact List.length_filter_le _ _
theorem x_one {a : ByteArray} : ∀ u ∈ [Value.string a], u.oneCell' = true := by
  intro u hu; simp at hu; subst hu; rfl

set_option maxRecDepth 20000 in
set_option maxHeartbeats 4000000 in
/-- 'Diff'. -/
theorem fdiff_any (va vb : Value) (a b : List Fl) (w : World) (ha : Rf w va a) (hb : Rf w vb b) (hla : a.length ≤ 1000) (hlb : b.length ≤ 1000) (hsa : Fi.Ord a) (hsb : Fi.Ord b) :
    Calls Try.prog 23 #[va, vb] w fun e w' => ∃ v', e = .returned v' ∧ w'.ownsRow w.heap.size 9 1 v' (diffS a b).length (xcs (diffS a b)) ∧ Below w.heap.size w w' := by
  obtain ⟨aa, ca, rfl⟩ := ha.shape
  obtain ⟨ab, cb, rfl⟩ := hb.shape
  have HA := Lib.hid ha
  have HB := Lib.hid hb
  clear ha hb
  go_enter Try.func23, Try.ntmps23
  go_wp2_with fail
  go_loopw [5, 14] (fun v i wr => ∃ k : Nat, k ≤ a.length ∧ i = .int .i64 k ∧ wr.ownsRow w.heap.size 9 1 v (dA (a.take k) b).length (xcs (dA (a.take k) b)) ∧ Below w.heap.size w wr) (fun _ i _ => a.length - (intOf i).toNat)
  case atStart => exact ⟨0, Nat.zero_le _, rfl, World.ownsRow_nil _ _ _ _, Below.refl _ _⟩
  case round =>
    obtain ⟨k, hk, rfl, hown, hbw⟩ := hrel
    have hsz := hbw.size
    by_cases hlt : k < a.length
    · obtain ⟨b1, o1, rfl, c10, c11⟩ := (HA.out.below' hbw).at hlt
      have HN := Lib.hid (dA_snoc (b := b) hlt)
      have hln := dA_len (a.take k) b
      rw [List.length_take, Nat.min_eq_left hk] at hln
      obtain ⟨⟨nm, tx⟩, hx⟩ : ∃ x, x = a[k] := ⟨_, rfl⟩
      rw [← hx] at c10 c11 HN
      simp only at HN
      clear hx
      obtain ⟨out, hout⟩ : ∃ out, out = dA (a.take k) b := ⟨_, rfl⟩
      rw [← hout] at hown hln HN
      clear hout
      obtain ⟨wx, hwx⟩ : ∃ wx, wx = wr.alloc (.cells #[.string (S nm), .string (S tx)] 25) := ⟨_, rfl⟩
      have bx : Below w.heap.size w wx := by rw [hwx]; exact hbw.alloc hsz _
      have gx : wx.heap[wr.heap.size]? = some (.cells #[.string (S nm), .string (S tx)] 25 (0, 0)) := by rw [hwx]; exact heap_alloc_new _ _
      have ox : wx.ownsRow w.heap.size 9 1 u5 out.length (xcs out) := by rw [hwx]; exact hown.alloc _
      have HC := Lib.hid (fhas_any _ b (nm, tx) wx (HB.out.below' bx) (by omega) hsb)
      obtain ⟨q, hq⟩ : ∃ q, q = b.contains (nm, tx) := ⟨_, rfl⟩
      rw [← hq] at HC HN
      have HX := Lib.hid hwx
      clear hq hwx hown
      go_wp2_with fail
      rw [← HX.out]
      (with_reducible refine HC.out.mono ?_); rintro e w2 ⟨rfl, b2⟩
      have o2 := own_below ox (own_under ox) b2
      have g2 := (b2.block _ (row_lt gx)).trans gx
      have x0 := pair_cell0 g2
      have B2 := bx.trans (b2.mono bx.size)
      clear ox gx b2
      cases q
      · go_wp2_with (first | (at_builtin; refine wp_app tyX rfl _ _ rfl w.heap.size o2 rfl rfl rfl rfl x_one (by omega) (by omega) B2.size ?_; intro v3 w3 o3 b3 _) | fail)
        go_roundw
        case rel => exact ⟨k + 1, by omega, by go_num, (by rw [HN.out]; simp only [Bool.false_eq_true, if_false]; rw [xcs_snoc, List.length_append]; exact o3), B2.trans b3⟩
        case measure => simp [intOf]; omega
      · go_wp2_with fail
        go_roundw
        case rel => exact ⟨k + 1, by omega, by go_num, (by rw [HN.out]; simp only [if_true, List.append_nil]; exact o2), B2⟩
        case measure => simp [intOf]; omega
    · obtain rfl : k = a.length := by omega
      rw [List.take_length] at hown
      have hla0 := dA_len a b
      obtain ⟨D, hD⟩ : ∃ D, D = dA a b := ⟨_, rfl⟩
      have HDD := Lib.hid (show diffS a b = (D ++ dB a b).mergeSort fun x y => decide (x ≤ y) by rw [hD]; rfl)
      rw [← hD] at hown hla0
      clear hD
      go_wp2_with fail
      go_loopw [5, 30] (fun v i wr => ∃ k : Nat, k ≤ b.length ∧ i = .int .i64 k ∧ wr.ownsRow w.heap.size 9 1 v (D ++ dB a (b.take k)).length (xcs (D ++ dB a (b.take k))) ∧ Below w.heap.size w wr) (fun _ i _ => b.length - (intOf i).toNat)
      case atStart => exact ⟨0, Nat.zero_le _, rfl, by rw [show dB a (b.take 0) = [] from rfl, List.append_nil]; exact hown, hbw⟩
      case round =>
        obtain ⟨j, hj, rfl, howr, hbq⟩ := hrel
        have hsq := hbq.size
        by_cases hlq : j < b.length
        · obtain ⟨b3, o3, rfl, d10, d11⟩ := (HB.out.below' hbq).at hlq
          have HN := Lib.hid (dB_snoc (a := a) hlq)
          have hln := dB_len a (b.take j)
          rw [List.length_take, Nat.min_eq_left hj] at hln
          obtain ⟨⟨nm, tx⟩, hx⟩ : ∃ x, x = b[j] := ⟨_, rfl⟩
          rw [← hx] at d10 d11 HN
          simp only at HN
          clear hx
          obtain ⟨out, hout⟩ : ∃ out, out = dB a (b.take j) := ⟨_, rfl⟩
          rw [← hout] at howr hln HN
          clear hout
          have holen : (D ++ out).length ≤ 2000 := by rw [List.length_append]; omega
          obtain ⟨oo, hoo⟩ : ∃ oo, oo = D ++ out := ⟨_, rfl⟩
          rw [← hoo] at howr holen
          have HOO := Lib.hid hoo
          clear hoo
          obtain ⟨wx, hwx⟩ : ∃ wx, wx = wr.alloc (.cells #[.string (S nm), .string (S tx)] 25) := ⟨_, rfl⟩
          have bx : Below w.heap.size w wx := by rw [hwx]; exact hbq.alloc hsq _
          have gx : wx.heap[wr.heap.size]? = some (.cells #[.string (S nm), .string (S tx)] 25 (0, 0)) := by rw [hwx]; exact heap_alloc_new _ _
          have ox := howr.alloc (.cells #[.string (S nm), .string (S tx)] 25)
          rw [← hwx] at ox
          have HP := Lib.hid (place_any _ a nm wx (HA.out.below' bx) (by omega) hsa)
          rw [lb_is hsa, show (Fi.names a).contains nm = Fi.has a nm from rfl] at HP
          obtain ⟨r, hr⟩ : ∃ r, r = lb (Fi.names a) nm := ⟨_, rfl⟩
          obtain ⟨q, hq⟩ : ∃ q, q = Fi.has a nm := ⟨_, rfl⟩
          rw [← hr, ← hq] at HP
          rw [← hq] at HN
          have HX := Lib.hid hwx
          clear hr hq hwx howr
          go_wp2_with fail
          rw [← HX.out]
          (with_reducible refine HP.out.mono ?_); rintro e w2 ⟨rfl, b2⟩
          have o2 := own_below ox (own_under ox) b2
          have g2 := (b2.block _ (row_lt gx)).trans gx
          have x0 := pair_cell0 g2
          have B2 := bx.trans (b2.mono bx.size)
          clear ox gx b2
          cases q
          · go_wp2_with (first | (at_builtin; refine wp_app tyX rfl _ _ rfl w.heap.size o2 rfl rfl rfl rfl x_one (by omega) (by omega) B2.size ?_; intro v3 w3 o3 b3 _) | fail)
            go_roundw
            case rel => exact ⟨j + 1, by omega, by go_num, (by rw [HN.out]; simp only [Bool.false_eq_true, if_false]; rw [← List.append_assoc, ← HOO.out, xcs_snoc, List.length_append]; exact o3), B2.trans b3⟩
            case measure => simp [intOf]; omega
          · go_wp2_with fail
            go_roundw
            case rel => exact ⟨j + 1, by omega, by go_num, (by rw [HN.out]; simp only [if_true, List.append_nil]; rw [← HOO.out]; exact o2), B2⟩
            case measure => simp [intOf]; omega
        · obtain rfl : j = b.length := by omega
          rw [List.take_length] at howr
          have hlb0 := dB_len a b
          have holen : (D ++ dB a b).length ≤ 2000 := by rw [List.length_append]; omega
          obtain ⟨L, hL⟩ : ∃ L, L = D ++ dB a b := ⟨_, rfl⟩
          have HDL := Lib.hid (show diffS a b = L.mergeSort fun x y => decide (x ≤ y) by rw [hL]; exact HDD.out)
          rw [← hL] at howr holen
          clear hL
          rcases howr.2 with ⟨hnil, h0⟩ | ⟨g, cap, cur, hv, hgB, hg, h1, h2, h3, h4⟩
          · have hL0 : L = [] := List.eq_nil_of_length_eq_zero h0
            subst hL0
            subst hnil
            go_wp2_with fail
            (with_reducible refine (Try.slices_Sort_string_none _ _ _).mono ?_); rintro e w5 ⟨rfl, rfl⟩
            go_wp2_with fail
            go_ret
            refine ⟨.slice none 0 0, rfl, ?_, hbq⟩
            rw [HDL.out, show (([] : List (List UInt8)).mergeSort fun x y => decide (x ≤ y)) = [] by simp]
            exact World.ownsRow_nil _ _ _ _
          · subst hv
            have hh := holds_of_block (ss := L) hg (by rw [Nat.mul_one] at h4; exact h4)
            have hgl := row_lt hg
            go_wp2_with fail
            (with_reducible refine (Try.slices_Sort_string g 0 cap L _ hh hgl (by omega)).mono ?_); rintro e w5 ⟨rfl, n5, os5, rfl⟩
            have hso := ownsRow_sorted (n := n5) (os := os5) (ss := L) (ts := L.mergeSort fun x y => decide (x ≤ y)) (by simp) hgB hg h1 h2 h3
            have hgr := grownBy_sorted (w := wr) (g := g) (n := n5) (os := os5) (L.mergeSort fun x y => decide (x ≤ y)).toArray
            go_wp2_with fail
            go_ret
            refine ⟨_, rfl, ?_, hbq.trans ((Below.refl w.heap.size wr).grown hgr hsq (fun j hj => by cases hj; exact hgB))⟩
            rw [HDL.out]
            have e1 : (L.mergeSort fun x y => decide (x ≤ y)).length = L.length := by simp
            rw [e1]
            exact hso

end Go.Proofs.Ytgpifaedcelnnaa
