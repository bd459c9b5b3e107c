
/- The reference of the macro layer: Named, Get, Drop. No condition. -/
import Derived.Test.YtkpdhpbnbpjceaaMacPut
namespace Go.Proofs.Ytkpdhpbnbpjceaa
open Go.RowKit

theorem tyMacR : SlTy Try.prog 53 63 3 48 := SlTy.mk' (z := .agg #[.string ⟨#[]⟩, .int .i64 0, .slice none 0 0]) Try.underlying53 (by kernel_rfl) rfl (by decide)
theorem mcs_snoc (a : List (Mac × Value)) (p : Mac × Value) : mcs (a ++ [p]) = mcs a ++ [.string (S p.1.1), .int .i64 p.1.2.1, p.2] := by simp [mcs, mc]
theorem mc3_one {a : ByteArray} {i : Int} {x : Option Addr} {n c : Nat} : ∀ u ∈ [Value.string a, .int .i64 i, .slice x n c], u.oneCell' = true := by
  intro u hu; simp at hu; rcases hu with rfl | rfl | rfl <;> rfl

theorem isL_int (c : UInt8) : Mx.isL c = decide ((97 ≤ (c.toNat : Int) ∧ (c.toNat : Int) ≤ 122) ∨ (65 ≤ (c.toNat : Int) ∧ (c.toNat : Int) ≤ 90)) := by
  have h : ∀ n : Fin 256, Mx.isL (UInt8.ofNat n.val) = decide ((97 ≤ (n.val : Int) ∧ (n.val : Int) ≤ 122) ∨ (65 ≤ (n.val : Int) ∧ (n.val : Int) ≤ 90)) := by decide +kernel
  have := h ⟨c.toNat, c.toNat_lt⟩
  simpa using this
theorem mnamed_bad {s : List UInt8} {k : Nat} (h : k < s.length) (hc : Mx.isL s[k] = false) : Mx.named s = false := by
  have h2 : s.all Mx.isL = false := by rw [List.all_eq_false]; exact ⟨s[k], List.getElem_mem h, by simp [hc]⟩
  rw [Mx.named, h2]; rfl
theorem mnamed_end {s : List UInt8} (h : s.all Mx.isL = true) : Mx.named s = (decide (1 ≤ s.length) && decide (s.length ≤ 20)) := by rw [Mx.named, h]; rfl

set_option maxHeartbeats 1600000 in
/-- 'Named' of the reference. -/
theorem refNamed_any (s : List UInt8) (hs : s.length ≤ 9223372036854775807) (w : World) :
    Calls Try.prog 48 #[.string (S s)] w fun e w' => e = .returned (.bool (Mx.named s)) ∧ w' = w := by
  go_enter Try.func48, Try.ntmps48
  go_wp2_with fail
  go_loop [3] (fun i => ∃ (k : Nat), k ≤ s.length ∧ i = .int .i64 k ∧ Hid ((s.take k).all Mx.isL = true)) (fun i => s.length - (intOf i).toNat)
  case atStart => exact ⟨0, Nat.zero_le _, rfl, rfl⟩
  case round =>
    obtain ⟨k, hk, rfl, HC⟩ := hrel
    by_cases hlt : k < s.length
    · have hL := isL_int s[k]
      have hbad : Mx.isL s[k] = false → Hid (Mx.named s = false) := fun h => Lib.hid (mnamed_bad hlt h)
      have hgood : Mx.isL s[k] = true → Hid ((s.take (k + 1)).all Mx.isL = true) := fun hc => Lib.hid (by rw [take_snoc s k hlt, List.all_append, HC.out]; simp [hc])
      obtain ⟨d, hd⟩ : ∃ d : Int, (s[k].toNat : Int) = d := ⟨_, rfl⟩
      have hx := hd
      rw [hd] at hL
      rcases (by omega : (97 ≤ d ∧ d ≤ 122) ∨ (65 ≤ d ∧ d ≤ 90) ∨ d < 65 ∨ (90 < d ∧ d < 97) ∨ 122 < d) with ⟨h1, h2⟩ | ⟨h1, h2⟩ | h1 | ⟨h1, h2⟩ | h1
      · skip
        have HN := hgood (by rw [hL]; first | decide | (simp only [decide_eq_true_eq]; omega))
        clear hL hbad hgood
        go_wp2_with fail
        go_round
        case rel => exact ⟨k + 1, by omega, by go_num, HN⟩
        case measure => simp [intOf]; omega
      · skip
        have f0 : decide (97 ≤ d) = false := by simp; omega
        have HN := hgood (by rw [hL]; first | decide | (simp only [decide_eq_true_eq]; omega))
        clear hL hbad hgood
        go_wp2_with fail
        go_round
        case rel => exact ⟨k + 1, by omega, by go_num, HN⟩
        case measure => simp [intOf]; omega
      · skip
        have f0 : decide (97 ≤ d) = false := by simp; omega
        have f1 : decide (65 ≤ d) = false := by simp; omega
        have HF := hbad (by rw [hL]; first | decide | (simp only [decide_eq_false_iff_not]; omega))
        clear hL hbad hgood
        go_wp2_with fail
        go_ret
        exact ⟨ret_bool HF.out.symm, rfl⟩
      · have g1 : 65 ≤ d := by omega
        have f0 : decide (97 ≤ d) = false := by simp; omega
        have f1 : decide (d ≤ 90) = false := by simp; omega
        have HF := hbad (by rw [hL]; first | decide | (simp only [decide_eq_false_iff_not]; omega))
        clear hL hbad hgood
        go_wp2_with fail
        go_ret
        exact ⟨ret_bool HF.out.symm, rfl⟩
      · have g1 : 65 ≤ d := by omega
        have g2 : 97 ≤ d := by omega
        have f0 : decide (d ≤ 122) = false := by simp; omega
        have f1 : decide (d ≤ 90) = false := by simp; omega
        have HF := hbad (by rw [hL]; first | decide | (simp only [decide_eq_false_iff_not]; omega))
        clear hL hbad hgood
        go_wp2_with fail
        go_ret
        exact ⟨ret_bool HF.out.symm, rfl⟩
    · obtain rfl : k = s.length := by omega
      have HN := Lib.hid (mnamed_end (s := s) (by have := HC.out; rwa [List.take_length] at this))
      cases h1 : decide ((1 : Int) ≤ (s.length : Int))
      · have HB := Lib.hid (show Mx.named s = false by
          have : ¬ (1 ≤ s.length) := by have := of_decide_eq_false h1; omega
          rw [HN.out, decide_eq_false this]; rfl)
        go_wp2_with fail
        go_ret
        exact ⟨ret_bool HB.out.symm, rfl⟩
      · cases h2 : decide ((s.length : Int) ≤ 20)
        · go_wp2_with fail
          go_ret
          exact ⟨ret_bool (by rw [HN.out]; simp at h1 h2 ⊢; omega), rfl⟩
        · go_wp2_with fail
          go_ret
          exact ⟨ret_bool (by rw [HN.out]; simp at h1 h2 ⊢; omega), rfl⟩

/-! ### Get -/
def getP (ps : List (Mac × Value)) (t : List UInt8) : Option (Mac × Value) := ps.find? fun p => p.1.1 == t
def optM : Option (Mac × Value) → Mac × Bool
  | some p => (p.1, true)
  | none => (([], 0, []), false)
theorem getP_fst (ps : List (Mac × Value)) (t : List UInt8) : getM (ps.map Prod.fst) t = optM (getP ps t) := by
  unfold getM getP
  rw [List.find?_map]
  have e : ((fun m : Mac => m.1 == t) ∘ Prod.fst : Mac × Value → Bool) = fun p => p.1.1 == t := rfl
  rw [e]
  cases (ps.find? fun p => p.1.1 == t) <;> rfl

set_option maxRecDepth 20000 in
set_option maxHeartbeats 4000000 in
/-- 'Get' of the reference. -/
theorem refMget_any (v : Value) (ps : List (Mac × Value)) (t : List UInt8) (w : World) (hl : RdM w v ps) (hlen : ps.length ≤ 1000000) :
    Calls Try.prog 31 #[v, .string (S t)] w fun e w' => ∃ bv, e = .returned (.tuple #[.agg #[.string (S (getM (ps.map Prod.fst) t).1.1), .int .i64 (getM (ps.map Prod.fst) t).1.2.1, bv], .bool (getM (ps.map Prod.fst) t).2]) ∧ Rt w' bv (getM (ps.map Prod.fst) t).1.2.2 ∧ Below w.heap.size w w' := by
  obtain ⟨a0, c0, rfl⟩ := hl.1.shape
  have HL := Lib.hid hl
  clear hl
  have hgm := getP_fst ps t
  obtain ⟨gm, hq⟩ : ∃ gm, gm = getM (ps.map Prod.fst) t := ⟨_, rfl⟩
  rw [← hq] at hgm ⊢
  have HGM := Lib.hid hgm
  clear hq hgm
  go_enter Try.func31, Try.ntmps31
  go_wp2_with fail
  obtain ⟨w0, hw0⟩ : ∃ w0, w0 = w.alloc (.cells #[.string (S []), .int .i64 0, .slice none 0 0] 63) := ⟨_, rfl⟩
  have hb0 : Below w.heap.size w w0 := by rw [hw0]; exact (Below.refl _ _).alloc (Nat.le_refl _) _
  have hg0 : w0.heap[w.heap.size]? = some (.cells #[.string (S []), .int .i64 0, .slice none 0 0] 63 (0, 0)) := by rw [hw0]; exact heap_alloc_new w _
  have hs0 := hb0.size
  have hl0 := row_lt hg0
  have HW := Lib.hid hw0
  clear hw0
  go_loopw [6] (fun i wr => ∃ k : Nat, k ≤ ps.length ∧ i = .int .i64 k ∧ Hid (getP ps t = getP (ps.drop k) t) ∧ wr = w0) (fun i _ => ps.length - (intOf i).toNat)
  case atStart => exact ⟨0, Nat.zero_le _, rfl, Lib.hid rfl, HW.out.symm⟩
  case round =>
    obtain ⟨k, hk, rfl, HE, rfl⟩ := hrel
    have x0 : wr.cell? ⟨w.heap.size, 0, none⟩ = some (.string (S [])) := row_cell hg0 0
    have x1 : wr.cell? ⟨w.heap.size, 1, none⟩ = some (.int .i64 0) := row_cell hg0 1
    have x2 : wr.cell? ⟨w.heap.size, 2, none⟩ = some (.slice none 0 0) := row_cell hg0 2
    have y0 := row_free hg0 0
    have y1 := row_free hg0 1
    have y2 := row_free hg0 2
    have hset : ∀ a b c, Below w.heap.size w (((wr.setCell ⟨w.heap.size, 0, none⟩ a).setCell ⟨w.heap.size, 1, none⟩ b).setCell ⟨w.heap.size, 2, none⟩ c) := fun a b c => ((hb0.setCell (p := ⟨w.heap.size, 0, none⟩) (Nat.le_refl _) _).setCell (p := ⟨w.heap.size, 1, none⟩) (Nat.le_refl _) _).setCell (p := ⟨w.heap.size, 2, none⟩) (Nat.le_refl _) _
    by_cases hlt : k < ps.length
    · obtain ⟨b1, o1, rfl, c1, c2, c3⟩ := mac_at (HL.out.rd.below' hb0) hlt
      have hg : getP (ps.drop k) t = if ps[k].1.1 = t then some ps[k] else getP (ps.drop (k + 1)) t := by
        rw [drop_at hlt]
        unfold getP
        rw [List.find?_cons]
        by_cases hc : ps[k].1.1 = t
        · rw [if_pos hc, show (ps[k].1.1 == t) = true by simpa using hc]
        · rw [if_neg hc, show (ps[k].1.1 == t) = false by simpa using hc]
      have hbody := HL.out.2 ps[k] (List.getElem_mem hlt)
      obtain ⟨⟨⟨nm, pm, bm⟩, bv⟩, hp⟩ : ∃ x, x = ps[k] := ⟨_, rfl⟩
      rw [← hp] at c1 c2 c3 hg hbody
      clear hp
      have hb1 : Rt wr bv bm := hbody.1.below' hb0
      have hb2 := hbody.1
      obtain ⟨ab, cb, rfl⟩ := hb1.shape
      by_cases hc : nm = t
      · have HG := Lib.hid (show getP ps t = some ((nm, pm, bm), .slice ab bm.length cb) by rw [HE.out, hg, if_pos hc])
        have hcb : (nm == t) = true := by simpa using hc
        have hsep : 0 < bm.length → ∀ j b, (Value.slice ab bm.length cb).ownBlock = some b → some b ≠ some (⟨w.heap.size, j, none⟩ : Addr).block := fun h0 j b hb e => by
          injection e with e
          have e : b = w.heap.size := e
          have := Rd.under hb2 h0 b hb
          omega
        have hrt : ∀ a b c, Rt (((wr.setCell ⟨w.heap.size, 0, none⟩ a).setCell ⟨w.heap.size, 1, none⟩ b).setCell ⟨w.heap.size, 2, none⟩ c) (.slice ab bm.length cb) bm := fun a b c =>
          ((hb1.apart (setCell_grown _ ⟨w.heap.size, 0, none⟩ _) fun h0 b hb => hsep h0 0 b hb).apart (setCell_grown _ ⟨w.heap.size, 1, none⟩ _) fun h0 b hb => hsep h0 1 b hb).apart (setCell_grown _ ⟨w.heap.size, 2, none⟩ _) fun h0 b hb => hsep h0 2 b hb
        clear hc hg hbody hb2 hsep
        have HRT := Lib.hid hrt
        have HST := Lib.hid hset
        clear hrt hset
        have HGG := Lib.hid (show gm = ((nm, pm, bm), true) by rw [HGM.out, HG.out]; rfl)
        go_wp2_with fail
        rw [HGG.out]
        exact bodyPost_ret (v := .tuple #[.agg #[.string (S nm), .int .i64 pm, .slice ab bm.length cb], .bool true]) (by simp [results, Try.results31, go_sem, x0, x1, x2]) rfl ⟨_, rfl, HRT.out _ _ _, HST.out _ _ _⟩
      · have HG := Lib.hid (show getP ps t = getP (ps.drop (k + 1)) t by rw [HE.out, hg, if_neg hc])
        have hcb : (nm == t) = false := by simpa using hc
        clear hc hg hset hbody
        go_wp2_with fail
        go_roundw
        case rel => exact ⟨k + 1, by omega, by go_num, HG, by first | exact rfl | trivial⟩
        case measure => simp [intOf]; omega
    · obtain rfl : k = ps.length := by omega
      have HG := Lib.hid (show getP ps t = none by rw [HE.out, List.drop_length]; rfl)
      have HST := Lib.hid hset
      clear hset
      have HGG := Lib.hid (show gm = (([], 0, []), false) by rw [HGM.out, HG.out]; rfl)
      go_wp2_with fail
      rw [HGG.out]
      exact bodyPost_ret (v := .tuple #[.agg #[.string (S []), .int .i64 0, .slice none 0 0], .bool false]) (by simp [results, Try.results31, go_sem, x0, x1, x2]) rfl ⟨_, rfl, ⟨rfl, .inl ⟨.inl rfl, rfl⟩⟩, HST.out _ _ _⟩

/-! ### Drop -/
def dropP (ps : List (Mac × Value)) (t : List UInt8) : List (Mac × Value) := ps.filter fun p => p.1.1 != t
theorem dropP_fst (ps : List (Mac × Value)) (t : List UInt8) : (dropP ps t).map Prod.fst = dropM (ps.map Prod.fst) t := by
  unfold dropP dropM
  rw [List.filter_map]; rfl
theorem dropP_snoc {ps : List (Mac × Value)} {k : Nat} (h : k < ps.length) (t : List UInt8) : dropP (ps.take (k + 1)) t = dropP (ps.take k) t ++ (if ps[k].1.1 = t then [] else [ps[k]]) := by
  unfold dropP
  rw [take_snoc ps k h, List.filter_append]
  congr 1
  by_cases hc : ps[k].1.1 = t
  · rw [if_pos hc, List.filter_cons, if_neg (by simp [hc])]; rfl
  · rw [if_neg hc, List.filter_cons, if_pos (by simp [hc])]; rfl
theorem dropP_le (ps : List (Mac × Value)) (t : List UInt8) : (dropP ps t).length ≤ ps.length := List.length_filter_le _ _
/-- What the call owns reads, over bodies that were there. -/
theorem rdM_of {w w' : World} {B T : Nat} {v v' : Value} {ps qs : List (Mac × Value)} (h : RdM w v ps) (hb : Below w.heap.size w w') (ho : w'.ownsRow B T 3 v' qs.length (mcs qs)) (hq : ∀ p ∈ qs, p ∈ ps) : RdM w' v' qs :=
  ⟨own_rd ho, fun p hp => ⟨(h.2 p (hq p hp)).1.below' hb, (h.2 p (hq p hp)).2⟩⟩

set_option maxRecDepth 20000 in
set_option maxHeartbeats 4000000 in
/-- 'Drop' of the reference. -/
theorem refMdrop_any (v : Value) (ps : List (Mac × Value)) (t : List UInt8) (w : World) (hl : RdM w v ps) (hlen : ps.length ≤ 1000000) :
    Calls Try.prog 26 #[v, .string (S t)] w fun e w' => ∃ v', e = .returned v' ∧ w'.ownsRow w.heap.size 63 3 v' (dropP ps t).length (mcs (dropP ps t)) ∧ Below w.heap.size w w' := by
  obtain ⟨a0, c0, rfl⟩ := hl.1.shape
  have HL := Lib.hid hl
  clear hl
  go_enter Try.func26, Try.ntmps26
  go_wp2_with fail
  go_loopw [5, 6] (fun v i wr => ∃ k : Nat, k ≤ ps.length ∧ i = .int .i64 k ∧ wr.ownsRow w.heap.size 63 3 v (dropP (ps.take k) t).length (mcs (dropP (ps.take k) t)) ∧ Below w.heap.size w wr) (fun _ i _ => ps.length - (intOf i).toNat)
  case atStart => exact ⟨0, Nat.zero_le _, rfl, World.ownsRow_made w #[] 0 (Nat.le_refl _) (by decide) rfl, (Below.refl _ _).alloc (Nat.le_refl _) _⟩
  case round =>
    obtain ⟨k, hk, rfl, hown, hbw⟩ := hrel
    have hsz := hbw.size
    by_cases hlt : k < ps.length
    · obtain ⟨b1, o1, rfl, c1, c2, c3⟩ := mac_at (HL.out.rd.below' hbw) hlt
      have HN := Lib.hid (dropP_snoc hlt t)
      have hln := dropP_le (ps.take k) t
      rw [List.length_take, Nat.min_eq_left hk] at hln
      have hbody := (HL.out.2 ps[k] (List.getElem_mem hlt)).1
      obtain ⟨⟨⟨nm, pm, bm⟩, bv⟩, hp⟩ : ∃ x, x = ps[k] := ⟨_, rfl⟩
      rw [← hp] at c1 c2 c3 HN hbody
      simp only at HN
      clear hp
      have hbody : Rt w bv bm := hbody
      obtain ⟨ab, cb, rfl⟩ := hbody.shape
      obtain ⟨out, hout⟩ : ∃ out, out = dropP (ps.take k) t := ⟨_, rfl⟩
      rw [← hout] at hown hln HN
      clear hout hbody
      by_cases hc : nm = t
      · have HX := Lib.hid (show dropP (ps.take (k + 1)) t = out by rw [HN.out, if_pos hc, List.append_nil])
        have hcb : (nm == t) = true := by simpa using hc
        clear hc
        go_wp2_with fail
        go_roundw
        case rel => exact ⟨k + 1, by omega, by go_num, (by rw [HX.out]; exact hown), hbw⟩
        case measure => simp [intOf]; omega
      · have HX := Lib.hid (show dropP (ps.take (k + 1)) t = out ++ [((nm, pm, bm), .slice ab bm.length cb)] by rw [HN.out, if_neg hc])
        have hcb : (nm == t) = false := by simpa using hc
        clear hc
        go_wp2_with (first | (at_builtin; refine wp_app tyMacR rfl _ _ rfl w.heap.size hown rfl rfl rfl rfl mc3_one (by omega) (by omega) hsz ?_; intro v3 w3 o3 b3 _) | fail)
        go_roundw
        case rel => exact ⟨k + 1, by omega, by go_num, (by rw [HX.out, mcs_snoc, List.length_append]; exact o3), hbw.trans b3⟩
        case measure => simp [intOf]; omega
    · obtain rfl : k = ps.length := by omega
      rw [List.take_length] at hown
      obtain ⟨a5, c5, rfl⟩ := own_shape hown
      go_wp2_with fail
      go_ret
      exact ⟨_, rfl, hown, hbw⟩

end Go.Proofs.Ytkpdhpbnbpjceaa
