/- Walks and plain laws, 4: The reference of the macro layer: Named, Get, Drop. No condition. The reference of the macro layer: Put, Same; the law's Ref, Refs. No condition. Maps of files, said on lists. No program in sight. No condition. Expansions, said on lists: what the program and the reference both compute; that it ends. No condition. Maps of files in memory; the same files, the same texts. No condition. Names of files, of the program and of the reference. No condition. Where a file is; the library's Clone of files. No condition. The program's expansion in memory. No condition. slices.Grow at none, slices.Concat of lists of tokens, walked. No condition. -/
import Derived.Test.YtjfikkjaifdkiaaGreatDoorTe3
import Derived.BigQuiet
import Derived.Deep.QuietTactic
import Derived.Test.YtjfikkjaifdkiaaGreatDoorProg
import Derived.Lib.AppendZeros
import Derived.Deep.LoopGhost
import Derived.Deep.CutBlock
import Derived.Deep.DeepCutAuto
namespace Go.Proofs.YtjfikkjaifdkiaaGreatDoor
open Go.RowKit

theorem tyMacR : SlTy Tryz.prog 67 107 3 48 := SlTy.mk' (z := .agg #[.string ⟨#[]⟩, .int .i64 0, .slice none 0 0]) Tryz.underlying67 (by kernel_rfl) rfl (by decide)
theorem mcs_snoc (a : List (Mac × Value)) (p : Mac × Value) : mcs (a ++ [p]) = mcs a ++ [.string (S p.1.1), .int .i64 p.1.2.1, p.2] := by simp [mcs, mc]
theorem mc3_one {a : ByteArray} {i : Int} {x : Option Addr} {n c : Nat} : ∀ u ∈ [Value.string a, .int .i64 i, .slice x n c], u.oneCell' = true := by
  intro u hu; simp at hu; rcases hu with rfl | rfl | rfl <;> rfl

theorem isL_int (c : UInt8) : Mx.isL c = decide ((97 ≤ (c.toNat : Int) ∧ (c.toNat : Int) ≤ 122) ∨ (65 ≤ (c.toNat : Int) ∧ (c.toNat : Int) ≤ 90)) := by
  have h : ∀ n : Fin 256, Mx.isL (UInt8.ofNat n.val) = decide ((97 ≤ (n.val : Int) ∧ (n.val : Int) ≤ 122) ∨ (65 ≤ (n.val : Int) ∧ (n.val : Int) ≤ 90)) := by decide +kernel
  have := h ⟨c.toNat, c.toNat_lt⟩
  simpa using this
theorem mnamed_bad {s : List UInt8} {k : Nat} (h : k < s.length) (hc : Mx.isL s[k] = false) : Mx.named s = false := by
  have h2 : s.all Mx.isL = false := by rw [List.all_eq_false]; exact ⟨s[k], List.getElem_mem h, by simp [hc]⟩
  rw [Mx.named, h2]; rfl
theorem mnamed_end {s : List UInt8} (h : s.all Mx.isL = true) : Mx.named s = (decide (1 ≤ s.length) && decide (s.length ≤ 20)) := by rw [Mx.named, h]; rfl

set_option maxHeartbeats 1600000 in
/-- 'Named' of the reference. -/
theorem refNamed_any (s : List UInt8) (hs : s.length ≤ 9223372036854775807) (w : World) :
    Calls Tryz.prog 113 #[.string (S s)] w fun e w' => e = .returned (.bool (Mx.named s)) ∧ w' = w := by
  go_enter Tryz.func113, Tryz.ntmps113
  go_wp2_with fail
  go_loop [3] (fun i => ∃ (k : Nat), k ≤ s.length ∧ i = .int .i64 k ∧ Hid ((s.take k).all Mx.isL = true)) (fun i => s.length - (intOf i).toNat)
  case atStart => exact ⟨0, Nat.zero_le _, rfl, rfl⟩
  case round =>
    obtain ⟨k, hk, rfl, HC⟩ := hrel
    by_cases hlt : k < s.length
    · have hL := isL_int s[k]
      have hbad : Mx.isL s[k] = false → Hid (Mx.named s = false) := fun h => Lib.hid (mnamed_bad hlt h)
      have hgood : Mx.isL s[k] = true → Hid ((s.take (k + 1)).all Mx.isL = true) := fun hc => Lib.hid (by rw [take_snoc s k hlt, List.all_append, HC.out]; simp [hc])
      obtain ⟨d, hd⟩ : ∃ d : Int, (s[k].toNat : Int) = d := ⟨_, rfl⟩
      have hx := hd
      rw [hd] at hL
      rcases (by omega : (97 ≤ d ∧ d ≤ 122) ∨ (65 ≤ d ∧ d ≤ 90) ∨ d < 65 ∨ (90 < d ∧ d < 97) ∨ 122 < d) with ⟨h1, h2⟩ | ⟨h1, h2⟩ | h1 | ⟨h1, h2⟩ | h1
      · skip
        have HN := hgood (by rw [hL]; first | decide | (simp only [decide_eq_true_eq]; omega))
        clear hL hbad hgood
        go_wp2_with fail
        go_round
        case rel => exact ⟨k + 1, by omega, by go_num, HN⟩
        case measure => simp [intOf]; omega
      · skip
        have f0 : decide (97 ≤ d) = false := by simp; omega
        have HN := hgood (by rw [hL]; first | decide | (simp only [decide_eq_true_eq]; omega))
        clear hL hbad hgood
        go_wp2_with fail
        go_round
        case rel => exact ⟨k + 1, by omega, by go_num, HN⟩
        case measure => simp [intOf]; omega
      · skip
        have f0 : decide (97 ≤ d) = false := by simp; omega
        have f1 : decide (65 ≤ d) = false := by simp; omega
        have HF := hbad (by rw [hL]; first | decide | (simp only [decide_eq_false_iff_not]; omega))
        clear hL hbad hgood
        go_wp2_with fail
        go_ret
        exact ⟨ret_bool HF.out.symm, rfl⟩
      · have g1 : 65 ≤ d := by omega
        have f0 : decide (97 ≤ d) = false := by simp; omega
        have f1 : decide (d ≤ 90) = false := by simp; omega
        have HF := hbad (by rw [hL]; first | decide | (simp only [decide_eq_false_iff_not]; omega))
        clear hL hbad hgood
        go_wp2_with fail
        go_ret
        exact ⟨ret_bool HF.out.symm, rfl⟩
      · have g1 : 65 ≤ d := by omega
        have g2 : 97 ≤ d := by omega
        have f0 : decide (d ≤ 122) = false := by simp; omega
        have f1 : decide (d ≤ 90) = false := by simp; omega
        have HF := hbad (by rw [hL]; first | decide | (simp only [decide_eq_false_iff_not]; omega))
        clear hL hbad hgood
        go_wp2_with fail
        go_ret
        exact ⟨ret_bool HF.out.symm, rfl⟩
    · obtain rfl : k = s.length := by omega
      have HN := Lib.hid (mnamed_end (s := s) (by have := HC.out; rwa [List.take_length] at this))
      cases h1 : decide ((1 : Int) ≤ (s.length : Int))
      · have HB := Lib.hid (show Mx.named s = false by
          have : ¬ (1 ≤ s.length) := by have := of_decide_eq_false h1; omega
          rw [HN.out, decide_eq_false this]; rfl)
        go_wp2_with fail
        go_ret
        exact ⟨ret_bool HB.out.symm, rfl⟩
      · cases h2 : decide ((s.length : Int) ≤ 20)
        · go_wp2_with fail
          go_ret
          exact ⟨ret_bool (by rw [HN.out]; simp at h1 h2 ⊢; omega), rfl⟩
        · go_wp2_with fail
          go_ret
          exact ⟨ret_bool (by rw [HN.out]; simp at h1 h2 ⊢; omega), rfl⟩

/-! ### Get -/
def getP (ps : List (Mac × Value)) (t : List UInt8) : Option (Mac × Value) := ps.find? fun p => p.1.1 == t
def optM : Option (Mac × Value) → Mac × Bool
  | some p => (p.1, true)
  | none => (([], 0, []), false)
theorem getP_fst (ps : List (Mac × Value)) (t : List UInt8) : getM (ps.map Prod.fst) t = optM (getP ps t) := by
  unfold getM getP
  rw [List.find?_map]
  have e : ((fun m : Mac => m.1 == t) ∘ Prod.fst : Mac × Value → Bool) = fun p => p.1.1 == t := rfl
  rw [e]
  cases (ps.find? fun p => p.1.1 == t) <;> rfl

set_option maxRecDepth 20000 in
set_option maxHeartbeats 4000000 in
/-- 'Get' of the reference. -/
theorem refMget_any (v : Value) (ps : List (Mac × Value)) (t : List UInt8) (w : World) (hl : RdM w v ps) (hlen : ps.length ≤ 1000000) :
    Calls Tryz.prog 49 #[v, .string (S t)] w fun e w' => ∃ bv, e = .returned (.tuple #[.agg #[.string (S (getM (ps.map Prod.fst) t).1.1), .int .i64 (getM (ps.map Prod.fst) t).1.2.1, bv], .bool (getM (ps.map Prod.fst) t).2]) ∧ Rt w' bv (getM (ps.map Prod.fst) t).1.2.2 ∧ Below w.heap.size w w' := by
  obtain ⟨a0, c0, rfl⟩ := hl.1.shape
  have HL := Lib.hid hl
  clear hl
  have hgm := getP_fst ps t
  obtain ⟨gm, hq⟩ : ∃ gm, gm = getM (ps.map Prod.fst) t := ⟨_, rfl⟩
  rw [← hq] at hgm ⊢
  have HGM := Lib.hid hgm
  clear hq hgm
  go_enter Tryz.func49, Tryz.ntmps49
  go_wp2_with fail
  obtain ⟨w0, hw0⟩ : ∃ w0, w0 = w.alloc (.cells #[.string (S []), .int .i64 0, .slice none 0 0] 107) := ⟨_, rfl⟩
  have hb0 : Below w.heap.size w w0 := by rw [hw0]; exact (Below.refl _ _).alloc (Nat.le_refl _) _
  have hg0 : w0.heap[w.heap.size]? = some (.cells #[.string (S []), .int .i64 0, .slice none 0 0] 107 (0, 0)) := by rw [hw0]; exact heap_alloc_new w _
  have hs0 := hb0.size
  have hl0 := row_lt hg0
  have HW := Lib.hid hw0
  clear hw0
  go_loopw [6] (fun i wr => ∃ k : Nat, k ≤ ps.length ∧ i = .int .i64 k ∧ Hid (getP ps t = getP (ps.drop k) t) ∧ wr = w0) (fun i _ => ps.length - (intOf i).toNat)
  case atStart => exact ⟨0, Nat.zero_le _, rfl, Lib.hid rfl, HW.out.symm⟩
  case round =>
    obtain ⟨k, hk, rfl, HE, rfl⟩ := hrel
    have x0 : wr.cell? ⟨w.heap.size, 0, none⟩ = some (.string (S [])) := row_cell hg0 0
    have x1 : wr.cell? ⟨w.heap.size, 1, none⟩ = some (.int .i64 0) := row_cell hg0 1
    have x2 : wr.cell? ⟨w.heap.size, 2, none⟩ = some (.slice none 0 0) := row_cell hg0 2
    have y0 := row_free hg0 0
    have y1 := row_free hg0 1
    have y2 := row_free hg0 2
    have hset : ∀ a b c, Below w.heap.size w (((wr.setCell ⟨w.heap.size, 0, none⟩ a).setCell ⟨w.heap.size, 1, none⟩ b).setCell ⟨w.heap.size, 2, none⟩ c) := fun a b c => ((hb0.setCell (p := ⟨w.heap.size, 0, none⟩) (Nat.le_refl _) _).setCell (p := ⟨w.heap.size, 1, none⟩) (Nat.le_refl _) _).setCell (p := ⟨w.heap.size, 2, none⟩) (Nat.le_refl _) _
    by_cases hlt : k < ps.length
    · obtain ⟨b1, o1, rfl, c1, c2, c3⟩ := mac_at (HL.out.rd.below' hb0) hlt
      have hg : getP (ps.drop k) t = if ps[k].1.1 = t then some ps[k] else getP (ps.drop (k + 1)) t := by
        rw [drop_at hlt]
        unfold getP
        rw [List.find?_cons]
        by_cases hc : ps[k].1.1 = t
        · rw [if_pos hc, show (ps[k].1.1 == t) = true by simpa using hc]
        · rw [if_neg hc, show (ps[k].1.1 == t) = false by simpa using hc]
      have hbody := HL.out.2 ps[k] (List.getElem_mem hlt)
      obtain ⟨⟨⟨nm, pm, bm⟩, bv⟩, hp⟩ : ∃ x, x = ps[k] := ⟨_, rfl⟩
      rw [← hp] at c1 c2 c3 hg hbody
      clear hp
      have hb1 : Rt wr bv bm := hbody.1.below' hb0
      have hb2 := hbody.1
      obtain ⟨ab, cb, rfl⟩ := hb1.shape
      by_cases hc : nm = t
      · have HG := Lib.hid (show getP ps t = some ((nm, pm, bm), .slice ab bm.length cb) by rw [HE.out, hg, if_pos hc])
        have hcb : (nm == t) = true := by simpa using hc
        have hsep : 0 < bm.length → ∀ j b, (Value.slice ab bm.length cb).ownBlock = some b → some b ≠ some (⟨w.heap.size, j, none⟩ : Addr).block := fun h0 j b hb e => by
          injection e with e
          have e : b = w.heap.size := e
          have := Rd.under hb2 h0 b hb
          omega
        have hrt : ∀ a b c, Rt (((wr.setCell ⟨w.heap.size, 0, none⟩ a).setCell ⟨w.heap.size, 1, none⟩ b).setCell ⟨w.heap.size, 2, none⟩ c) (.slice ab bm.length cb) bm := fun a b c =>
          ((hb1.apart (setCell_grown _ ⟨w.heap.size, 0, none⟩ _) fun h0 b hb => hsep h0 0 b hb).apart (setCell_grown _ ⟨w.heap.size, 1, none⟩ _) fun h0 b hb => hsep h0 1 b hb).apart (setCell_grown _ ⟨w.heap.size, 2, none⟩ _) fun h0 b hb => hsep h0 2 b hb
        clear hc hg hbody hb2 hsep
        have HRT := Lib.hid hrt
        have HST := Lib.hid hset
        clear hrt hset
        have HGG := Lib.hid (show gm = ((nm, pm, bm), true) by rw [HGM.out, HG.out]; rfl)
        go_wp2_with fail
        rw [HGG.out]
        exact bodyPost_ret (v := .tuple #[.agg #[.string (S nm), .int .i64 pm, .slice ab bm.length cb], .bool true]) (by simp [results, Tryz.results49, go_sem, x0, x1, x2]) rfl ⟨_, rfl, HRT.out _ _ _, HST.out _ _ _⟩
      · have HG := Lib.hid (show getP ps t = getP (ps.drop (k + 1)) t by rw [HE.out, hg, if_neg hc])
        have hcb : (nm == t) = false := by simpa using hc
        clear hc hg hset hbody
        go_wp2_with fail
        go_roundw
        case rel => exact ⟨k + 1, by omega, by go_num, HG, by first | exact rfl | trivial⟩
        case measure => simp [intOf]; omega
    · obtain rfl : k = ps.length := by omega
      have HG := Lib.hid (show getP ps t = none by rw [HE.out, List.drop_length]; rfl)
      have HST := Lib.hid hset
      clear hset
      have HGG := Lib.hid (show gm = (([], 0, []), false) by rw [HGM.out, HG.out]; rfl)
      go_wp2_with fail
      rw [HGG.out]
      exact bodyPost_ret (v := .tuple #[.agg #[.string (S []), .int .i64 0, .slice none 0 0], .bool false]) (by simp [results, Tryz.results49, go_sem, x0, x1, x2]) rfl ⟨_, rfl, ⟨rfl, .inl ⟨.inl rfl, rfl⟩⟩, HST.out _ _ _⟩

/-! ### Drop -/
def dropP (ps : List (Mac × Value)) (t : List UInt8) : List (Mac × Value) := ps.filter fun p => p.1.1 != t
theorem dropP_fst (ps : List (Mac × Value)) (t : List UInt8) : (dropP ps t).map Prod.fst = dropM (ps.map Prod.fst) t := by
  unfold dropP dropM
  rw [List.filter_map]; rfl
theorem dropP_snoc {ps : List (Mac × Value)} {k : Nat} (h : k < ps.length) (t : List UInt8) : dropP (ps.take (k + 1)) t = dropP (ps.take k) t ++ (if ps[k].1.1 = t then [] else [ps[k]]) := by
  unfold dropP
  rw [take_snoc ps k h, List.filter_append]
  congr 1
  by_cases hc : ps[k].1.1 = t
  · rw [if_pos hc, List.filter_cons, if_neg (by simp [hc])]; rfl
  · rw [if_neg hc, List.filter_cons, if_pos (by simp [hc])]; rfl
theorem dropP_le (ps : List (Mac × Value)) (t : List UInt8) : (dropP ps t).length ≤ ps.length := List.length_filter_le _ _
/-- What the call owns reads, over bodies that were there. -/
theorem rdM_of {w w' : World} {B T : Nat} {v v' : Value} {ps qs : List (Mac × Value)} (h : RdM w v ps) (hb : Below w.heap.size w w') (ho : w'.ownsRow B T 3 v' qs.length (mcs qs)) (hq : ∀ p ∈ qs, p ∈ ps) : RdM w' v' qs :=
  ⟨own_rd ho, fun p hp => ⟨(h.2 p (hq p hp)).1.below' hb, (h.2 p (hq p hp)).2⟩⟩

set_option maxRecDepth 20000 in
set_option maxHeartbeats 4000000 in
/-- 'Drop' of the reference. -/
theorem refMdrop_any (v : Value) (ps : List (Mac × Value)) (t : List UInt8) (w : World) (hl : RdM w v ps) (hlen : ps.length ≤ 1000000) :
    Calls Tryz.prog 52 #[v, .string (S t)] w fun e w' => ∃ v', e = .returned v' ∧ w'.ownsRow w.heap.size 107 3 v' (dropP ps t).length (mcs (dropP ps t)) ∧ Below w.heap.size w w' := by
  obtain ⟨a0, c0, rfl⟩ := hl.1.shape
  have HL := Lib.hid hl
  clear hl
  go_enter Tryz.func52, Tryz.ntmps52
  go_wp2_with fail
  go_loopw [5, 6] (fun v i wr => ∃ k : Nat, k ≤ ps.length ∧ i = .int .i64 k ∧ wr.ownsRow w.heap.size 107 3 v (dropP (ps.take k) t).length (mcs (dropP (ps.take k) t)) ∧ Below w.heap.size w wr) (fun _ i _ => ps.length - (intOf i).toNat)
  case atStart => exact ⟨0, Nat.zero_le _, rfl, World.ownsRow_made w #[] 0 (Nat.le_refl _) (by decide) rfl, (Below.refl _ _).alloc (Nat.le_refl _) _⟩
  case round =>
    obtain ⟨k, hk, rfl, hown, hbw⟩ := hrel
    have hsz := hbw.size
    by_cases hlt : k < ps.length
    · obtain ⟨b1, o1, rfl, c1, c2, c3⟩ := mac_at (HL.out.rd.below' hbw) hlt
      have HN := Lib.hid (dropP_snoc hlt t)
      have hln := dropP_le (ps.take k) t
      rw [List.length_take, Nat.min_eq_left hk] at hln
      have hbody := (HL.out.2 ps[k] (List.getElem_mem hlt)).1
      obtain ⟨⟨⟨nm, pm, bm⟩, bv⟩, hp⟩ : ∃ x, x = ps[k] := ⟨_, rfl⟩
      rw [← hp] at c1 c2 c3 HN hbody
      simp only at HN
      clear hp
      have hbody : Rt w bv bm := hbody
      obtain ⟨ab, cb, rfl⟩ := hbody.shape
      obtain ⟨out, hout⟩ : ∃ out, out = dropP (ps.take k) t := ⟨_, rfl⟩
      rw [← hout] at hown hln HN
      clear hout hbody
      by_cases hc : nm = t
      · have HX := Lib.hid (show dropP (ps.take (k + 1)) t = out by rw [HN.out, if_pos hc, List.append_nil])
        have hcb : (nm == t) = true := by simpa using hc
        clear hc
        go_wp2_with fail
        go_roundw
        case rel => exact ⟨k + 1, by omega, by go_num, (by rw [HX.out]; exact hown), hbw⟩
        case measure => simp [intOf]; omega
      · have HX := Lib.hid (show dropP (ps.take (k + 1)) t = out ++ [((nm, pm, bm), .slice ab bm.length cb)] by rw [HN.out, if_neg hc])
        have hcb : (nm == t) = false := by simpa using hc
        clear hc
        go_wp2_with (first | (at_builtin; refine wp_app tyMacR rfl _ _ rfl w.heap.size hown rfl rfl rfl rfl mc3_one (by omega) (by omega) hsz ?_; intro v3 w3 o3 b3 _) | fail)
        go_roundw
        case rel => exact ⟨k + 1, by omega, by go_num, (by rw [HX.out, mcs_snoc, List.length_append]; exact o3), hbw.trans b3⟩
        case measure => simp [intOf]; omega
    · obtain rfl : k = ps.length := by omega
      rw [List.take_length] at hown
      obtain ⟨a5, c5, rfl⟩ := own_shape hown
      go_wp2_with fail
      go_ret
      exact ⟨_, rfl, hown, hbw⟩

end Go.Proofs.YtjfikkjaifdkiaaGreatDoor

namespace Go.Proofs.YtjfikkjaifdkiaaGreatDoor
open Go.RowKit

theorem contains_at {α : Type} {l : List (List UInt8 × α)} (h : Sorted (l.map Prod.fst)) (t : List UInt8) : (l.map Prod.fst).contains t = decide (∃ hx : lb (l.map Prod.fst) t < l.length, l[lb (l.map Prod.fst) t].1 = t) := by
  rw [← lb_is h]
  by_cases hx : lb (l.map Prod.fst) t < l.length
  · rw [List.getElem?_eq_getElem (by simpa using hx), List.getElem_map]
    by_cases e : l[lb (l.map Prod.fst) t].1 = t
    · simp [e, hx]
    · simp [e]
  · rw [List.getElem?_eq_none (by simpa using hx)]
    simp [hx]
theorem sorted_dropM {l : List Mac} (h : Sorted (l.map Prod.fst)) (t : List UInt8) : Sorted ((dropM l t).map Prod.fst) := by
  unfold Sorted at h ⊢
  unfold dropM
  exact h.sublist ((List.filter_sublist (l := l) (p := fun f => f.1 != t)).map _)
theorem dropM_len (l : List Mac) (t : List UInt8) : decide ((dropM l t).length = l.length) = !(l.map Prod.fst).contains t := by
  cases hq : (l.map Prod.fst).contains t
  · rw [dropM_none hq]; simp
  · rw [Bool.not_true, decide_eq_false_iff_not]
    unfold dropM
    intro h
    have := List.length_filter_eq_length_iff.1 h
    rw [List.contains_iff_mem] at hq
    obtain ⟨f, hf, e⟩ := List.mem_map.1 hq
    have h2 := this f hf
    simp [e] at h2
theorem putL_refM {l : List Mac} (h : Sorted (l.map Prod.fst)) (f : Mac) {n : Nat} (hn : n = lb ((dropM l f.1).map Prod.fst) f.1) : (dropM l f.1).take n ++ f :: (dropM l f.1).drop n = putL l f := by
  unfold putL
  have hat := contains_at h f.1
  cases hq : (l.map Prod.fst).contains f.1
  · rw [dropM_none hq] at hn ⊢
    rw [hn]; rfl
  · rw [hq] at hat
    obtain ⟨hr, e⟩ := of_decide_eq_true hat.symm
    obtain ⟨r, hrr⟩ : ∃ r, r = lb (l.map Prod.fst) f.1 := ⟨_, rfl⟩
    have hd : dropM l f.1 = l.take (lb (l.map Prod.fst) f.1) ++ l.drop (lb (l.map Prod.fst) f.1 + 1) := dropM_at h hr e
    have hp := List.pairwise_iff_getElem.1 h
    have hlbr : lb ((dropM l f.1).map Prod.fst) f.1 = lb (l.map Prod.fst) f.1 := by
      have hdl : (dropM l f.1).length = l.length - 1 := by rw [hd, List.length_append, List.length_take, List.length_drop]; omega
      refine lb_eq (by rw [List.length_map, hdl]; omega) (fun x hx hxr => ?_) (fun hx => ?_)
      · rw [List.length_map] at hx
        rw [List.getElem_map]
        have e2 : (dropM l f.1)[x] = l[x]'(by omega) := by
          simp only [hd]
          rw [List.getElem_append_left (by rw [List.length_take]; omega), List.getElem_take]
        rw [e2]
        have := hp x (lb (l.map Prod.fst) f.1) (by rw [List.length_map]; omega) (by rw [List.length_map]; omega) hxr
        rw [List.getElem_map, List.getElem_map, e] at this
        exact this
      · rw [List.length_map] at hx
        rw [List.getElem_map]
        have e2 : (dropM l f.1)[lb (l.map Prod.fst) f.1] = l[lb (l.map Prod.fst) f.1 + 1]'(by omega) := by
          simp only [hd]
          rw [List.getElem_append_right (by rw [List.length_take]; omega), List.getElem_drop]
          congr 1
          rw [List.length_take]; omega
        rw [e2]
        have := hp (lb (l.map Prod.fst) f.1) (lb (l.map Prod.fst) f.1 + 1) (by rw [List.length_map]; omega) (by rw [List.length_map]; omega) (by omega)
        rw [List.getElem_map, List.getElem_map, e] at this
        rw [cb_swap]
        omega
    rw [hlbr] at hn
    rw [hn, hd]
    have hl1 : (l.take (lb (l.map Prod.fst) f.1)).length = lb (l.map Prod.fst) f.1 := by rw [List.length_take]; omega
    rw [List.take_append_of_le_length (by omega), List.take_of_length_le (by omega), List.drop_append_of_le_length (by omega), List.drop_eq_nil_of_le (by omega), List.nil_append]
    rw [if_pos rfl, List.set_eq_take_append_cons_drop, if_pos hr]

theorem mcs_sub {ps qs : List (Mac × Value)} (h : ∀ p ∈ qs, p ∈ ps) : ∀ u ∈ mcs qs, u ∈ mcs ps := by
  intro u hu
  obtain ⟨p, hp, h2⟩ := List.mem_flatMap.1 hu
  exact List.mem_flatMap.2 ⟨p, h p hp, h2⟩
/-- The macros from a place on. -/
theorem rm_tail {w : World} {b o n c k : Nat} {ps : List (Mac × Value)} (h : Rd w 3 (.slice (some ⟨b, o, none⟩) n c) ps.length (mcs ps)) (hk : k < ps.length) : Rd w 3 (.slice (some ⟨b, o + k * 3, none⟩) (ps.length - k) (c - k)) (ps.length - k) (mcs (ps.drop k)) := by
  have hc := Rd.cap h
  obtain ⟨a, c', e⟩ := h.shape
  cases e
  refine ⟨by rw [mcs_length, List.length_drop], ?_⟩
  rcases h.2 with ⟨_, h2⟩ | ⟨b', o', cap, hv, hlt, hcell, _⟩
  · omega
  · cases hv
    refine .inr ⟨b, o + k * 3, c - k, rfl, fun _ => hlt (by omega), fun j u hj => ?_, by omega⟩
    rw [← (mcs_take ps k (by omega)).2, List.getElem?_drop] at hj
    rw [Nat.add_assoc]
    exact hcell _ _ hj

set_option maxRecDepth 20000 in
set_option maxHeartbeats 4000000 in
/-- 'Put' of the reference. -/
theorem refMput_any (v bv : Value) (ps : List (Mac × Value)) (m : Mac) (w : World) (hl : RdM w v ps) (hb : Rt w bv m.2.2) (hlen : ps.length ≤ 100000) (hs : Sorted ((ps.map Prod.fst).map Prod.fst)) (hf : m.1.length ≤ 9223372036854775807) :
    Calls Tryz.prog 88 #[v, .agg #[.string (S m.1), .int .i64 m.2.1, bv]] w fun e w' => ∃ v' qs, e = .returned (.tuple #[v', .int .i64 (putM (ps.map Prod.fst) m).2]) ∧ qs.map Prod.fst = (putM (ps.map Prod.fst) m).1 ∧ (∀ p ∈ qs, p ∈ ps ∨ p = (m, bv)) ∧ w'.ownsRow w.heap.size 107 3 v' qs.length (mcs qs) ∧ Below w.heap.size w w' := by
  have hPL := putL_refM hs m rfl
  have hDL := dropM_len (ps.map Prod.fst) m.1
  rw [← dropP_fst] at hPL hDL
  rw [List.length_map, List.length_map] at hDL
  obtain ⟨nm, pm, bm⟩ := m
  simp only at hf hPL hDL
  have hmem : ∀ p ∈ dropP ps nm, p ∈ ps := fun p hp => (List.mem_filter.1 hp).1
  have HR := Lib.hid hl
  obtain ⟨a0, c0, rfl⟩ := hl.1.shape
  obtain ⟨ab, cb, rfl⟩ := hb.shape
  clear hl hb
  obtain ⟨w0, hw0⟩ : ∃ w0, w0 = w.alloc (.cells #[.string (S nm), .int .i64 pm, .slice ab bm.length cb] 107) := ⟨_, rfl⟩
  have hb0 : Below w.heap.size w w0 := by rw [hw0]; exact (Below.refl _ _).alloc (Nat.le_refl _) _
  have hg0 : w0.heap[w.heap.size]? = some (.cells #[.string (S nm), .int .i64 pm, .slice ab bm.length cb] 107 (0, 0)) := by rw [hw0]; exact heap_alloc_new w _
  have hs0 := hb0.size
  have x0 : w0.cell? ⟨w.heap.size, 0, none⟩ = some (.string (S nm)) := row_cell hg0 0
  have x1 : w0.cell? ⟨w.heap.size, 1, none⟩ = some (.int .i64 pm) := row_cell hg0 1
  have HDR := Lib.hid (refMdrop_any _ ps nm w0 (HR.out.below' hb0) (by omega))
  have hpt : putM (ps.map Prod.fst) (nm, pm, bm) = if Mx.named nm = false then ([], 2) else if pm < 0 ∨ 9 < pm then ([], 1) else if ((ps.map Prod.fst).map Prod.fst).contains nm = false ∧ 40 ≤ ps.length then ([], 3) else (putL (ps.map Prod.fst) (nm, pm, bm), 0) := by
    unfold putM; rw [List.length_map]
  have hrl := dropP_le ps nm
  obtain ⟨rest, hrest⟩ : ∃ rest, rest = dropP ps nm := ⟨_, rfl⟩
  rw [← hrest] at HDR hPL hrl hDL hmem
  obtain ⟨q, hq⟩ : ∃ q, q = ((ps.map Prod.fst).map Prod.fst).contains nm := ⟨_, rfl⟩
  rw [← hq] at hDL hpt
  have HPL := Lib.hid hPL
  have HPT := Lib.hid hpt
  have HME := Lib.hid hmem
  have HN := Lib.hid (fun w => refNamed_any nm hf w)
  obtain ⟨isn, hisn⟩ : ∃ b, b = Mx.named nm := ⟨_, rfl⟩
  rw [← hisn] at HN HPT
  have HW := Lib.hid hw0
  have hrq : ((rest.length : Int) == (ps.length : Int)) = !q := by
    rw [← hDL]
    by_cases h : rest.length = ps.length
    · simp [h]
    · rw [decide_eq_false h]; simp; omega
  clear hrest hq hpt hisn hw0 hs hPL hmem hDL
  cases isn
  · have HX := Lib.hid (show putM (ps.map Prod.fst) (nm, pm, bm) = ([], 2) from HPT.out)
    rw [HX.out]
    clear hrq
    go_enter Tryz.func88, Tryz.ntmps88
    go_wp2_with fail
    rw [← HW.out]
    (with_reducible refine (HN.out _).mono ?_); rintro e w3 ⟨rfl, rfl⟩
    go_wp2_with fail
    go_ret2
    exact ⟨_, [], rfl, rfl, by simp, World.ownsRow_nil _ _ _ _, hb0⟩
  · by_cases hbad : pm < 0 ∨ 9 < pm
    · have HX := Lib.hid (show putM (ps.map Prod.fst) (nm, pm, bm) = ([], 1) by rw [HPT.out, if_neg (by simp), if_pos hbad])
      rw [HX.out]
      clear hrq
      have hdis : pm < 0 ∨ (decide (pm < 0) = false ∧ 9 < pm) := by
        by_cases h : pm < 0
        · exact .inl h
        · exact .inr ⟨by simpa using h, by omega⟩
      clear hbad
      rcases hdis with hd | ⟨hd, hd2⟩
      all_goals (
        go_enter Tryz.func88, Tryz.ntmps88
        go_wp2_with fail
        rw [← HW.out]
        (with_reducible refine (HN.out _).mono ?_); rintro e w3 ⟨rfl, rfl⟩
        go_wp2_with fail
        go_ret2
        exact ⟨_, [], rfl, rfl, by simp, World.ownsRow_nil _ _ _ _, hb0⟩)
    · have hd1 : decide (pm < 0) = false := by simp; omega
      have hd2 : decide (9 < pm) = false := by simp; omega
      go_enter Tryz.func88, Tryz.ntmps88
      go_wp2_with fail
      rw [← HW.out]
      (with_reducible refine (HN.out _).mono ?_); rintro e w3 ⟨rfl, rfl⟩
      go_wp2_with fail
      (with_reducible refine HDR.out.mono ?_); rintro e w4 ⟨v4, rfl, o4, b4⟩
      have hg4 := (b4.block _ (row_lt hg0)).trans hg0
      have B4 := hb0.trans (b4.mono hs0)
      have RR := Lib.hid (own_rd o4)
      clear x0 x1 HDR
      by_cases hfull : q = false ∧ 40 ≤ ps.length
      · have HX := Lib.hid (show putM (ps.map Prod.fst) (nm, pm, bm) = ([], 3) by rw [HPT.out, if_neg (by simp), if_neg hbad, if_pos hfull])
        obtain ⟨rfl, hf40⟩ := hfull
        have hfi : (40 : Int) ≤ (ps.length : Int) := by omega
        obtain ⟨a4, c4, rfl⟩ := own_shape o4
        have hrq : ((rest.length : Int) == (ps.length : Int)) = true := hrq
        clear hbad
        go_wp2_with fail
        go_ret2
        rw [HX.out]
        exact ⟨_, [], rfl, rfl, by simp, World.ownsRow_nil _ _ _ _, B4⟩
      · have HX := Lib.hid (show putM (ps.map Prod.fst) (nm, pm, bm) = (putL (ps.map Prod.fst) (nm, pm, bm), 0) by rw [HPT.out, if_neg (by simp), if_neg hbad, if_neg hfull])
        have hfq : (q = true ∧ ((rest.length : Int) == (ps.length : Int)) = false) ∨ (((rest.length : Int) == (ps.length : Int)) = true ∧ decide ((40 : Int) ≤ (ps.length : Int)) = false) := by
          cases q
          · right; exact ⟨hrq, by simp at hfull ⊢; omega⟩
          · left; exact ⟨rfl, hrq⟩
        obtain ⟨a4, c4, rfl⟩ := own_shape o4
        clear hrq hbad hfull
        rcases hfq with ⟨rfl, hq1⟩ | ⟨hq1, hq2⟩
        all_goals (
          go_wp2_with fail
          go_loopw [7, 8] (fun v i wr => ∃ k : Nat, k ≤ rest.length ∧ i = .int .i64 k ∧ wr.ownsRow w4.heap.size 107 3 v (rest.take k).length (mcs (rest.take k)) ∧ Hid (∀ x (h : x < ((rest.map Prod.fst).map Prod.fst).length), x < k → Lib.compareBytes ((rest.map Prod.fst).map Prod.fst)[x] nm < 0) ∧ Below w4.heap.size w4 wr) (fun _ i _ => rest.length - (intOf i).toNat)
          case atStart => exact ⟨0, Nat.zero_le _, rfl, World.ownsRow_made w4 #[] 0 (Nat.le_refl _) (by decide) rfl, Lib.hid (fun x _ h => by omega), (Below.refl _ _).alloc (Nat.le_refl _) _⟩
          case round =>
            obtain ⟨k, hk, rfl, hown, HLT, hbw⟩ := hrel
            have hsz := hbw.size
            have hg5 := (hbw.block _ (row_lt hg4)).trans hg4
            have z0 : wr.cell? ⟨w.heap.size, 0, none⟩ = some (.string (S nm)) := row_cell hg5 0
            have z1 : wr.cell? ⟨w.heap.size, 1, none⟩ = some (.int .i64 pm) := row_cell hg5 1
            have z2 : wr.cell? ⟨w.heap.size, 2, none⟩ = some (.slice ab bm.length cb) := row_cell hg5 2
            have B5 := B4.trans (hbw.mono B4.size)
            by_cases hlt : k < rest.length
            · obtain ⟨b1, o1, rfl, c10, c11, c12⟩ := mac_at (RR.out.below' hbw) hlt
              have hnk : ((rest.map Prod.fst).map Prod.fst)[k]'(by simpa using hlt) = rest[k].1.1 := by simp
              have HTS := Lib.hid (take_snoc rest k hlt)
              have hbody := (HR.out.2 rest[k] (HME.out _ (List.getElem_mem hlt))).1
              obtain ⟨⟨⟨n2, p2, t2⟩, bv2⟩, hx⟩ : ∃ x, x = rest[k] := ⟨_, rfl⟩
              rw [← hx] at c10 c11 c12 hnk HTS hbody
              simp only at hnk
              have hbody : Rt w bv2 t2 := hbody
              obtain ⟨ab2, cb2, rfl⟩ := hbody.shape
              clear hx hbody
              have hln : (rest.take k).length = k := by rw [List.length_take]; omega
              have hkl : (k : Int) < (rest.length : Int) := by omega
              have hk0 : (0 : Int) ≤ (k : Int) := by omega
              cases hless : Op.bytesLess n2 nm
              · have HLB := Lib.hid (show k = lb ((rest.map Prod.fst).map Prod.fst) nm from (lb_eq (by simp; omega) HLT.out (fun hh => by
                  rw [hnk]
                  rw [less_is] at hless
                  exact of_decide_eq_false hless)).symm)
                clear hnk
                go_wp2_with fail
                go_quiet (fail)
                obtain ⟨W, hW⟩ : ∃ W, W = wr.drewN nq := ⟨_, rfl⟩
                have oW : W.ownsRow w4.heap.size 107 3 u7 (rest.take k).length (mcs (rest.take k)) := by rw [hW]; exact own_drewN hown _
                have BW : Below w4.heap.size w4 W := by rw [hW]; exact below_drewN hbw _
                have y5 : W.cell? ⟨w.heap.size, 0, none⟩ = some (.string (S nm)) := by rw [hW]; exact z0
                have y6 : W.cell? ⟨w.heap.size, 1, none⟩ = some (.int .i64 pm) := by rw [hW]; exact z1
                have y7 : W.cell? ⟨w.heap.size, 2, none⟩ = some (.slice ab bm.length cb) := by rw [hW]; exact z2
                rw [← hW]
                clear hW c10 c11 c12 z0 z1 z2 hown hbw
                rw [hln] at oW
                have hcap := Rd.cap RR.out
                have hck : ¬ (c4 = k) := by omega
                obtain ⟨a8, c8, hu8⟩ := own_shape oW
                subst hu8
                have hk9 : (k : Int) ≤ (rest.length : Int) := by omega
                have hone2 : ∀ u ∈ mcs (rest.drop k), u.oneCell' = true := fun u hu => HR.out.one u (mcs_sub (fun p hp => HME.out p (List.mem_of_mem_drop hp)) u hu)
                go_wp2_with (first
                  | (at_builtin; refine wp_app tyMacR rfl _ _ rfl w4.heap.size oW rfl rfl rfl rfl mc3_one (by omega) (by omega) BW.size ?_; intro v6 w6 o6 b6 _; have B6 := BW.trans b6; have r6 := RR.out.below' B6; clear b6)
                  | (at_builtin; refine wp_app_all tyMacR (m := rest.length - k) (news := mcs (rest.drop k)) rfl _ _ rfl w4.heap.size o6 (rm_tail r6 hlt) rfl rfl hone2 (by omega) (by omega) B6.size ?_; intro v7 w7 o7 b7 _)
                  | fail)
                go_ret2
                rw [HX.out]
                refine ⟨_, rest.take k ++ ((nm, pm, bm), .slice ab bm.length cb) :: rest.drop k, rfl, ?_, ?_, ?_, B4.trans ((B6.trans b7).mono B4.size)⟩
                · rw [← HPL.out, ← HLB.out]; simp
                · intro p hp
                  rcases List.mem_append.1 hp with h | h
                  · exact .inl (HME.out p (List.mem_of_mem_take h))
                  · rcases List.mem_cons.1 h with h | h
                    · exact .inr h
                    · exact .inl (HME.out p (List.mem_of_mem_drop h))
                · have hpl : (rest.take k ++ ((nm, pm, bm), Value.slice ab bm.length cb) :: rest.drop k).length = k + 1 + (rest.length - k) := by simp only [List.length_append, List.length_cons, List.length_drop, hln]; omega
                  rw [hpl, mc_mid]
                  exact own_mono o7 B4.size
              · have HL2 := Lib.hid (show ∀ x (h : x < ((rest.map Prod.fst).map Prod.fst).length), x < k + 1 → Lib.compareBytes ((rest.map Prod.fst).map Prod.fst)[x] nm < 0 by
                  intro x h hxk
                  by_cases e : x = k
                  · subst e
                    rw [hnk]
                    rw [less_is] at hless
                    exact of_decide_eq_true hless
                  · exact HLT.out x h (by omega))
                clear hnk
                go_wp2_with fail
                go_quiet (fail)
                obtain ⟨W, hW⟩ : ∃ W, W = wr.drewN nq := ⟨_, rfl⟩
                have oW : W.ownsRow w4.heap.size 107 3 u7 (rest.take k).length (mcs (rest.take k)) := by rw [hW]; exact own_drewN hown _
                have BW : Below w4.heap.size w4 W := by rw [hW]; exact below_drewN hbw _
                have y5 : W.cell? ⟨b1, o1 + k * 3, none⟩ = some (.string (S n2)) := by rw [hW]; exact c10
                have y6 : W.cell? ⟨b1, o1 + k * 3 + 1, none⟩ = some (.int .i64 p2) := by rw [hW]; exact c11
                have y7 : W.cell? ⟨b1, o1 + k * 3 + 2, none⟩ = some (.slice ab2 t2.length cb2) := by rw [hW]; exact c12
                rw [← hW]
                clear hW c10 c11 c12 z0 z1 z2 hown hbw
                go_wp2_with (first
                  | (at_builtin; refine wp_app tyMacR rfl _ _ rfl w4.heap.size oW rfl rfl rfl rfl mc3_one (by omega) (by omega) BW.size ?_; intro v6 w6 o6 b6 _)
                  | fail)
                go_roundw
                case rel => exact ⟨k + 1, by omega, by go_num, (by rw [HTS.out, mcs_snoc, List.length_append]; exact o6), HL2, BW.trans b6⟩
                case measure => simp [intOf]; omega
            · obtain rfl : k = rest.length := by omega
              have HLB := Lib.hid (show rest.length = lb ((rest.map Prod.fst).map Prod.fst) nm from (lb_eq (by simp) HLT.out (fun hh => by simp at hh)).symm)
              rw [List.take_length] at hown
              have hno : decide ((rest.length : Int) < (rest.length : Int)) = false := by simp
              go_wp2_with fail
              go_quiet (fail)
              obtain ⟨W, hW⟩ : ∃ W, W = wr.drewN nq := ⟨_, rfl⟩
              have oW : W.ownsRow w4.heap.size 107 3 u7 rest.length (mcs rest) := by rw [hW]; exact own_drewN hown _
              have BW : Below w4.heap.size w4 W := by rw [hW]; exact below_drewN hbw _
              have y5 : W.cell? ⟨w.heap.size, 0, none⟩ = some (.string (S nm)) := by rw [hW]; exact z0
              have y6 : W.cell? ⟨w.heap.size, 1, none⟩ = some (.int .i64 pm) := by rw [hW]; exact z1
              have y7 : W.cell? ⟨w.heap.size, 2, none⟩ = some (.slice ab bm.length cb) := by rw [hW]; exact z2
              rw [← hW]
              clear hW z0 z1 z2 hown hbw
              obtain ⟨a8, c8, hu8⟩ := own_shape oW
              subst hu8
              have HFIN := Lib.hid (show (rest ++ [((nm, pm, bm), Value.slice ab bm.length cb)]).map Prod.fst = putL (ps.map Prod.fst) (nm, pm, bm) ∧ ∀ p ∈ rest ++ [((nm, pm, bm), Value.slice ab bm.length cb)], p ∈ ps ∨ p = ((nm, pm, bm), Value.slice ab bm.length cb) from ⟨by
                rw [← HPL.out, ← HLB.out, List.take_of_length_le (by simp), List.drop_eq_nil_of_le (by simp)]; simp, fun p hp => by
                rcases List.mem_append.1 hp with h | h
                · exact .inl (HME.out p h)
                · exact .inr (by simpa using h)⟩)
              rcases o4.2 with ⟨hn4, h0⟩ | ⟨g, cap, cur, hv, hgB, hg, h1, h2, h3, h4⟩
              · have hr0 : rest = [] := List.eq_nil_of_length_eq_zero h0
                subst hr0
                cases hn4
                go_wp2_with (first
                  | (at_builtin; refine wp_app tyMacR rfl _ _ rfl w4.heap.size oW rfl rfl rfl rfl mc3_one (by omega) (by omega) BW.size ?_; intro v6 w6 o6 b6 _; have B6 := BW.trans b6; clear b6)
                  | (at_builtin; refine wp_app_all tyMacR (m := 0) (news := []) rfl _ _ rfl w4.heap.size o6 ⟨rfl, .inl ⟨by first | exact .inl rfl | exact .inr ⟨_, _, rfl⟩, rfl⟩⟩ rfl rfl (by simp) (by omega) (by omega) B6.size ?_; intro v7 w7 o7 b7 _)
                  | fail)
                go_ret2
                rw [HX.out]
                rw [List.append_nil, Nat.add_zero] at o7
                exact ⟨_, _, rfl, HFIN.out.1, HFIN.out.2, by rw [mcs_snoc, List.length_append]; exact own_mono o7 B4.size, B4.trans ((B6.trans b7).mono B4.size)⟩
              · cases hv
                have hk9 : (0 : Int) ≤ (rest.length : Int) := by omega
                by_cases hcr : c4 = rest.length
                · go_wp2_with (first
                  | (at_builtin; refine wp_app tyMacR rfl _ _ rfl w4.heap.size oW rfl rfl rfl rfl mc3_one (by omega) (by omega) BW.size ?_; intro v6 w6 o6 b6 _; have B6 := BW.trans b6; clear b6)
                  | (at_builtin; refine wp_app_all tyMacR (m := 0) (news := []) rfl _ _ rfl w4.heap.size o6 ⟨rfl, .inl ⟨by first | exact .inl rfl | exact .inr ⟨_, _, rfl⟩, rfl⟩⟩ rfl rfl (by simp) (by omega) (by omega) B6.size ?_; intro v7 w7 o7 b7 _)
                  | fail)
                  go_ret2
                  rw [HX.out]
                  rw [List.append_nil, Nat.add_zero] at o7
                  exact ⟨_, _, rfl, HFIN.out.1, HFIN.out.2, by rw [mcs_snoc, List.length_append]; exact own_mono o7 B4.size, B4.trans ((B6.trans b7).mono B4.size)⟩
                · go_wp2_with (first
                  | (at_builtin; refine wp_app tyMacR rfl _ _ rfl w4.heap.size oW rfl rfl rfl rfl mc3_one (by omega) (by omega) BW.size ?_; intro v6 w6 o6 b6 _; have B6 := BW.trans b6; clear b6)
                  | (at_builtin; refine wp_app_all tyMacR (m := 0) (news := []) rfl _ _ rfl w4.heap.size o6 ⟨rfl, .inl ⟨by first | exact .inl rfl | exact .inr ⟨_, _, rfl⟩, rfl⟩⟩ rfl rfl (by simp) (by omega) (by omega) B6.size ?_; intro v7 w7 o7 b7 _)
                  | fail)
                  go_ret2
                  rw [HX.out]
                  rw [List.append_nil, Nat.add_zero] at o7
                  exact ⟨_, _, rfl, HFIN.out.1, HFIN.out.2, by rw [mcs_snoc, List.length_append]; exact own_mono o7 B4.size, B4.trans ((B6.trans b7).mono B4.size)⟩
        )

end Go.Proofs.YtjfikkjaifdkiaaGreatDoor

namespace Go.Proofs.YtjfikkjaifdkiaaGreatDoor
open Go.RowKit

namespace Fi
abbrev Bytes := List UInt8
/-- A file: its name, its text. -/
abbrev F := Bytes × Bytes
def okC (c : UInt8) : Bool := (97 ≤ c && c ≤ 122) || (48 ≤ c && c ≤ 57) || c == 45 || c == 46
def okName (s : Bytes) : Bool := s.all okC && (decide (1 ≤ s.length) && decide (s.length ≤ 24))
def names (l : List F) : List Bytes := l.map Prod.fst
def rightF : Option Bytes → List F → Bool
  | _, [] => true
  | p, f :: r => okName f.1 && decide (f.2.length ≤ 4000) && (match p with | none => true | some q => decide (Lib.compareBytes q f.1 < 0)) && rightF (some f.1) r
def right (l : List F) : Bool := rightF none l && decide (l.length ≤ 32)
def get (l : List F) (t : Bytes) : Bytes × Bool := match l.find? (fun f => f.1 == t) with | some f => (f.2, true) | none => ([], false)
def drop (l : List F) (t : Bytes) : List F := l.filter fun f => f.1 != t
def has (l : List F) (t : Bytes) : Bool := (names l).contains t
def putL (l : List F) (f : F) : List F := if has l f.1 then l.set (lb (names l) f.1) f else l.take (lb (names l) f.1) ++ f :: l.drop (lb (names l) f.1)
def put (l : List F) (f : F) : List F × Int :=
  if okName f.1 = false then ([], 2) else if 4000 < f.2.length ∨ (has l f.1 = false ∧ 32 ≤ l.length) then ([], 3) else (putL l f, 0)
def merge : List F → List F → List F × Int
  | a, [] => (a, 0)
  | a, f :: r => if (put a f).2 = 0 then merge (put a f).1 r else ([], (put a f).2)
/-- The map of any files. -/
def mapF (most bytes : Nat) : List F → List F → List F
  | out, [] => out
  | out, f :: r => mapF most bytes (if (put out (f.1, f.2.take bytes)).2 = 0 then (put out (f.1, f.2.take bytes)).1 else out) r
def map (l : List F) (most bytes : Nat) : List F := mapF most bytes [] (l.take most)
/-- Names in order, each once. -/
def Ord (l : List F) : Prop := Sorted (names l)

theorem names_len (l : List F) : (names l).length = l.length := by simp [names]
theorem names_at {l : List F} {i : Nat} (h : i < l.length) : (names l)[i]'(by rw [names_len]; exact h) = l[i].1 := by simp [names]
theorem lbn_le (l : List F) (t : Bytes) : lb (names l) t ≤ l.length := by have := lb_le (names l) t; rwa [names_len] at this
theorem has_at {l : List F} (h : Ord l) (t : Bytes) : has l t = decide (∃ hx : lb (names l) t < l.length, l[lb (names l) t].1 = t) := by
  unfold has
  rw [← lb_is h]
  by_cases hx : lb (names l) t < l.length
  · rw [List.getElem?_eq_getElem (by rw [names_len]; exact hx), names_at hx]
    by_cases e : l[lb (names l) t].1 = t
    · simp [e, hx]
    · simp [e]
  · rw [List.getElem?_eq_none (by rw [names_len]; omega)]
    simp [hx]

end Fi
end Go.Proofs.YtjfikkjaifdkiaaGreatDoor

namespace Go.Proofs.YtjfikkjaifdkiaaGreatDoor
namespace Ex
open Lx

/-- An expansion that goes on. -/
structure St where
  inn : List Tok
  macs : List Mac
  fuel : Nat
  outL : List Tok
  reads : List (List UInt8)
  notes : List (Int × List UInt8)
  used : Nat

def note (st : St) (e : Int) (s : List UInt8) : St := { st with notes := st.notes ++ [(e, s)] }
/-- So many groups, the first ones of one word each: these, the words, what stands behind. -/
def gr (l : List Tok) (n : Int) (k : Nat) : Option (List (List Tok) × List (List UInt8) × List Tok) :=
  if (argsAt l 0 n).2.2 = 0 ∧ ((argsAt l 0 n).1.take k).all (fun g => (wordOf g).2) = true then some ((argsAt l 0 n).1, ((argsAt l 0 n).1.take k).map (fun g => (wordOf g).1), l.drop (argsAt l 0 n).2.1.toNat) else none
def sDef : List UInt8 := [100, 101, 102]
def sUndef : List UInt8 := [117, 110, 100, 101, 102]
def sIfdef : List UInt8 := [105, 102, 100, 101, 102]
def sInc : List UInt8 := [105, 110, 99, 108, 117, 100, 101]
def okd (d : List UInt8) : Bool := match d with | [c] => decide (48 ≤ c.toNat) && decide (c.toNat ≤ 57) | _ => false
def digit (d : List UInt8) : Int := match d with | [c] => (c.toNat : Int) - 48 | _ => 0
def doDef (st : St) : St :=
  match gr st.inn 3 2 with
  | none => note st 10 sDef
  | some (x, ws, r) =>
    if okd (ws.getD 1 []) = true then
      if (putM st.macs (ws.getD 0 [], digit (ws.getD 1 []), x.getD 2 [])).2 = 0 then { st with inn := r, macs := (putM st.macs (ws.getD 0 [], digit (ws.getD 1 []), x.getD 2 [])).1 }
      else note { st with inn := r } (putM st.macs (ws.getD 0 [], digit (ws.getD 1 []), x.getD 2 [])).2 (ws.getD 0 [])
    else note st 10 sDef
def doUndef (st : St) : St :=
  match gr st.inn 1 1 with
  | none => note st 10 sUndef
  | some (_, ws, r) => { st with inn := r, macs := dropM st.macs (ws.getD 0 []) }
def doIfdef (st : St) : St :=
  match gr st.inn 3 1 with
  | none => note st 10 sIfdef
  | some (x, ws, r) => { st with inn := (if (getM st.macs (ws.getD 0 [])).2 = true then x.getD 1 [] else x.getD 2 []) ++ r }
def come (most : Nat) (st : St) (name : List UInt8) (l : List Tok) : St := if most < l.length + st.inn.length then note st 3 name else { st with inn := l ++ st.inn }
def burnt (st : St) : St := { st with fuel := st.fuel - 1, used := st.used + 1 }
def ask (st : St) (name : List UInt8) : St := if st.reads.contains name = true then st else { st with reads := st.reads ++ [name] }
def incl (fs : List Fi.F) (most : Nat) (st : St) (name : List UInt8) : St :=
  if Fi.okName name = false then note st 2 name
  else if 32 ≤ st.reads.length ∧ st.reads.contains name = false then note st 3 name
  else if st.fuel = 0 then note st 9 name
  else if (Fi.get fs name).2 = false then note (ask (burnt st) name) 4 name
  else come most (ask (burnt st) name) name (Lx.lex (Fi.get fs name).1)
def doInclude (fs : List Fi.F) (most : Nat) (st : St) : St :=
  match gr st.inn 1 1 with
  | none => note st 10 sInc
  | some (_, ws, r) => incl fs most { st with inn := r } (ws.getD 0 [])
def doCall (most : Nat) (st : St) (m : Mac) : St :=
  match gr st.inn m.2.1 0 with
  | none => note st 10 m.1
  | some (x, _, r) => if st.fuel = 0 then note { st with inn := r } 9 m.1 else come most (burnt { st with inn := r }) m.1 (Mx.fill x m.2.2)
/-- A command that is known; none: it is not. -/
def cmd (fs : List Fi.F) (most : Nat) (st : St) (s : List UInt8) : Option St :=
  if s = sDef then some (doDef st) else if s = sUndef then some (doUndef st) else if s = sIfdef then some (doIfdef st) else if s = sInc then some (doInclude fs most st)
  else if (getM st.macs s).2 = true then some (doCall most st (getM st.macs s).1) else none
def put (most : Nat) (st : St) (t : Tok) : St × Bool := if most ≤ st.outL.length then (note st 3 [], false) else ({ st with outL := st.outL ++ [t] }, true)
/-- What a token asks for, that was taken away; false: the expansion ends. -/
def step (fs : List Fi.F) (most : Nat) (st : St) (t : Tok) : St × Bool :=
  if t.1 = 4 then match cmd fs most st t.2 with | some st' => (st', true) | none => put most st t else put most st t
def run (fs : List Fi.F) (most : Nat) : Nat → St → St
  | 0, st => st
  | n + 1, st => match st.inn with
    | [] => st
    | t :: r => if (step fs most { st with inn := r } t).2 = true then run fs most n (step fs most { st with inn := r } t).1 else (step fs most { st with inn := r } t).1
def zero (fuel : Nat) : St := ⟨[], [], fuel, [], [], [], 0⟩
def start (fs : List Fi.F) (main : List UInt8) (fuel : Nat) : St :=
  if (Fi.get fs main).2 = true then { ask (zero fuel) main with inn := Lx.lex (Fi.get fs main).1 } else note (ask (zero fuel) main) 4 main
def mu (B : Nat) (st : St) : Nat := st.fuel * (B + 1) + st.inn.length
def expand (fs : List Fi.F) (main : List UInt8) (fuel most : Nat) : St :=
  run fs most (mu (most + (start fs main fuel).inn.length) (start fs main fuel)) (start fs main fuel)

/-! ### it ends -/
theorem args_to : ∀ (n : Nat) (l : List Tok) (x : List (List Tok) × Nat), Mx.args n l = some x → x.2 ≤ l.length ∧ x.1.length = n ∧ (∀ g ∈ x.1, g.length + 2 ≤ x.2 ∧ ∀ t ∈ g, t ∈ l)
  | 0, l, x, h => by
    rw [Mx.args] at h
    injection h with h
    subst h
    simp
  | n + 1, l, x, h => by
    rw [Mx.args] at h
    cases hg : Mx.group (l.drop (Mx.spaces l)) with
    | none => rw [hg] at h; cases h
    | some g =>
      rw [hg] at h
      simp only [Option.map_eq_some_iff] at h
      obtain ⟨y, hy, rfl⟩ := h
      obtain ⟨h1, h2, h3⟩ := args_to n _ y hy
      obtain ⟨h4, h5⟩ := Mx.group_le hg
      have h6 := Mx.spaces_le l
      rw [List.length_drop] at h1 h5
      refine ⟨by simp only; omega, by simp [h2], fun q hq => ?_⟩
      rcases List.mem_cons.1 hq with rfl | hq
      · refine ⟨?_, fun t ht => List.mem_of_mem_drop (List.mem_of_mem_take ht)⟩
        rw [List.length_take, List.length_drop]
        simp only
        omega
      · obtain ⟨h7, h8⟩ := h3 q hq
        exact ⟨by simp only; omega, fun t ht => List.mem_of_mem_drop (h8 t ht)⟩
theorem gr_some {l : List Tok} {n : Int} {k : Nat} {x : List (List Tok)} {ws : List (List UInt8)} {r : List Tok} (h : gr l n k = some (x, ws, r)) :
    ∃ tq : Nat, r = l.drop tq ∧ tq ≤ l.length ∧ x.length = n.toNat ∧ (∀ g ∈ x, g.length + 2 ≤ tq ∧ ∀ t ∈ g, t ∈ l) ∧ ws.length = min k n.toNat ∧ 0 ≤ n ∧ n ≤ 9 ∧ ∀ s ∈ ws, ∃ t ∈ l, s = t.2 := by
  unfold gr at h
  split at h
  · rename_i hc
    injection h with h
    injection h with h1 h2
    injection h2 with h2 h3
    unfold argsAt at h1 h2 h3 hc
    by_cases hb : (0 : Int) < 0 ∨ (l.length : Int) < 0 ∨ n < 0 ∨ 9 < n
    · rw [if_pos hb] at hc
      exact absurd hc.1 (by decide)
    · rw [if_neg hb] at h1 h2 h3 hc
      simp only [Int.toNat_zero, List.drop_zero] at h1 h2 h3 hc
      cases ha : Mx.args n.toNat l with
      | none => rw [ha] at hc; exact absurd hc.1 (by decide)
      | some y =>
        rw [ha] at h1 h2 h3 hc
        simp only [ares] at h1 h2 h3 hc
        obtain ⟨h4, h5, h6⟩ := args_to _ _ _ ha
        refine ⟨y.2, by rw [← h3]; congr 1; omega, h4, by rw [← h1]; exact h5, by rw [← h1]; exact h6, by rw [← h2, List.length_map, List.length_take, h5], by omega, by omega, fun s hs => ?_⟩
        rw [← h2] at hs
        obtain ⟨g, hg, rfl⟩ := List.mem_map.1 hs
        have hall := List.all_eq_true.1 hc.2 g hg
        have hg1 := List.mem_of_mem_take hg
        match g, hall, hg1 with
        | [t], hall, hg1 =>
          have h7 := (h6 _ hg1).2 t (by simp)
          refine ⟨t, h7, ?_⟩
          unfold wordOf at hall ⊢
          simp only at hall ⊢
          split at hall
          · rename_i h8; rw [if_pos h8]
          · cases hall
        | [], hall, _ => cases hall
        | _ :: _ :: _, hall, _ => cases hall
  · cases h
end Ex
end Go.Proofs.YtjfikkjaifdkiaaGreatDoor

namespace Go.Proofs.YtjfikkjaifdkiaaGreatDoor
open Go.RowKit
theorem tyF : SlTy Tryz.prog 22 45 2 32 := SlTy.mk' (z := .agg #[.string ⟨#[]⟩, .string ⟨#[]⟩]) Tryz.underlying22 (by kernel_rfl) rfl (by decide)

abbrev Fl := Fi.F
def fc (f : Fl) : List Value := [.string (S f.1), .string (S f.2)]
def fcs (l : List Fl) : List Value := l.flatMap fc
theorem fcs_cons (f : Fl) (l : List Fl) : fcs (f :: l) = .string (S f.1) :: .string (S f.2) :: fcs l := by simp [fcs, fc]
theorem fcs_append (a b : List Fl) : fcs (a ++ b) = fcs a ++ fcs b := by simp [fcs]
theorem fcs_snoc (a : List Fl) (f : Fl) : fcs (a ++ [f]) = fcs a ++ [.string (S f.1), .string (S f.2)] := by simp [fcs, fc]
theorem fcs_length (l : List Fl) : (fcs l).length = l.length * 2 := by
  induction l with
  | nil => rfl
  | cons f l ih => rw [fcs_cons]; simp only [List.length_cons, ih]; omega
theorem fcs_at (l : List Fl) (i : Nat) (h : i < l.length) : (fcs l)[i * 2]? = some (.string (S l[i].1)) ∧ (fcs l)[i * 2 + 1]? = some (.string (S l[i].2)) := by
  induction l generalizing i with
  | nil => simp at h
  | cons t l ih =>
    cases i with
    | zero => simp [fcs_cons]
    | succ i =>
      have := ih i (by simpa using h)
      rw [fcs_cons, show (i + 1) * 2 = i * 2 + 1 + 1 by omega]
      simpa using this
theorem fcs_one {l : List Fl} : ∀ u ∈ fcs l, u.oneCell' = true := by
  intro u hu
  simp only [fcs, List.mem_flatMap, fc, List.mem_cons, List.not_mem_nil, or_false] at hu
  obtain ⟨t, _, rfl | rfl⟩ := hu <;> rfl
theorem fc_one {a b : ByteArray} : ∀ u ∈ [Value.string a, .string b], u.oneCell' = true := by
  intro u hu; simp at hu; rcases hu with rfl | rfl <;> rfl
theorem fcs_take (l : List Fl) (i : Nat) : (fcs l).take (i * 2) = fcs (l.take i) ∧ (fcs l).drop (i * 2) = fcs (l.drop i) := by
  induction l generalizing i with
  | nil => simp [fcs]
  | cons f l ih =>
    cases i with
    | zero => simp [fcs]
    | succ i =>
      rw [fcs_cons, show (i + 1) * 2 = i * 2 + 1 + 1 by omega]
      simp only [List.take_succ_cons, List.drop_succ_cons, fcs_cons, (ih i).1, (ih i).2, and_self]
theorem fcs_set (l : List Fl) (i : Nat) (h : i < l.length) (f : Fl) : ((fcs l).set (i * 2) (.string (S f.1))).set (i * 2 + 1) (.string (S f.2)) = fcs (l.set i f) := by
  induction l generalizing i with
  | nil => simp at h
  | cons t l ih =>
    cases i with
    | zero => simp [fcs_cons]
    | succ i =>
      have := ih i (by simpa using h)
      rw [fcs_cons, show (i + 1) * 2 = i * 2 + 1 + 1 by omega]
      simp only [List.set_cons_succ, fcs_cons, this]

/-- v reads as these files. -/
def Rf (w : World) (v : Value) (l : List Fl) : Prop := Rd w 2 v l.length (fcs l)
theorem Rf.at {w : World} {a : Option Addr} {n c : Nat} {l : List Fl} (h : Rf w (.slice a n c) l) {i : Nat} (hi : i < l.length) :
    ∃ b o, a = some ⟨b, o, none⟩ ∧ w.cell? ⟨b, o + i * 2, none⟩ = some (.string (S l[i].1)) ∧ w.cell? ⟨b, o + i * 2 + 1, none⟩ = some (.string (S l[i].2)) := by
  rcases h.2 with ⟨_, h2⟩ | ⟨b, o, cap, hv, hlt, hc, _⟩
  · omega
  · cases hv
    have := fcs_at l i hi
    exact ⟨b, o, rfl, hc _ _ this.1, hc _ _ this.2⟩
theorem Rf.below' {w w' : World} {v : Value} {l : List Fl} (h : Rf w v l) (hb : Below w.heap.size w w') : Rf w' v l := Rd.below' h hb
theorem Rf.shape {w : World} {v : Value} {l : List Fl} (h : Rf w v l) : ∃ a c, v = .slice a l.length c := Rd.shape h
theorem Rf.nil (w : World) : Rf w (.slice none 0 0) [] := ⟨rfl, .inl ⟨.inl rfl, rfl⟩⟩
theorem rf_own {w : World} {B e : Nat} {v : Value} {l : List Fl} (h : w.ownsRow B e 2 v l.length (fcs l)) : Rf w v l := own_rd h
theorem rf_made (w : World) (l : List Fl) (T : TypeId) : Rf (w.alloc (.cells (fcs l).toArray T)) (.slice (some ⟨w.heap.size, 0, none⟩) l.length l.length) l :=
  ⟨fcs_length l, .inr ⟨w.heap.size, 0, l.length, rfl, fun _ => by simp, fun j u hj => by
    rw [Nat.zero_add, cell_of_row _ w.heap.size _ (fcs l).toArray T (0, 0) (heap_alloc_new w _)]
    simpa using hj, Nat.le_refl _⟩⟩

/-! ### lists of texts -/
def xcs (l : List (List UInt8)) : List Value := l.map fun s => .string (S s)
def Rx (w : World) (v : Value) (l : List (List UInt8)) : Prop := Rd w 1 v l.length (xcs l)
theorem Rx.at {w : World} {a : Option Addr} {n c : Nat} {l : List (List UInt8)} (h : Rx w (.slice a n c) l) {i : Nat} (hi : i < l.length) :
    ∃ b o, a = some ⟨b, o, none⟩ ∧ w.cell? ⟨b, o + i, none⟩ = some (.string (S l[i])) := by
  rcases h.2 with ⟨_, h2⟩ | ⟨b, o, cap, hv, hlt, hc, _⟩
  · omega
  · cases hv
    exact ⟨b, o, rfl, hc _ _ (by simp [xcs, hi])⟩
theorem Rx.below' {w w' : World} {v : Value} {l : List (List UInt8)} (h : Rx w v l) (hb : Below w.heap.size w w') : Rx w' v l := Rd.below' h hb
theorem Rx.shape {w : World} {v : Value} {l : List (List UInt8)} (h : Rx w v l) : ∃ a c, v = .slice a l.length c := Rd.shape h
theorem xcs_one {l : List (List UInt8)} : ∀ u ∈ xcs l, u.oneCell' = true := by
  intro u hu
  obtain ⟨s, _, rfl⟩ := List.mem_map.1 hu
  rfl
theorem xcs_snoc (a : List (List UInt8)) (s : List UInt8) : xcs (a ++ [s]) = xcs a ++ [.string (S s)] := by simp [xcs]

theorem run_neq_file (p q : Fl) (w : World) : (binOp .neq 45 (.agg #[.string (S p.1), .string (S p.2)]) (.agg #[.string (S q.1), .string (S q.2)])).run Tryz.prog w = .ok (.bool (p != q)) w := by
  obtain ⟨a, s⟩ := p
  obtain ⟨b, t⟩ := q
  by_cases h : a = b <;> by_cases h2 : s = t <;> simp [go_sem, h, h2, bne]
theorem run_eql_file (p q : Fl) (w : World) : (binOp .eql 45 (.agg #[.string (S p.1), .string (S p.2)]) (.agg #[.string (S q.1), .string (S q.2)])).run Tryz.prog w = .ok (.bool (p == q)) w := by
  obtain ⟨a, s⟩ := p
  obtain ⟨b, t⟩ := q
  by_cases h : a = b <;> by_cases h2 : s = t <;> simp [go_sem, h, h2]
theorem feq_of_bne {α : Type} [BEq α] [LawfulBEq α] {a b : α} (h : (a != b) = false) : a = b := by simpa [bne] using h
theorem fne_of_bne {α : Type} [BEq α] [LawfulBEq α] {a b : α} (h : (a != b) = true) : a ≠ b := by simpa [bne] using h

set_option maxHeartbeats 400000 in
/-- 'Words': are they the same texts? -/
theorem words_any (va vb : Value) (la lb : List (List UInt8)) (w : World) (ha : Rx w va la) (hb : Rx w vb lb) (hla : la.length ≤ 1000000000000) (hlb : lb.length ≤ 1000000000000) :
    Calls Tryz.prog 24 #[va, vb] w fun e w' => e = .returned (.bool (la == lb)) ∧ Below w.heap.size w w' := by
  obtain ⟨aa, ca, rfl⟩ := ha.shape
  obtain ⟨ab, cb, rfl⟩ := hb.shape
  by_cases hlen : la.length = lb.length
  · have HL := Lib.hid hlen
    have hb1 : ((la.length : Int) != (lb.length : Int)) = false := by simp [hlen]
    clear hlen
    go_enter Tryz.func24, Tryz.ntmps24
    go_wp2
    go_loopw [4, 5] (fun _ i wr => ∃ k : Nat, k ≤ la.length ∧ i = .int .i64 k ∧ Hid (la.take k = lb.take k) ∧ Below w.heap.size w wr) (fun _ i _ => la.length - (intOf i).toNat)
    case atStart => exact ⟨0, Nat.zero_le _, rfl, rfl, Below.refl _ _⟩
    case round =>
      obtain ⟨k, hk, rfl, HE, hbw⟩ := hrel
      by_cases hlt : k < la.length
      · have hlt' : k < lb.length := HL.out ▸ hlt
        have ha' := ha.below' hbw
        have hb' := hb.below' hbw
        obtain ⟨b1, o1, rfl, c10⟩ := ha'.at hlt
        obtain ⟨b2, o2, rfl, c20⟩ := hb'.at hlt'
        clear ha' hb' ha hb
        go_wp2
        go_quiet (fail)
        go_wp2
        · have hx : (la[k] != lb[k]) = true := by assumption
          go_ret
          refine ⟨ret_bool ?_, below_drewN hbw _⟩
          have : la ≠ lb := fun e => fne_of_bne hx (by subst e; rfl)
          simp [this]
        · have hx : (la[k] != lb[k]) = false := by assumption
          go_roundw
          case rel => exact ⟨k + 1, by omega, by go_num, take_succ_eq hlt hlt' HE.out (feq_of_bne hx), below_drewN hbw _⟩
          case measure => simp [intOf]; omega
      · have hkl : k = la.length := by omega
        have heq : la = lb := by
          have := HE.out
          rw [hkl, List.take_length, HL.out, List.take_length] at this
          exact this
        have HQ := Lib.hid heq
        clear heq hkl ha hb
        go_wp2
        go_ret
        exact ⟨ret_bool (by simp [HQ.out]), hbw⟩
  · have hb1 : ((la.length : Int) != (lb.length : Int)) = true := by simp [bne]; omega
    go_enter Tryz.func24, Tryz.ntmps24
    go_wp2
    go_ret
    refine ⟨ret_bool ?_, Below.refl _ _⟩
    have : la ≠ lb := fun e => hlen (by rw [e])
    simp [this]

end Go.Proofs.YtjfikkjaifdkiaaGreatDoor

namespace Go.Proofs.YtjfikkjaifdkiaaGreatDoor
open Go.RowKit

abbrev signs : List UInt8 := [97, 98, 99, 100, 101, 102, 103, 104, 105, 106, 107, 108, 109, 110, 111, 112, 113, 114, 115, 116, 117, 118, 119, 120, 121, 122, 48, 49, 50, 51, 52, 53, 54, 55, 56, 57, 45, 46]
theorem okC_nat : ∀ n : Fin 256, Fi.okC (UInt8.ofNat n.val) = decide (0 ≤ Lib.indexByte signs (UInt8.ofNat n.val)) := by decide +kernel
theorem okC_is (c : UInt8) : Fi.okC c = decide (0 ≤ Lib.indexByte signs c) := by
  have := okC_nat ⟨c.toNat, c.toNat_lt⟩
  simpa using this
theorem okC_int (c : UInt8) : Fi.okC c = decide (((97 ≤ (c.toNat : Int) ∧ (c.toNat : Int) ≤ 122) ∨ (48 ≤ (c.toNat : Int) ∧ (c.toNat : Int) ≤ 57)) ∨ (c.toNat : Int) = 45 ∨ (c.toNat : Int) = 46) := by
  have h : ∀ n : Fin 256, Fi.okC (UInt8.ofNat n.val) = decide (((97 ≤ n.val ∧ n.val ≤ 122) ∨ (48 ≤ n.val ∧ n.val ≤ 57)) ∨ n.val = 45 ∨ n.val = 46) := by decide +kernel
  have := h ⟨c.toNat, c.toNat_lt⟩
  rw [show UInt8.ofNat c.toNat = c by simp] at this
  rw [this, decide_eq_decide]
  simp only
  omega
theorem okName_bad {s : List UInt8} {k : Nat} (h : k < s.length) (hc : Fi.okC s[k] = false) : Fi.okName s = false := by
  have h2 : s.all Fi.okC = false := by rw [List.all_eq_false]; exact ⟨s[k], List.getElem_mem h, by simp [hc]⟩
  rw [Fi.okName, h2]; rfl
theorem okName_end {s : List UInt8} (h : s.all Fi.okC = true) : Fi.okName s = (decide (1 ≤ s.length) && decide (s.length ≤ 24)) := by rw [Fi.okName, h]; rfl

set_option maxHeartbeats 1600000 in
/-- 'Name'. -/
theorem name_any (s : List UInt8) (hs : s.length ≤ 9223372036854775807) (w : World) :
    Calls Tryz.prog 77 #[.string (S s)] w fun e w' => e = .returned (.bool (Fi.okName s)) ∧ w' = w := by
  go_enter Tryz.func77, Tryz.ntmps77
  simp only [S_lit]
  go_wp2_with fail
  go_loop [6] (fun i => ∃ (k : Nat), k ≤ s.length ∧ i = .int .i64 k ∧ Hid ((s.take k).all Fi.okC = true)) (fun i => s.length - (intOf i).toNat)
  case atStart => exact ⟨0, Nat.zero_le _, rfl, rfl⟩
  case round =>
    obtain ⟨k, hk, rfl, HC⟩ := hrel
    by_cases hlt : k < s.length
    · have hL := okC_is s[k]
      cases hc : Fi.okC s[k]
      · rw [hc] at hL
        have hn : (Lib.indexByte signs s[k]) < 0 := by have := of_decide_eq_false hL.symm; omega
        have HF := Lib.hid (okName_bad hlt hc)
        clear hL hc
        obtain ⟨d, hd⟩ : ∃ d, d = Lib.indexByte signs s[k] := ⟨_, rfl⟩
        rw [← hd] at hn
        have HD := Lib.hid hd
        clear hd
        go_wp2_with fail
        (with_reducible refine (Tryz.strings_IndexByte _ _ _).mono ?_); rintro e w1 ⟨rfl, rfl⟩
        rw [show Lib.indexByte (S signs).data.toList (s[k].toNat : Int).toNat.toUInt8 = d by rw [HD.out]; simp [S_dataList]]
        go_wp2_with fail
        go_ret
        exact ⟨ret_bool HF.out.symm, rfl⟩
      · rw [hc] at hL
        have hn : ¬ (Lib.indexByte signs s[k]) < 0 := by have := of_decide_eq_true hL.symm; omega
        have HN := Lib.hid (show (s.take (k + 1)).all Fi.okC = true by rw [take_snoc s k hlt, List.all_append, HC.out]; simp [hc])
        clear hL hc
        obtain ⟨d, hd⟩ : ∃ d, d = Lib.indexByte signs s[k] := ⟨_, rfl⟩
        rw [← hd] at hn
        have hn : decide (d < 0) = false := by simpa using hn
        have HD := Lib.hid hd
        clear hd
        go_wp2_with fail
        (with_reducible refine (Tryz.strings_IndexByte _ _ _).mono ?_); rintro e w1 ⟨rfl, rfl⟩
        rw [show Lib.indexByte (S signs).data.toList (s[k].toNat : Int).toNat.toUInt8 = d by rw [HD.out]; simp [S_dataList]]
        go_wp2_with fail
        go_round
        case rel => exact ⟨k + 1, by omega, by go_num, HN⟩
        case measure => simp [intOf]; omega
    · obtain rfl : k = s.length := by omega
      have HN := Lib.hid (okName_end (s := s) (by have := HC.out; rwa [List.take_length] at this))
      cases h1 : decide ((1 : Int) ≤ (s.length : Int))
      · have HB := Lib.hid (show Fi.okName s = false by
          have : ¬ (1 ≤ s.length) := by have := of_decide_eq_false h1; omega
          rw [HN.out, decide_eq_false this]; rfl)
        go_wp2_with fail
        go_ret
        exact ⟨ret_bool HB.out.symm, rfl⟩
      · cases h2 : decide ((s.length : Int) ≤ 24)
        · go_wp2_with fail
          go_ret
          exact ⟨ret_bool (by rw [HN.out]; simp at h1 h2 ⊢; omega), rfl⟩
        · go_wp2_with fail
          go_ret
          exact ⟨ret_bool (by rw [HN.out]; simp at h1 h2 ⊢; omega), rfl⟩

set_option maxHeartbeats 1600000 in
/-- 'Name' of the reference. -/
theorem refName_any (s : List UInt8) (hs : s.length ≤ 9223372036854775807) (w : World) :
    Calls Tryz.prog 29 #[.string (S s)] w fun e w' => e = .returned (.bool (Fi.okName s)) ∧ w' = w := by
  go_enter Tryz.func29, Tryz.ntmps29
  go_wp2_with fail
  go_loop [3] (fun i => ∃ (k : Nat), k ≤ s.length ∧ i = .int .i64 k ∧ Hid ((s.take k).all Fi.okC = true)) (fun i => s.length - (intOf i).toNat)
  case atStart => exact ⟨0, Nat.zero_le _, rfl, rfl⟩
  case round =>
    obtain ⟨k, hk, rfl, HC⟩ := hrel
    by_cases hlt : k < s.length
    · have hL := okC_int s[k]
      have hbad : Fi.okC s[k] = false → Hid (Fi.okName s = false) := fun h => Lib.hid (okName_bad hlt h)
      have hgood : Fi.okC s[k] = true → Hid ((s.take (k + 1)).all Fi.okC = true) := fun hc => Lib.hid (by rw [take_snoc s k hlt, List.all_append, HC.out]; simp [hc])
      obtain ⟨d, hd⟩ : ∃ d : Int, (s[k].toNat : Int) = d := ⟨_, rfl⟩
      have hx := hd
      rw [hd] at hL
      rcases (by omega : (97 ≤ d ∧ d ≤ 122) ∨ (48 ≤ d ∧ d ≤ 57) ∨ d = 45 ∨ d = 46 ∨ d < 45 ∨ d = 47 ∨ (58 ≤ d ∧ d < 97) ∨ 122 < d) with ⟨h1, h2⟩ | ⟨h1, h2⟩ | rfl | rfl | h1 | rfl | ⟨h1, h2⟩ | h1
      · skip
        have HN := hgood (by rw [hL]; first | decide | (simp only [decide_eq_true_eq]; omega))
        clear hL hbad hgood
        go_wp2_with fail
        go_round
        case rel => exact ⟨k + 1, by omega, by go_num, HN⟩
        case measure => simp [intOf]; omega
      · skip
        have f0 : decide (97 ≤ d) = false := by simp; omega
        have HN := hgood (by rw [hL]; first | decide | (simp only [decide_eq_true_eq]; omega))
        clear hL hbad hgood
        go_wp2_with fail
        go_round
        case rel => exact ⟨k + 1, by omega, by go_num, HN⟩
        case measure => simp [intOf]; omega
      · skip
        have HN := hgood (by rw [hL]; first | decide | (simp only [decide_eq_true_eq]; omega))
        clear hL hbad hgood
        go_wp2_with fail
        go_round
        case rel => exact ⟨k + 1, by omega, by go_num, HN⟩
        case measure => simp [intOf]; omega
      · skip
        have HN := hgood (by rw [hL]; first | decide | (simp only [decide_eq_true_eq]; omega))
        clear hL hbad hgood
        go_wp2_with fail
        go_round
        case rel => exact ⟨k + 1, by omega, by go_num, HN⟩
        case measure => simp [intOf]; omega
      · skip
        have f0 : decide (97 ≤ d) = false := by simp; omega
        have f1 : decide (48 ≤ d) = false := by simp; omega
        have f2 : (d == 45) = false := by simp; omega
        have f3 : (d == 46) = false := by simp; omega
        have HF := hbad (by rw [hL]; first | decide | (simp only [decide_eq_false_iff_not]; omega))
        clear hL hbad hgood
        go_wp2_with fail
        go_ret
        exact ⟨ret_bool HF.out.symm, rfl⟩
      · skip
        have HF := hbad (by rw [hL]; first | decide | (simp only [decide_eq_false_iff_not]; omega))
        clear hL hbad hgood
        go_wp2_with fail
        go_ret
        exact ⟨ret_bool HF.out.symm, rfl⟩
      · have g1 : 48 ≤ d := by omega
        have f0 : decide (97 ≤ d) = false := by simp; omega
        have f1 : decide (d ≤ 57) = false := by simp; omega
        have f2 : (d == 45) = false := by simp; omega
        have f3 : (d == 46) = false := by simp; omega
        have HF := hbad (by rw [hL]; first | decide | (simp only [decide_eq_false_iff_not]; omega))
        clear hL hbad hgood
        go_wp2_with fail
        go_ret
        exact ⟨ret_bool HF.out.symm, rfl⟩
      · have g1 : 48 ≤ d := by omega
        have g2 : 97 ≤ d := by omega
        have f0 : decide (d ≤ 122) = false := by simp; omega
        have f1 : decide (d ≤ 57) = false := by simp; omega
        have f2 : (d == 45) = false := by simp; omega
        have f3 : (d == 46) = false := by simp; omega
        have HF := hbad (by rw [hL]; first | decide | (simp only [decide_eq_false_iff_not]; omega))
        clear hL hbad hgood
        go_wp2_with fail
        go_ret
        exact ⟨ret_bool HF.out.symm, rfl⟩
    · obtain rfl : k = s.length := by omega
      have HN := Lib.hid (okName_end (s := s) (by have := HC.out; rwa [List.take_length] at this))
      cases h1 : decide ((1 : Int) ≤ (s.length : Int))
      · have HB := Lib.hid (show Fi.okName s = false by
          have : ¬ (1 ≤ s.length) := by have := of_decide_eq_false h1; omega
          rw [HN.out, decide_eq_false this]; rfl)
        go_wp2_with fail
        go_ret
        exact ⟨ret_bool HB.out.symm, rfl⟩
      · cases h2 : decide ((s.length : Int) ≤ 24)
        · go_wp2_with fail
          go_ret
          exact ⟨ret_bool (by rw [HN.out]; simp at h1 h2 ⊢; omega), rfl⟩
        · go_wp2_with fail
          go_ret
          exact ⟨ret_bool (by rw [HN.out]; simp at h1 h2 ⊢; omega), rfl⟩

end Go.Proofs.YtjfikkjaifdkiaaGreatDoor

namespace Go.Proofs.YtjfikkjaifdkiaaGreatDoor
open Go.RowKit

set_option maxHeartbeats 1600000 in
theorem fcmpf_any (n tx t : List UInt8) (w : World) :
    Calls Tryz.prog 96 #[.agg #[.string (S n), .string (S tx)], .string (S t)] w fun e w' => e = .returned (.int .i64 (Lib.compareBytes n t)) ∧ Below w.heap.size w w' := by
  go_enter Tryz.func96, Tryz.ntmps96
  go_wp2_with fail
  (with_reducible refine (Tryz.strings_Compare (S n) (S t) _).mono ?_); rintro e w2 ⟨rfl, rfl⟩
  rw [S_dataList, S_dataList]
  go_wp2_with fail
  go_ret
  exact ⟨rfl, (Below.refl _ _).alloc (Nat.le_refl _) _⟩

set_option maxRecDepth 20000 in
set_option maxHeartbeats 1600000 in
/-- 'slices.BinarySearchFunc' of files, by their names. -/
theorem fbin_any (v : Value) (ps : List Fl) (t : List UInt8) (w : World) (hl : Rf w v ps) (hlen : ps.length ≤ 1000000) (hs : Sorted (Fi.names ps)) :
    Calls Tryz.prog 95 #[v, .string (S t), .func (.func 96) #[] #[]] w fun e w' => e = .returned (.tuple #[.int .i64 (lb (Fi.names ps) t : Nat), .bool ((Fi.names ps)[lb (Fi.names ps) t]? == some t)]) ∧ Below w.heap.size w w' := by
  obtain ⟨a0, c0, rfl⟩ := hl.shape
  have A := Lib.hid hl
  have SO := Lib.hid hs
  clear hl hs
  obtain ⟨ns, hns⟩ : ∃ ns, ns = Fi.names ps := ⟨_, rfl⟩
  rw [← hns] at SO ⊢
  have hnl : ns.length = ps.length := by rw [hns]; simp [Fi.names]
  have hnat : ∀ x (h : x < ps.length), ns[x]? = some ps[x].1 := by intro x h; subst hns; simp [Fi.names, h]
  have HN := Lib.hid hns
  clear hns
  have HNL := Lib.hid hnl
  go_enter Tryz.func95, Tryz.ntmps95
  go_wp2_with fail
  go_loopw [9, 10] (fun vi vj wr => ∃ i j : Nat, vi = .int .i64 i ∧ vj = .int .i64 j ∧ i ≤ j ∧ j ≤ ps.length ∧ Hid (∀ x (h : x < ns.length), x < i → Lib.compareBytes ns[x] t < 0) ∧ Hid (∀ x (h : x < ns.length), j ≤ x → 0 ≤ Lib.compareBytes ns[x] t) ∧ Below w.heap.size w wr) (fun vi vj _ => (intOf vj).toNat - (intOf vi).toNat)
  case atStart => exact ⟨0, ps.length, rfl, rfl, Nat.zero_le _, Nat.le_refl _, Lib.hid (by intro x _ h; omega), Lib.hid (by intro x h h2; have := HNL.out; omega), Below.refl _ _⟩
  case round =>
    obtain ⟨i, j, rfl, rfl, hij, hj, H1, H2, hbw⟩ := hrel
    have hsz := hbw.size
    by_cases hlt : i < j
    · obtain ⟨h, hh⟩ : ∃ h, h = (i + j) / 2 := ⟨_, rfl⟩
      have hhl : h < ps.length := by omega
      have hhi : i ≤ h := by omega
      have hhj : h < j := by omega
      obtain ⟨b1, o1, rfl, c1, c2⟩ := Rf.at (A.out.below' hbw) hhl
      have hq : ((i : Int) + (j : Int)) / 2 = (h : Int) := by omega
      have hnh := hnat h hhl
      have hnh2 : ns[h]'(by rw [HNL.out]; exact hhl) = ps[h].1 := by
        have := List.getElem?_eq_some_iff.1 hnh
        exact this.2
      obtain ⟨⟨nm, tx⟩, hp⟩ : ∃ x, x = ps[h] := ⟨_, rfl⟩
      rw [← hp] at c1 c2 hnh2
      have hnh2 : ns[h]'(by rw [HNL.out]; exact hhl) = nm := hnh2
      clear hh hp hnh
      rcases (by omega : Lib.compareBytes nm t < 0 ∨ 0 ≤ Lib.compareBytes nm t) with hc | hc
      · have HX := Lib.hid (show ∀ x (hx : x < ns.length), x < h + 1 → Lib.compareBytes ns[x] t < 0 by
          intro x hx hxh
          by_cases e : x = h
          · subst e; rw [hnh2]; exact hc
          · have h3 : Lib.compareBytes ns[x] ns[h] < 0 := List.pairwise_iff_getElem.1 SO.out x h hx (by omega) (by omega)
            rw [hnh2] at h3
            exact cb_trans h3 hc)
        have HC := Lib.hid hc
        obtain ⟨z, hz⟩ : ∃ z, z = Lib.compareBytes nm t := ⟨_, rfl⟩
        rw [← hz] at hc
        have HZ := Lib.hid hz
        clear hz hnh2 hnat
        go_wp2_with fail
        (with_reducible refine (fcmpf_any nm tx t wr).mono ?_); rintro e w2 ⟨rfl, b2⟩
        rw [← HZ.out]
        go_wp2_with fail
        go_roundw
        case rel => exact ⟨h + 1, j, by go_num, rfl, by omega, hj, HX, H2, hbw.trans (b2.mono hsz)⟩
        case measure => simp [intOf]; omega
      · have HX := Lib.hid (show ∀ x (hx : x < ns.length), h ≤ x → 0 ≤ Lib.compareBytes ns[x] t by
          intro x hx hxh
          by_cases e : x = h
          · subst e; rw [hnh2]; exact hc
          · have h3 : Lib.compareBytes ns[h] ns[x] < 0 := List.pairwise_iff_getElem.1 SO.out h x (by omega) hx (by omega)
            rw [hnh2] at h3
            rcases (by omega : 0 ≤ Lib.compareBytes ns[x] t ∨ Lib.compareBytes ns[x] t < 0) with h4 | h4
            · exact h4
            · have := cb_trans h3 h4; omega)
        obtain ⟨z, hz⟩ : ∃ z, z = Lib.compareBytes nm t := ⟨_, rfl⟩
        rw [← hz] at hc
        have HZ := Lib.hid hz
        clear hz hnh2 hnat
        go_wp2_with fail
        (with_reducible refine (fcmpf_any nm tx t wr).mono ?_); rintro e w2 ⟨rfl, b2⟩
        rw [← HZ.out]
        go_wp2_with fail
        go_roundw
        case rel => exact ⟨i, h, rfl, rfl, hhi, by omega, H1, HX, hbw.trans (b2.mono hsz)⟩
        case measure => simp [intOf]; omega
    · obtain rfl : i = j := by omega
      have HL := Lib.hid (lb_eq (ns := ns) (t := t) (i := i) (by rw [HNL.out]; exact hj) H1.out (fun hi => by have := H2.out i hi (Nat.le_refl _); omega))
      by_cases hin : i < ps.length
      · obtain ⟨b1, o1, rfl, c1, c2⟩ := Rf.at (A.out.below' hbw) hin
        have hnh := hnat i hin
        obtain ⟨⟨nm, tx⟩, hp⟩ : ∃ x, x = ps[i] := ⟨_, rfl⟩
        rw [← hp] at c1 c2 hnh
        obtain ⟨z, hz⟩ : ∃ z, z = Lib.compareBytes nm t := ⟨_, rfl⟩
        have HR := Lib.hid (show (ns[lb ns t]? == some t) = (z == 0) by
          rw [HL.out, hnh, hz]
          by_cases e : nm = t
          · subst e; rw [cb_self]; simp
          · have : ¬ Lib.compareBytes nm t = 0 := fun h => e (cb_eq h)
            have h1 : (nm == t) = false := by simpa using e
            have h2 : (Lib.compareBytes nm t == 0) = false := by simpa using this
            rw [h2]; exact h1)
        have HZ := Lib.hid hz
        clear hz hnh hp hnat
        have hiz : (i : Int) < (ps.length : Int) := by omega
        go_wp2_with fail
        (with_reducible refine (fcmpf_any nm tx t wr).mono ?_); rintro e w2 ⟨rfl, b2⟩
        rw [← HZ.out]
        go_wp2_with fail
        go_ret2
        exact ⟨by rw [HR.out, HL.out]; rfl, hbw.trans (b2.mono hsz)⟩
      · have HR := Lib.hid (show (ns[lb ns t]? == some t) = false by
          rw [HL.out, List.getElem?_eq_none (by rw [HNL.out]; omega)]; rfl)
        have hiz : decide ((i : Int) < (ps.length : Int)) = false := by simp; omega
        clear hnat
        go_wp2_with fail
        go_ret2
        exact ⟨by rw [HR.out, HL.out]; rfl, hbw⟩

set_option maxHeartbeats 1600000 in
/-- 'place': where a file is, or would be. -/
theorem fplace_any (v : Value) (ps : List Fl) (t : List UInt8) (w : World) (hl : Rf w v ps) (hlen : ps.length ≤ 1000000) (hs : Sorted (Fi.names ps)) :
    Calls Tryz.prog 62 #[v, .string (S t)] w fun e w' => e = .returned (.tuple #[.int .i64 (lb (Fi.names ps) t : Nat), .bool ((Fi.names ps)[lb (Fi.names ps) t]? == some t)]) ∧ Below w.heap.size w w' := by
  have HB := Lib.hid (fbin_any v ps t w hl hlen hs)
  obtain ⟨a0, c0, rfl⟩ := hl.shape
  obtain ⟨r, hr⟩ : ∃ r, r = lb (Fi.names ps) t := ⟨_, rfl⟩
  obtain ⟨q, hq⟩ : ∃ q, q = ((Fi.names ps)[lb (Fi.names ps) t]? == some t) := ⟨_, rfl⟩
  rw [← hq, ← hr] at HB ⊢
  clear hq hr hl hs
  go_enter Tryz.func62, Tryz.ntmps62
  go_wp2_with fail
  (with_reducible refine HB.out.mono ?_); rintro e w2 ⟨rfl, b2⟩
  go_wp2_with fail
  go_ret2
  exact ⟨rfl, b2⟩

theorem getF_at {l : List Fl} (h : Fi.Ord l) {i : Nat} (hi : i < l.length) : Fi.get l l[i].1 = (l[i].2, true) := by
  have e : l.find? (fun f => f.1 == l[i].1) = some l[i] := by
    rw [List.find?_eq_some_iff_getElem]
    refine ⟨by simp, i, hi, rfl, fun j hj => ?_⟩
    have hp := List.pairwise_iff_getElem.1 h j i (by rw [Fi.names_len]; omega) (by rw [Fi.names_len]; exact hi) hj
    rw [Fi.names_at (by omega), Fi.names_at hi] at hp
    have : l[j].1 ≠ l[i].1 := fun e => by rw [e, cb_self] at hp; omega
    simpa using this
  unfold Fi.get
  rw [e]
theorem getF_none {l : List Fl} {t : List UInt8} (h : Fi.has l t = false) : Fi.get l t = ([], false) := by
  have e : l.find? (fun f => f.1 == t) = none := by
    rw [List.find?_eq_none]
    intro f hf he
    have : t ∈ Fi.names l := List.mem_map.2 ⟨f, hf, by simpa using he⟩
    unfold Fi.has at h
    simp [this] at h
  unfold Fi.get
  rw [e]

set_option maxHeartbeats 1600000 in
/-- 'Get'. -/
theorem fget_any (v : Value) (l : List Fl) (t : List UInt8) (w : World) (hl : Rf w v l) (hlen : l.length ≤ 1000000) (hs : Fi.Ord l) :
    Calls Tryz.prog 32 #[v, .string (S t)] w fun e w' => e = .returned (.tuple #[.string (S (Fi.get l t).1), .bool (Fi.get l t).2]) ∧ Below w.heap.size w w' := by
  have HP := Lib.hid (fplace_any v l t w hl hlen hs)
  have HR := Lib.hid hl
  obtain ⟨a0, c0, rfl⟩ := hl.shape
  have hat := Fi.has_at hs t
  rw [lb_is hs] at HP
  rw [show (Fi.names l).contains t = Fi.has l t from rfl] at HP
  have hle := Fi.lbn_le l t
  obtain ⟨r, hr⟩ : ∃ r, r = lb (Fi.names l) t := ⟨_, rfl⟩
  rw [← hr] at HP hat hle
  cases hq : Fi.has l t
  · have HG := Lib.hid (getF_none hq)
    rw [hq] at HP
    rw [HG.out]
    clear hq hat hr hl hs HR
    go_enter Tryz.func32, Tryz.ntmps32
    go_wp2_with fail
    (with_reducible refine HP.out.mono ?_); rintro e w2 ⟨rfl, b2⟩
    simp only [S_lit]
    go_wp2_with fail
    go_ret2
    exact ⟨rfl, b2⟩
  · rw [hq] at HP hat
    obtain ⟨hrl, hn⟩ := of_decide_eq_true hat.symm
    have hG := getF_at hs hrl
    rw [hn] at hG
    have HG := Lib.hid hG
    rw [HG.out]
    clear hq hat hr hl hs hG
    have hri : (r : Int) < (l.length : Int) := by omega
    obtain ⟨tx, htx⟩ : ∃ tx, tx = l[r].2 := ⟨_, rfl⟩
    have HT := Lib.hid htx
    rw [← HT.out]
    clear htx
    go_enter Tryz.func32, Tryz.ntmps32
    go_wp2_with fail
    (with_reducible refine HP.out.mono ?_); rintro e w2 ⟨rfl, b2⟩
    obtain ⟨b1, o1, rfl, c1, c2⟩ := (HR.out.below' b2).at hrl
    rw [← HT.out] at c2
    go_wp2_with fail
    go_ret2
    exact ⟨rfl, b2⟩

end Go.Proofs.YtjfikkjaifdkiaaGreatDoor

namespace Go.Proofs.YtjfikkjaifdkiaaGreatDoor
open Go.RowKit

theorem tyNote : SlTy Tryz.prog 29 81 2 24 := SlTy.mk' (z := .agg #[.int .i64 0, .string ⟨#[]⟩]) Tryz.underlying29 (by kernel_rfl) rfl (by decide)

theorem Rd.keep {w w' : World} {p : Nat → Prop} {k n : Nat} {v : Value} {cs : List Value} (h : Rd w k v n cs) (hk : Kw w w' p) (hne : 0 < n → ∀ b, v.ownBlock = some b → ¬ p b) : Rd w' k v n cs := by
  by_cases h0 : 0 < n
  · exact hk.rd h (hne h0)
  · refine ⟨h.1, .inl ?_⟩
    rcases h.2 with h2 | ⟨b, o, cap, hv, _⟩
    · exact h2
    · have hn : n = 0 := by omega
      subst hn
      exact ⟨.inr ⟨_, _, hv⟩, rfl⟩

theorem obj_lt {w : World} {b : Nat} {o : Obj} (h : w.heap[b]? = some o) : b < w.heap.size := by
  rcases Nat.lt_or_ge b w.heap.size with h1 | h1
  · exact h1
  · rw [Array.getElem?_eq_none h1] at h; cases h
theorem own_cells {w : World} {B T k n : Nat} {v : Value} {xs : List Value} (h : w.ownsRow B T k v n xs) {b : Nat} (hb : v.ownBlock = some b) : ∃ cs T9, w.heap[b]? = some (.cells cs T9 (0, 0)) := by
  rcases h.2 with ⟨h0, _⟩ | ⟨g', cap, cur, hv, _, hg, _⟩
  · rw [h0] at hb; cases hb
  · rw [hv] at hb
    have e : g' = b := by simpa [Value.ownBlock] using hb
    subst e
    exact ⟨_, _, hg⟩
/-- The expansion's own blocks. -/
def Own4 (bw : Nat) (vL vR vN : Value) (b : Nat) : Prop := b = bw ∨ vL.ownBlock = some b ∨ vR.ownBlock = some b ∨ vN.ownBlock = some b
/-- What is read lies elsewhere. -/
def Far (w : World) (bw : Nat) (vL vR vN v : Value) (n : Nat) : Prop := 0 < n → ∀ b, v.ownBlock = some b → b < w.heap.size ∧ ¬ Own4 bw vL vR vN b
theorem Far.mono {w w' : World} {bw : Nat} {vL vR vN v : Value} {n : Nat} (h : Far w bw vL vR vN v n) (hs : w.heap.size ≤ w'.heap.size) : Far w' bw vL vR vN v n := fun h0 b hb => ⟨Nat.lt_of_lt_of_le (h h0 b hb).1 hs, (h h0 b hb).2⟩
structure Ws (M : List (Nat × Obj)) (w : World) (bw : Nat) (vf vin vm vL vR vN : Value) (fs : List Fl) (ps : List (Mac × Value)) (st : Ex.St) : Prop where
  files : Rf w vf fs
  inn : Rt w vin st.inn
  macs : RdM w vm ps
  fst : ps.map Prod.fst = st.macs
  outL : w.ownsRow (bw + 1) 64 2 vL st.outL.length (tcs st.outL)
  reads : w.ownsRow (bw + 1) 9 1 vR st.reads.length (xcs st.reads)
  notes : w.ownsRow (bw + 1) 81 2 vN st.notes.length (tcs st.notes)
  ffar : Far w bw vL vR vN vf fs.length
  ifar : Far w bw vL vR vN vin st.inn.length
  mfar : Far w bw vL vR vN vm ps.length
  bfar : ∀ p ∈ ps, Far w bw vL vR vN p.2 p.1.2.2.length
  mp : ∀ x ∈ M, w.heap[x.1]? = some x.2 ∧ ¬ Own4 bw vL vR vN x.1
theorem Ws.keep {w w' : World} {p : Nat → Prop} {M : List (Nat × Obj)} {bw : Nat} {vf vin vm vL vR vN : Value} {fs : List Fl} {ps : List (Mac × Value)} {st : Ex.St} (h : Ws M w bw vf vin vm vL vR vN fs ps st) (hk : Kw w w' p) (hp : ∀ j, j < w.heap.size → p j → j = bw) : Ws M w' bw vf vin vm vL vR vN fs ps st := by
  have key : ∀ (v : Value) (n : Nat), Far w bw vL vR vN v n → 0 < n → ∀ b, v.ownBlock = some b → ¬ p b := fun v n hf h0 b hb hpb => (hf h0 b hb).2 (.inl (hp b (hf h0 b hb).1 hpb))
  have krow : ∀ {T k n : Nat} {v : Value} {xs : List Value}, w.ownsRow (bw + 1) T k v n xs → ∀ g, v.ownBlock = some g → ¬ p g := fun ho g hg hpg => by
    have h1 := ho.lt g hg
    have := hp g h1.2 hpg
    omega
  exact ⟨Rd.keep h.files hk (key _ _ h.ffar), Rd.keep h.inn hk (key _ _ h.ifar), ⟨Rd.keep h.macs.1 hk (key _ _ h.mfar), fun q hq => ⟨Rd.keep (h.macs.2 q hq).1 hk (key _ _ (h.bfar q hq)), (h.macs.2 q hq).2⟩⟩, h.fst,
    hk.row h.outL (krow h.outL), hk.row h.reads (krow h.reads), hk.row h.notes (krow h.notes), h.ffar.mono hk.size, h.ifar.mono hk.size, h.mfar.mono hk.size, fun q hq => (h.bfar q hq).mono hk.size, fun x hx => ⟨(hk.block x.1 (obj_lt (h.mp x hx).1) fun hpx => (h.mp x hx).2 (.inl (hp _ (obj_lt (h.mp x hx).1) hpx))).trans (h.mp x hx).1, (h.mp x hx).2⟩⟩
theorem Ws.below {w w' : World} {M : List (Nat × Obj)} {bw : Nat} {vf vin vm vL vR vN : Value} {fs : List Fl} {ps : List (Mac × Value)} {st : Ex.St} (h : Ws M w bw vf vin vm vL vR vN fs ps st) (hb : Below w.heap.size w w') : Ws M w' bw vf vin vm vL vR vN fs ps st :=
  h.keep (Kw.of_below hb) fun _ hj hpj => absurd hpj (by omega)
theorem Ws.set {w : World} {M : List (Nat × Obj)} {bw : Nat} {vf vin vm vL vR vN : Value} {fs : List Fl} {ps : List (Mac × Value)} {st : Ex.St} (h : Ws M w bw vf vin vm vL vR vN fs ps st) (i : Nat) (u : Value) : Ws M (w.setCell ⟨bw, i, none⟩ u) bw vf vin vm vL vR vN fs ps st :=
  h.keep (Kw.set w bw i u) fun _ _ hpj => hpj
theorem Ws.setIn {w : World} {M : List (Nat × Obj)} {bw : Nat} {vf vin vin' vm vL vR vN : Value} {fs : List Fl} {ps : List (Mac × Value)} {st : Ex.St} (h : Ws M w bw vf vin vm vL vR vN fs ps st) {l : List Lx.Tok} (hr : Rt w vin' l) (hf : Far w bw vL vR vN vin' l.length) : Ws M w bw vf vin' vm vL vR vN fs ps { st with inn := l } :=
  ⟨h.files, hr, h.macs, h.fst, h.outL, h.reads, h.notes, h.ffar, hf, h.mfar, h.bfar, h.mp⟩
theorem Ws.setMacs {w : World} {M : List (Nat × Obj)} {bw : Nat} {vf vin vm vm' vL vR vN : Value} {fs : List Fl} {ps qs : List (Mac × Value)} {st : Ex.St} (h : Ws M w bw vf vin vm vL vR vN fs ps st) (hr : RdM w vm' qs) (hf : Far w bw vL vR vN vm' qs.length) (hq : ∀ p ∈ qs, Far w bw vL vR vN p.2 p.1.2.2.length) : Ws M w bw vf vin vm' vL vR vN fs qs { st with macs := qs.map Prod.fst } :=
  ⟨h.files, h.inn, hr, rfl, h.outL, h.reads, h.notes, h.ffar, h.ifar, hf, hq, h.mp⟩
/-- One more: outL. -/
theorem Ws.growL {w w9 : World} {M : List (Nat × Obj)} {bw : Nat} {vf vin vm vL vR vN vL' : Value} {fs : List Fl} {ps : List (Mac × Value)} {st : Ex.St} (h : Ws M w bw vf vin vm vL vR vN fs ps st) (x : Lx.Tok) (hk : Kw w w9 fun j => vL.ownBlock = some j) (hn : Near w vL vL')
    (ho : w9.ownsRow (bw + 1) 64 2 vL' (st.outL.length + 1) (tcs st.outL ++ [.int .i64 x.1, .string (S x.2)])) : Ws M w9 bw vf vin vm vL' vR vN fs ps { st with outL := st.outL ++ [x] } := by
  have key : ∀ (v : Value) (n : Nat), Far w bw vL vR vN v n → 0 < n → ∀ b, v.ownBlock = some b → ¬ vL.ownBlock = some b := fun v n hf h0 b hb e => (hf h0 b hb).2 (.inr (.inl e))
  have krow : ∀ {T k n : Nat} {v : Value} {xs : List Value}, w.ownsRow (bw + 1) T k v n xs → T ≠ 64 → ∀ g, v.ownBlock = some g → ¬ vL.ownBlock = some g := fun ho hT g hg e => own_apart2 ho h.outL hT g hg e
  have far : ∀ (v : Value) (n : Nat), Far w bw vL vR vN v n → Far w9 bw vL' vR vN v n := fun v n hf h0 b hb => by
    refine ⟨Nat.lt_of_lt_of_le (hf h0 b hb).1 hk.size, fun e => ?_⟩
    rcases e with e | e | e | e
    · exact (hf h0 b hb).2 (.inl e)
    · rcases hn with h9 | ⟨g, h9, hle⟩
      · exact (hf h0 b hb).2 (.inr (.inl (h9.symm.trans e)))
      · rw [h9] at e; injection e with e; have := (hf h0 b hb).1; omega
    · exact (hf h0 b hb).2 (.inr (.inr (.inl e)))
    · exact (hf h0 b hb).2 (.inr (.inr (.inr e)))
  exact ⟨Rd.keep h.files hk (key _ _ h.ffar), Rd.keep h.inn hk (key _ _ h.ifar), ⟨Rd.keep h.macs.1 hk (key _ _ h.mfar), fun q hq => ⟨Rd.keep (h.macs.2 q hq).1 hk (key _ _ (h.bfar q hq)), (h.macs.2 q hq).2⟩⟩, h.fst,
    (by rw [List.length_append, List.length_singleton, tcs_snoc]; exact ho), hk.row h.reads (krow h.reads (by decide)), hk.row h.notes (krow h.notes (by decide)), far _ _ h.ffar, far _ _ h.ifar, far _ _ h.mfar, fun q hq => far _ _ (h.bfar q hq), fun x hx => ⟨(hk.block x.1 (obj_lt (h.mp x hx).1) fun e => (h.mp x hx).2 (.inr (.inl e))).trans (h.mp x hx).1, (far (.slice (some ⟨x.1, 0, none⟩) 1 1) 1 (fun _ b hb => by
      have e : x.1 = b := by simpa [Value.ownBlock] using hb
      subst e
      exact ⟨obj_lt (h.mp x hx).1, (h.mp x hx).2⟩) (Nat.zero_lt_one) x.1 rfl).2⟩⟩
/-- One more: reads. -/
theorem Ws.growR {w w9 : World} {M : List (Nat × Obj)} {bw : Nat} {vf vin vm vL vR vN vR' : Value} {fs : List Fl} {ps : List (Mac × Value)} {st : Ex.St} (h : Ws M w bw vf vin vm vL vR vN fs ps st) (x : List UInt8) (hk : Kw w w9 fun j => vR.ownBlock = some j) (hn : Near w vR vR')
    (ho : w9.ownsRow (bw + 1) 9 1 vR' (st.reads.length + 1) (xcs st.reads ++ [.string (S x)])) : Ws M w9 bw vf vin vm vL vR' vN fs ps { st with reads := st.reads ++ [x] } := by
  have key : ∀ (v : Value) (n : Nat), Far w bw vL vR vN v n → 0 < n → ∀ b, v.ownBlock = some b → ¬ vR.ownBlock = some b := fun v n hf h0 b hb e => (hf h0 b hb).2 (.inr (.inr (.inl e)))
  have krow : ∀ {T k n : Nat} {v : Value} {xs : List Value}, w.ownsRow (bw + 1) T k v n xs → T ≠ 9 → ∀ g, v.ownBlock = some g → ¬ vR.ownBlock = some g := fun ho hT g hg e => own_apart2 ho h.reads hT g hg e
  have far : ∀ (v : Value) (n : Nat), Far w bw vL vR vN v n → Far w9 bw vL vR' vN v n := fun v n hf h0 b hb => by
    refine ⟨Nat.lt_of_lt_of_le (hf h0 b hb).1 hk.size, fun e => ?_⟩
    rcases e with e | e | e | e
    · exact (hf h0 b hb).2 (.inl e)
    · exact (hf h0 b hb).2 (.inr (.inl e))
    · rcases hn with h9 | ⟨g, h9, hle⟩
      · exact (hf h0 b hb).2 (.inr (.inr (.inl (h9.symm.trans e))))
      · rw [h9] at e; injection e with e; have := (hf h0 b hb).1; omega
    · exact (hf h0 b hb).2 (.inr (.inr (.inr e)))
  exact ⟨Rd.keep h.files hk (key _ _ h.ffar), Rd.keep h.inn hk (key _ _ h.ifar), ⟨Rd.keep h.macs.1 hk (key _ _ h.mfar), fun q hq => ⟨Rd.keep (h.macs.2 q hq).1 hk (key _ _ (h.bfar q hq)), (h.macs.2 q hq).2⟩⟩, h.fst,
    hk.row h.outL (krow h.outL (by decide)), (by rw [List.length_append, List.length_singleton, xcs_snoc]; exact ho), hk.row h.notes (krow h.notes (by decide)), far _ _ h.ffar, far _ _ h.ifar, far _ _ h.mfar, fun q hq => far _ _ (h.bfar q hq), fun x hx => ⟨(hk.block x.1 (obj_lt (h.mp x hx).1) fun e => (h.mp x hx).2 (.inr (.inr (.inl e)))).trans (h.mp x hx).1, (far (.slice (some ⟨x.1, 0, none⟩) 1 1) 1 (fun _ b hb => by
      have e : x.1 = b := by simpa [Value.ownBlock] using hb
      subst e
      exact ⟨obj_lt (h.mp x hx).1, (h.mp x hx).2⟩) (Nat.zero_lt_one) x.1 rfl).2⟩⟩
/-- One more: notes. -/
theorem Ws.growN {w w9 : World} {M : List (Nat × Obj)} {bw : Nat} {vf vin vm vL vR vN vN' : Value} {fs : List Fl} {ps : List (Mac × Value)} {st : Ex.St} (h : Ws M w bw vf vin vm vL vR vN fs ps st) (x : Int × List UInt8) (hk : Kw w w9 fun j => vN.ownBlock = some j) (hn : Near w vN vN')
    (ho : w9.ownsRow (bw + 1) 81 2 vN' (st.notes.length + 1) (tcs st.notes ++ [.int .i64 x.1, .string (S x.2)])) : Ws M w9 bw vf vin vm vL vR vN' fs ps { st with notes := st.notes ++ [x] } := by
  have key : ∀ (v : Value) (n : Nat), Far w bw vL vR vN v n → 0 < n → ∀ b, v.ownBlock = some b → ¬ vN.ownBlock = some b := fun v n hf h0 b hb e => (hf h0 b hb).2 (.inr (.inr (.inr e)))
  have krow : ∀ {T k n : Nat} {v : Value} {xs : List Value}, w.ownsRow (bw + 1) T k v n xs → T ≠ 81 → ∀ g, v.ownBlock = some g → ¬ vN.ownBlock = some g := fun ho hT g hg e => own_apart2 ho h.notes hT g hg e
  have far : ∀ (v : Value) (n : Nat), Far w bw vL vR vN v n → Far w9 bw vL vR vN' v n := fun v n hf h0 b hb => by
    refine ⟨Nat.lt_of_lt_of_le (hf h0 b hb).1 hk.size, fun e => ?_⟩
    rcases e with e | e | e | e
    · exact (hf h0 b hb).2 (.inl e)
    · exact (hf h0 b hb).2 (.inr (.inl e))
    · exact (hf h0 b hb).2 (.inr (.inr (.inl e)))
    · rcases hn with h9 | ⟨g, h9, hle⟩
      · exact (hf h0 b hb).2 (.inr (.inr (.inr (h9.symm.trans e))))
      · rw [h9] at e; injection e with e; have := (hf h0 b hb).1; omega
  exact ⟨Rd.keep h.files hk (key _ _ h.ffar), Rd.keep h.inn hk (key _ _ h.ifar), ⟨Rd.keep h.macs.1 hk (key _ _ h.mfar), fun q hq => ⟨Rd.keep (h.macs.2 q hq).1 hk (key _ _ (h.bfar q hq)), (h.macs.2 q hq).2⟩⟩, h.fst,
    hk.row h.outL (krow h.outL (by decide)), hk.row h.reads (krow h.reads (by decide)), (by rw [List.length_append, List.length_singleton, tcs_snoc]; exact ho), far _ _ h.ffar, far _ _ h.ifar, far _ _ h.mfar, fun q hq => far _ _ (h.bfar q hq), fun x hx => ⟨(hk.block x.1 (obj_lt (h.mp x hx).1) fun e => (h.mp x hx).2 (.inr (.inr (.inr e)))).trans (h.mp x hx).1, (far (.slice (some ⟨x.1, 0, none⟩) 1 1) 1 (fun _ b hb => by
      have e : x.1 = b := by simpa [Value.ownBlock] using hb
      subst e
      exact ⟨obj_lt (h.mp x hx).1, (h.mp x hx).2⟩) (Nat.zero_lt_one) x.1 rfl).2⟩⟩

/-- The whole: its nine cells. -/
def Wk (M : List (Nat × Obj)) (w : World) (bw : Nat) (vf : Value) (fs : List Fl) (most : Nat) (st : Ex.St) : Prop :=
  ∃ (vin vm vL vR vN : Value) (ps : List (Mac × Value)), Ro w bw 53 [vf, vin, vm, .int .i64 (st.fuel : Int), .int .i64 (most : Int), vL, vR, vN, .int .i64 (st.used : Int)] ∧ Ws M w bw vf vin vm vL vR vN fs ps st
theorem Wk.below {w w' : World} {M : List (Nat × Obj)} {bw : Nat} {vf : Value} {fs : List Fl} {most : Nat} {st : Ex.St} (h : Wk M w bw vf fs most st) (hb : Below w.heap.size w w') : Wk M w' bw vf fs most st := by
  obtain ⟨vin, vm, vL, vR, vN, ps, h1, h2⟩ := h
  exact ⟨vin, vm, vL, vR, vN, ps, h1.kw (Kw.of_below hb) (by have := h1.lt; omega), h2.below hb⟩
theorem Wk.lt {w : World} {M : List (Nat × Obj)} {bw : Nat} {vf : Value} {fs : List Fl} {most : Nat} {st : Ex.St} (h : Wk M w bw vf fs most st) : bw < w.heap.size := by
  obtain ⟨vin, vm, vL, vR, vN, ps, h1, h2⟩ := h
  exact h1.lt
/-- What is new lies elsewhere. -/
theorem Ws.fresh {w : World} {M : List (Nat × Obj)} {bw : Nat} {vf vin vm vL vR vN : Value} {fs : List Fl} {ps : List (Mac × Value)} {st : Ex.St} (h : Ws M w bw vf vin vm vL vR vN fs ps st) (hlt : bw < w.heap.size) {b : Nat} (hb : w.heap.size ≤ b) : ¬ Own4 bw vL vR vN b := by
  rintro (e | e | e | e)
  · omega
  · have := (h.outL.lt b e).2; omega
  · have := (h.reads.lt b e).2; omega
  · have := (h.notes.lt b e).2; omega
/-- One block more that stays; one less. -/
theorem Wk.add {w w' : World} {M : List (Nat × Obj)} {bw : Nat} {vf : Value} {fs : List Fl} {most : Nat} {st : Ex.St} (h : Wk M w bw vf fs most st) (hb : Below w.heap.size w w') {b : Nat} {o : Obj} (ho : w'.heap[b]? = some o) (hle : w.heap.size ≤ b) : Wk ((b, o) :: M) w' bw vf fs most st := by
  obtain ⟨vin, vm, vL, vR, vN, ps, h1, h2⟩ := h
  have h3 := h2.below hb
  refine ⟨vin, vm, vL, vR, vN, ps, h1.kw (Kw.of_below hb) (by have := h1.lt; omega), ⟨h3.files, h3.inn, h3.macs, h3.fst, h3.outL, h3.reads, h3.notes, h3.ffar, h3.ifar, h3.mfar, h3.bfar, fun x hx => ?_⟩⟩
  rcases List.mem_cons.1 hx with rfl | hx
  · exact ⟨ho, h2.fresh h1.lt hle⟩
  · exact h3.mp x hx
theorem Wk.less {w : World} {M : List (Nat × Obj)} {x : Nat × Obj} {bw : Nat} {vf : Value} {fs : List Fl} {most : Nat} {st : Ex.St} (h : Wk (x :: M) w bw vf fs most st) : Wk M w bw vf fs most st := by
  obtain ⟨vin, vm, vL, vR, vN, ps, h1, h2⟩ := h
  exact ⟨vin, vm, vL, vR, vN, ps, h1, ⟨h2.files, h2.inn, h2.macs, h2.fst, h2.outL, h2.reads, h2.notes, h2.ffar, h2.ifar, h2.mfar, h2.bfar, fun y hy => h2.mp y (List.mem_cons_of_mem _ hy)⟩⟩
theorem Wk.obj {w : World} {M : List (Nat × Obj)} {bw : Nat} {vf : Value} {fs : List Fl} {most : Nat} {st : Ex.St} (h : Wk M w bw vf fs most st) {x : Nat × Obj} (hx : x ∈ M) : w.heap[x.1]? = some x.2 := by
  obtain ⟨vin, vm, vL, vR, vN, ps, h1, h2⟩ := h
  exact (h2.mp x hx).1
/-- A fault; none. -/
def Er (w : World) (v : Value) : Option (Int × List UInt8) → Prop
  | none => v = .nilIface
  | some x => ∃ b, v = .iface 57 (.pointer (some ⟨b, 0, none⟩)) ∧ Ro w b 59 [.string (S x.2), .int .i64 x.1]
theorem Er.below {w w' : World} {v : Value} {o : Option (Int × List UInt8)} (h : Er w v o) (hb : Below w.heap.size w w') : Er w' v o := by
  cases o with
  | none => exact h
  | some x =>
    obtain ⟨b, h1, h2⟩ := h
    exact ⟨b, h1, h2.kw (Kw.of_below hb) (by have := h2.lt; omega)⟩
def Ex.noteO (st : Ex.St) : Option (Int × List UInt8) → Ex.St
  | none => st
  | some x => Ex.note st x.1 x.2
end Go.Proofs.YtjfikkjaifdkiaaGreatDoor

namespace Go.Proofs.YtjfikkjaifdkiaaGreatDoor
open Go.RowKit

section
variable {P : Program} {ops : Array Oper} {rest : List Oper} {o : Oper} {a : Act} {Q : Exit → Act → World → Prop} {w : World}
/-- Append, by what it answers. -/
theorem wp_zeros {t tn : TypeId} (hgd : o.guard = none) (s x : Operand) (ho : o.op = .call { callee := .builtin .append, args := #[s, x], argTypes := #[t, tn] }) {v xv r : Value} {w' : World} (hs : a.eval s = v) (hx : a.eval x = xv)
    (hr : (Builtin.append_ #[t, tn] o.type #[v, xv]).run P w = .ok r w') (h : wpList P ops Q rest (a.put o.dst r) w') : wpList P ops Q (o :: rest) a w := by
  refine wpList_plain hgd fun _ hK => ?_
  unfold Oper.wp execOp
  simp only [ho, resolve, invoke, builtin, Sem.run_bind, Sem.run_pure, Result.andThen_ok, List.map_toArray, List.map_cons, List.map_nil, hs, hx, hr]
  exact hK _ _ h
end

set_option maxRecDepth 20000 in
set_option maxHeartbeats 1000000 in
/-- Room for so many. -/
theorem grow_any (n : Nat) (w : World) (hn : n ≤ 100000000) :
    Calls Tryz.prog 108 #[.slice none 0 0, .int .i64 (n : Int)] w fun e w' => ∃ v', e = .returned v' ∧ w'.ownsRow w.heap.size 64 2 v' 0 [] ∧ Below w.heap.size w w' := by
  rcases Nat.eq_zero_or_pos n with rfl | h0
  · go_enter Tryz.func108, Tryz.ntmps108
    go_wp2_with fail
    go_ret
    exact ⟨_, rfl, World.ownsRow_nil _ _ _ _, Below.refl _ _⟩
  · obtain ⟨i, z, hi, hz, hsz, hby, hzs⟩ := tyTok.hi
    have hg := Lib.run_append_nil_zeros (P := Tryz.prog) w 27 3 27 64 i z .i64 .i64 Tryz.underlying27 Tryz.underlying3 hi hz n h0 (by omega) (by omega) (by rw [hby]; omega)
    obtain ⟨c, hc⟩ : ∃ c, c = grownCap w n 0 64 := ⟨_, rfl⟩
    have hcn : n ≤ c := by rw [hc]; exact grownCap_ge _ _ _ _
    have hcm : c ≤ maxLen := by rw [hc]; exact grownCap_le_maxLen _ _ _ _ (by unfold maxLen; omega)
    rw [← hc] at hg
    obtain ⟨cur, hcur⟩ : ∃ cur, cur = Builtin.zeroCells z.cells n ++ Builtin.zeroCells z.cells (c - n) := ⟨_, rfl⟩
    rw [← hcur] at hg
    have hcs : cur.size = c * 2 := by rw [hcur, Array.size_append, size_zeroCells, size_zeroCells, hzs, ← Nat.add_mul, Nat.add_sub_cancel' hcn]
    have HO : Hid ((w.drew.alloc (.cells cur 64)).ownsRow w.heap.size 64 2 (.slice (some ⟨w.heap.size, 0, none⟩) 0 c) 0 []) := Lib.hid (World.ownsRow_made w.drew cur c (Nat.le_refl _) hcm hcs)
    have HB : Hid (Below w.heap.size w (w.drew.alloc (.cells cur 64))) := Lib.hid ((below_drewN (Below.refl w.heap.size w) 1).alloc (Nat.le_refl _) _)
    have hnn : (0 : Int) < (n : Int) := by omega
    have hc0 : (0 : Int) ≤ (c : Int) := by omega
    clear hcur hcs hc hi hz hsz hby hzs hcm
    go_enter Tryz.func108, Tryz.ntmps108
    go_wp2_with (first | (at_builtin; refine wp_zeros rfl _ _ rfl rfl rfl hg ?_) | fail)
    go_ret
    exact ⟨_, rfl, HO.out, HB.out⟩

theorem flatten_take {α : Type} {ls : List (List α)} {j : Nat} (hj : j < ls.length) : (ls.take (j + 1)).flatten = (ls.take j).flatten ++ ls[j] := by
  rw [take_snoc ls j hj, List.flatten_append]
  simp
theorem flatten_le {ls : List (List Lx.Tok)} {m : Nat} (h : ∀ l ∈ ls, l.length ≤ m) : ∀ j, (ls.take j).flatten.length ≤ ls.length * m := by
  intro j
  have h2 : ∀ l ∈ ls.take j, l.length ≤ m := fun l hl => h l (List.mem_of_mem_take hl)
  have h3 : ∀ ks : List (List Lx.Tok), (∀ l ∈ ks, l.length ≤ m) → ks.flatten.length ≤ ks.length * m := fun ks => by
    induction ks with
    | nil => intro _; simp
    | cons a r ih =>
      intro hk
      have := ih fun l hl => hk l (List.mem_cons_of_mem _ hl)
      have h4 := hk a (by simp)
      rw [List.flatten_cons, List.length_append, List.length_cons, Nat.succ_mul]
      omega
  have h5 := h3 _ h2
  have h6 : (ls.take j).length * m ≤ ls.length * m := Nat.mul_le_mul_right _ (by rw [List.length_take]; omega)
  omega

set_option maxRecDepth 20000 in
set_option maxHeartbeats 4000000 in
/-- 'slices.Concat' of lists of tokens. -/
theorem concat_any (v : Value) (ls : List (List Lx.Tok)) (w : World) (h : Rts w v ls) (hl : ls.length ≤ 10) (hls : ∀ l ∈ ls, l.length ≤ 1000000) :
    Calls Tryz.prog 76 #[v] w fun e w' => ∃ v', e = .returned v' ∧ w'.ownsRow w.heap.size 64 2 v' ls.flatten.length (tcs ls.flatten) ∧ Below w.heap.size w w' := by
  have H := Lib.hid h
  obtain ⟨a0, c0, rfl⟩ := h.shape
  clear h
  have HLE := Lib.hid hls
  have HFL : Hid (∀ j, (ls.take j).flatten.length ≤ 10000000) := Lib.hid fun j => by have := flatten_le hls j; have : ls.length * 1000000 ≤ 10 * 1000000 := Nat.mul_le_mul_right _ hl; omega
  clear hls
  go_enter Tryz.func76, Tryz.ntmps76
  go_upto_block 0 with fail
  go_cut [3] (fun v3 w' => v3 = .int .i64 (ls.flatten.length : Int) ∧ w' = w)
  case first =>
    go_wp2_with fail
    go_loopg [3, 11] (ls.length - 0) (fun n v3 v11 wr => ∃ j m : Nat, v3 = .int .i64 m ∧ v11 = .int .i64 j ∧ wr = w ∧ Hid (m = (ls.take j).flatten.length) ∧ Hid (j ≤ ls.length ∧ ls.length - j = n))
    case atStart => exact ⟨0, 0, rfl, rfl, rfl, Lib.hid rfl, Lib.hid ⟨Nat.zero_le _, rfl⟩⟩
    case round =>
      obtain ⟨j, m, rfl, rfl, rfl, HM, HJ⟩ := hrel
      by_cases hj : j < ls.length
      · have hjj : (j : Int) < (ls.length : Int) := by omega
        obtain ⟨b, o, u, rfl, c1, r1, _⟩ := H.out.at hj
        obtain ⟨row, hrow⟩ : ∃ row, row = ls[j] := ⟨_, rfl⟩
        rw [← hrow] at r1
        have HN : Hid ((ls.take (j + 1)).flatten.length = m + row.length) := Lib.hid (by rw [flatten_take hj, List.length_append, hrow, HM.out])
        have hmr : m + row.length ≤ 10000000 := by have := HFL.out (j + 1); rw [HN.out] at this; exact this
        obtain ⟨au, cu, hu⟩ := r1.shape
        subst hu
        clear r1 hrow
        go_wp2_with fail
        go_roundg (ls.length - (j + 1))
        case measure => have := HJ.out.2; omega
        case rel => exact ⟨j + 1, m + row.length, by simp, by simp, rfl, Lib.hid HN.out.symm, Lib.hid ⟨hj, rfl⟩⟩
      · obtain rfl : j = ls.length := by have := HJ.out.1; omega
        have hm := HM.out
        rw [List.take_length] at hm
        have HMM := Lib.hid hm
        clear hm
        go_wp2_with fail
        go_meet
        exact ⟨by rw [HMM.out], rfl⟩
  case rest =>
    obtain ⟨rfl, rfl⟩ := hcut
    rename World => w
    have hfl : ls.flatten.length ≤ 10000000 := by have := HFL.out ls.length; rw [List.take_length] at this; exact this
    have HG := Lib.hid (grow_any ls.flatten.length w (by omega))
    obtain ⟨N, hN⟩ : ∃ N, N = ls.flatten.length := ⟨_, rfl⟩
    have HN := Lib.hid hN
    rw [← hN] at HG hfl ⊢
    clear hN
    go_wp2_with fail
    (with_reducible refine HG.out.mono ?_); rintro e w1 ⟨v1, rfl, o1, b1⟩
    have HO0 : Hid (w1.ownsRow w.heap.size 64 2 v1 (ls.take 0).flatten.length (tcs (ls.take 0).flatten)) := Lib.hid o1
    have HB0 := Lib.hid b1
    clear o1 b1 HG
    go_wp2_with fail
    go_loopg [6, 27] (ls.length - 0) (fun n v6 v27 wr => ∃ (j : Nat) (u : Value), u = v6 ∧ v27 = .int .i64 j ∧ Hid (wr.ownsRow w.heap.size 64 2 u (ls.take j).flatten.length (tcs (ls.take j).flatten)) ∧ Hid (j ≤ ls.length ∧ ls.length - j = n) ∧ Hid (Below w.heap.size w wr))
    case atStart => exact ⟨0, _, rfl, rfl, HO0, Lib.hid ⟨Nat.zero_le _, rfl⟩, HB0⟩
    case round =>
      clear HO0 HB0
      obtain ⟨j, u, rfl, rfl, HO, HJ, HB⟩ := hrel
      by_cases hj : j < ls.length
      · have hjj : (j : Int) < (ls.length : Int) := by omega
        obtain ⟨b, o, x, rfl, c1, r1, _⟩ := (H.out.below' HB.out).at hj
        obtain ⟨row, hrow⟩ : ∃ row, row = ls[j] := ⟨_, rfl⟩
        rw [← hrow] at r1
        have HNF : Hid ((ls.take (j + 1)).flatten = (ls.take j).flatten ++ row) := Lib.hid (by rw [flatten_take hj, hrow])
        have hmr : (ls.take j).flatten.length + row.length ≤ 10000000 := by have := HFL.out (j + 1); rw [HNF.out, List.length_append] at this; exact this
        clear hrow
        obtain ⟨FL, hF⟩ : ∃ FL, FL = (ls.take j).flatten := ⟨_, rfl⟩
        rw [← hF] at HO HNF hmr
        clear hF
        have hown := HO.out
        have hrd : Rd wr 2 x row.length (tcs row) := r1
        have hsz := HB.out.size
        clear r1
        go_wp2_with (first
          | (at_builtin; refine wp_app_all2 tyTok rfl _ _ rfl w.heap.size hown hrd rfl rfl tcs_one (by omega) (by omega) hsz ?_; intro v3 w3 o3 d3 _ _; have HO3 := Lib.hid o3; have HD3 := Lib.hid d3; clear o3 d3)
          | fail)
        go_roundg (ls.length - (j + 1))
        case measure => have := HJ.out.2; omega
        case rel => exact ⟨j + 1, _, rfl, by simp, Lib.hid (by rw [HNF.out, List.length_append, tcs_append]; exact HO3.out), Lib.hid ⟨hj, rfl⟩, Lib.hid (HB.out.trans HD3.out)⟩
      · obtain rfl : j = ls.length := by have := HJ.out.1; omega
        have ho := HO.out
        rw [List.take_length] at ho
        have HOO := Lib.hid ho
        clear ho
        go_wp2_with fail
        go_ret
        exact ⟨_, rfl, HOO.out, HB.out⟩
end Go.Proofs.YtjfikkjaifdkiaaGreatDoor
