
/- Get, Drop, Put of the reference. No condition. -/
import Derived.Test.YtgpifaedcelnnaaFiDrop
import Derived.Test.YtgpifaedcelnnaaFiRight
namespace Go.Proofs.Ytgpifaedcelnnaa
open Go.RowKit

theorem drop_snoc {l : List Fl} {k : Nat} (h : k < l.length) (t : List UInt8) : Fi.drop (l.take (k + 1)) t = Fi.drop (l.take k) t ++ (if l[k].1 = t then [] else [l[k]]) := by
  unfold Fi.drop
  rw [take_snoc l k h, List.filter_append]
  congr 1
  by_cases hc : l[k].1 = t
  · rw [if_pos hc, List.filter_cons, if_neg (by simp [hc])]; rfl
  · rw [if_neg hc, List.filter_cons, if_pos (by simp [hc])]; rfl
theorem drop_le (l : List Fl) (t : List UInt8) : (Fi.drop l t).length ≤ l.length := List.length_filter_le _ _
theorem drop_lt (l : List Fl) (t : List UInt8) : decide ((Fi.drop l t).length < l.length) = Fi.has l t := by
  cases hq : Fi.has l t
  · rw [dropF_none hq]; simp
  · rw [decide_eq_true_iff]
    unfold Fi.drop
    rcases Nat.lt_or_ge (l.filter fun f => f.1 != t).length l.length with h | h
    · exact h
    · exfalso
      have := List.length_filter_eq_length_iff.1 (Nat.le_antisymm (List.length_filter_le _ _) h)
      unfold Fi.has Fi.names at hq
      rw [List.contains_iff_mem] at hq
      obtain ⟨f, hf, e⟩ := List.mem_map.1 hq
      have h2 := this f hf
      simp [e] at h2

set_option maxRecDepth 20000 in
set_option maxHeartbeats 4000000 in
/-- 'Get' of the reference. -/
theorem refFget_any (v : Value) (l : List Fl) (t : List UInt8) (w : World) (hl : Rf w v l) (hlen : l.length ≤ 1000000) :
    Calls Try.prog 11 #[v, .string (S t)] w fun e w' => e = .returned (.tuple #[.string (S (Fi.get l t).1), .bool (Fi.get l t).2]) ∧ Below w.heap.size w w' := by
  obtain ⟨a0, c0, rfl⟩ := hl.shape
  have HL := Lib.hid hl
  clear hl
  go_enter Try.func11, Try.ntmps11
  go_wp2_with fail
  go_loopw [6] (fun i wr => ∃ k : Nat, k ≤ l.length ∧ i = .int .i64 k ∧ Hid (Fi.get l t = Fi.get (l.drop k) t) ∧ Below w.heap.size w wr) (fun i _ => l.length - (intOf i).toNat)
  case atStart => exact ⟨0, Nat.zero_le _, rfl, Lib.hid rfl, Below.refl _ _⟩
  case round =>
    obtain ⟨k, hk, rfl, HE, hbw⟩ := hrel
    by_cases hlt : k < l.length
    · obtain ⟨b1, o1, rfl, c10, c11⟩ := (HL.out.below' hbw).at hlt
      have hg : Fi.get (l.drop k) t = if l[k].1 = t then (l[k].2, true) else Fi.get (l.drop (k + 1)) t := by
        rw [drop_at hlt]
        unfold Fi.get
        rw [List.find?_cons]
        by_cases hc : l[k].1 = t
        · rw [if_pos hc, show (l[k].1 == t) = true by simpa using hc]
        · rw [if_neg hc, show (l[k].1 == t) = false by simpa using hc]
      obtain ⟨⟨nm, tx⟩, hx⟩ : ∃ x, x = l[k] := ⟨_, rfl⟩
      rw [← hx] at c10 c11 hg
      clear hx
      by_cases hc : nm = t
      · have HG := Lib.hid (show Fi.get l t = (tx, true) by rw [HE.out, hg, if_pos hc])
        have hcb : (nm == t) = true := by simpa using hc
        clear hc hg
        go_wp2_with fail
        go_ret2
        exact ⟨by rw [HG.out]; rfl, hbw⟩
      · have HG := Lib.hid (show Fi.get l t = Fi.get (l.drop (k + 1)) t by rw [HE.out, hg, if_neg hc])
        have hcb : (nm == t) = false := by simpa using hc
        clear hc hg
        go_wp2_with fail
        go_roundw
        case rel => exact ⟨k + 1, by omega, by go_num, HG, hbw⟩
        case measure => simp [intOf]; omega
    · obtain rfl : k = l.length := by omega
      have HG := Lib.hid (show Fi.get l t = ([], false) by rw [HE.out, List.drop_length]; rfl)
      go_wp2_with fail
      go_ret2
      exact ⟨by rw [HG.out]; rfl, hbw⟩

set_option maxRecDepth 20000 in
set_option maxHeartbeats 4000000 in
/-- 'Drop' of the reference. -/
theorem refFdrop_any (v : Value) (l : List Fl) (t : List UInt8) (w : World) (hl : Rf w v l) (hlen : l.length ≤ 1000000) :
    Calls Try.prog 15 #[v, .string (S t)] w fun e w' => ∃ v', e = .returned (.tuple #[v', .bool (Fi.has l t)]) ∧ w'.ownsRow w.heap.size 25 2 v' (Fi.drop l t).length (fcs (Fi.drop l t)) ∧ Below w.heap.size w w' := by
  obtain ⟨a0, c0, rfl⟩ := hl.shape
  have HL := Lib.hid hl
  clear hl
  go_enter Try.func15, Try.ntmps15
  go_wp2_with fail
  go_loopw [6, 7] (fun v i wr => ∃ k : Nat, k ≤ l.length ∧ i = .int .i64 k ∧ wr.ownsRow w.heap.size 25 2 v (Fi.drop (l.take k) t).length (fcs (Fi.drop (l.take k) t)) ∧ Below w.heap.size w wr) (fun _ i _ => l.length - (intOf i).toNat)
  case atStart => exact ⟨0, Nat.zero_le _, rfl, World.ownsRow_made w #[] 0 (Nat.le_refl _) (by decide) rfl, (Below.refl _ _).alloc (Nat.le_refl _) _⟩
  case round =>
    obtain ⟨k, hk, rfl, hown, hbw⟩ := hrel
    have hsz := hbw.size
    by_cases hlt : k < l.length
    · obtain ⟨b1, o1, rfl, c10, c11⟩ := (HL.out.below' hbw).at hlt
      have HN := Lib.hid (drop_snoc hlt t)
      have hln := drop_le (l.take k) t
      rw [List.length_take, Nat.min_eq_left hk] at hln
      obtain ⟨⟨nm, tx⟩, hx⟩ : ∃ x, x = l[k] := ⟨_, rfl⟩
      rw [← hx] at c10 c11 HN
      simp only at HN
      clear hx
      obtain ⟨out, hout⟩ : ∃ out, out = Fi.drop (l.take k) t := ⟨_, rfl⟩
      rw [← hout] at hown hln HN
      clear hout
      by_cases hc : nm = t
      · have HX := Lib.hid (show Fi.drop (l.take (k + 1)) t = out by rw [HN.out, if_pos hc, List.append_nil])
        have hcb : (nm == t) = true := by simpa using hc
        clear hc
        go_wp2_with fail
        go_roundw
        case rel => exact ⟨k + 1, by omega, by go_num, (by rw [HX.out]; exact hown), hbw⟩
        case measure => simp [intOf]; omega
      · have HX := Lib.hid (show Fi.drop (l.take (k + 1)) t = out ++ [(nm, tx)] by rw [HN.out, if_neg hc])
        have hcb : (nm == t) = false := by simpa using hc
        clear hc
        go_wp2_with (first | (at_builtin; refine wp_app tyF rfl _ _ rfl w.heap.size hown rfl rfl rfl rfl fc_one (by omega) (by omega) hsz ?_; intro v3 w3 o3 b3 _) | fail)
        go_roundw
        case rel => exact ⟨k + 1, by omega, by go_num, (by rw [HX.out, fcs_snoc, List.length_append]; exact o3), hbw.trans b3⟩
        case measure => simp [intOf]; omega
    · obtain rfl : k = l.length := by omega
      rw [List.take_length] at hown
      have hdl := drop_lt l t
      obtain ⟨q, hq⟩ : ∃ q, q = Fi.has l t := ⟨_, rfl⟩
      rw [← hq] at hdl
      have HQ := Lib.hid hq
      obtain ⟨d, hd⟩ : ∃ d, d = Fi.drop l t := ⟨_, rfl⟩
      rw [← hd] at hdl hown
      have HD := Lib.hid hd
      clear hq hd
      have hdi : decide ((d.length : Int) < (l.length : Int)) = q := by rw [← hdl, decide_eq_decide]; omega
      obtain ⟨a5, c5, rfl⟩ := own_shape hown
      go_wp2_with fail
      go_ret2
      exact ⟨_, by rw [← HQ.out]; rfl, by rw [← HD.out]; exact hown, hbw⟩

end Go.Proofs.Ytgpifaedcelnnaa
