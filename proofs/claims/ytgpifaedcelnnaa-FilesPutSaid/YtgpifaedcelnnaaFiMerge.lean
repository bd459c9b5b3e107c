
/- 'Merge' of both. No condition. -/
import Derived.Test.YtgpifaedcelnnaaFiLawC
namespace Go.Proofs.Ytgpifaedcelnnaa
open Go.RowKit

theorem merge_end (a : List Fl) : Fi.merge a [] = (a, 0) := rfl
theorem merge_go {a r : List Fl} {f : Fl} (h : (Fi.put a f).2 = 0) : Fi.merge a (f :: r) = Fi.merge (Fi.put a f).1 r := by
  unfold Fi.merge
  rw [if_pos h]
  cases r <;> rfl
theorem merge_stop {a r : List Fl} {f : Fl} (h : (Fi.put a f).2 ≠ 0) : Fi.merge a (f :: r) = ([], (Fi.put a f).2) := by
  conv => lhs; unfold Fi.merge
  rw [if_neg h]

set_option maxRecDepth 20000 in
set_option maxHeartbeats 4000000 in
/-- 'Merge'. -/
theorem fmerge_any (va vb : Value) (a b : List Fl) (w : World) (ha : Rf w va a) (hb : Rf w vb b) (hla : a.length ≤ 1000) (hlb : b.length ≤ 1000) (hsa : Fi.Ord a) (hs : ∀ f ∈ b, f.1.length ≤ 9223372036854775807) :
    Calls Try.prog 26 #[va, vb] w fun e w' => ∃ v', e = .returned (.tuple #[v', .int .i64 (Fi.merge a b).2]) ∧ Rf w' v' (Fi.merge a b).1 ∧ Below w.heap.size w w' := by
  obtain ⟨aa, ca, rfl⟩ := ha.shape
  obtain ⟨ab, cb, rfl⟩ := hb.shape
  have HA := Lib.hid ha
  have HB := Lib.hid hb
  have HS := Lib.hid hs
  have HO0 := Lib.hid hsa
  clear ha hb hs hsa
  go_enter Try.func26, Try.ntmps26
  go_wp2_with fail
  (with_reducible refine (clone_any _ a w HA.out (by omega)).mono ?_); rintro e w1 ⟨v1, rfl, o1, b1⟩
  have r1 := rf_own o1
  go_wp2_with fail
  go_loopw [6, 15] (fun v i wr => ∃ (k : Nat) (out : List Fl), k ≤ b.length ∧ i = .int .i64 k ∧ Hid (Fi.merge a b = Fi.merge out (b.drop k)) ∧ Hid (Fi.Ord out) ∧ out.length ≤ a.length + k ∧ Hid (Rf wr v out) ∧ Below w.heap.size w wr) (fun _ i _ => b.length - (intOf i).toNat)
  case atStart => exact ⟨0, a, Nat.zero_le _, rfl, Lib.hid rfl, HO0, Nat.le_refl _, Lib.hid r1, b1⟩
  case round =>
    obtain ⟨k, out, hk, rfl, HE, HO, hol, RO, hbw⟩ := hrel
    have hsz := hbw.size
    by_cases hlt : k < b.length
    · obtain ⟨b3, o3, rfl, d10, d11⟩ := (HB.out.below' hbw).at hlt
      have hsk := HS.out _ (List.getElem_mem hlt)
      have HM := Lib.hid (HE.out.trans (by rw [List.drop_eq_getElem_cons hlt]))
      obtain ⟨⟨nm, tx⟩, hx⟩ : ∃ x, x = b[k] := ⟨_, rfl⟩
      rw [← hx] at d10 d11 hsk HM
      simp only at hsk
      clear hx HE
      have rox := RO.out.below' ((Below.refl _ wr).alloc (Nat.le_refl _) (.cells #[.string (S nm), .string (S tx)] 25))
      have bx := hbw.alloc hsz (.cells #[.string (S nm), .string (S tx)] 25)
      have HPC := Lib.hid (fput_any u6 out (nm, tx) _ rox (by omega) HO.out hsk)
      have HG := Lib.hid (fun h => HM.out.trans (merge_go h))
      have HT := Lib.hid (fun h => HM.out.trans (merge_stop h))
      have hpl := put_len out (nm, tx)
      have hpo := ord_put HO.out (nm, tx)
      obtain ⟨⟨po, pe⟩, hp⟩ : ∃ p, p = Fi.put out (nm, tx) := ⟨_, rfl⟩
      rw [← hp] at HPC HG HT hpl hpo
      simp only at HPC HG HT hpl
      have HPO := Lib.hid hpo
      clear hp hpo rox RO HM
      go_wp2_with fail
      (with_reducible refine HPC.out.mono ?_); rintro e w2 ⟨v2, rfl, o2, b2⟩
      have B2 := bx.trans (b2.mono bx.size)
      by_cases hz : pe = 0
      · subst hz
        have HM2 := Lib.hid (HG.out rfl)
        go_wp2_with fail
        go_roundw
        case rel => exact ⟨k + 1, po, by omega, by go_num, HM2, HPO, by omega, Lib.hid (rf_own o2), B2⟩
        case measure => simp [intOf]; omega
      · have hp1 : (pe == 0) = false := by simpa using hz
        have hp2 : (pe != 0) = true := by simpa using hz
        have HM2 := Lib.hid (HT.out hz)
        go_wp2_with fail
        go_ret2
        exact ⟨_, by rw [HM2.out]; rfl, by rw [HM2.out]; exact Rf.nil _, B2⟩
    · obtain rfl : k = b.length := by omega
      have HF := Lib.hid (HE.out.trans (by rw [List.drop_length, merge_end]))
      go_wp2_with fail
      go_ret2
      exact ⟨_, by rw [HF.out]; rfl, by rw [HF.out]; exact RO.out, hbw⟩

set_option maxRecDepth 20000 in
set_option maxHeartbeats 4000000 in
/-- 'Merge' of the reference. -/
theorem refFmerge_any (va vb : Value) (a b : List Fl) (w : World) (ha : Rf w va a) (hb : Rf w vb b) (hla : a.length ≤ 1000) (hlb : b.length ≤ 1000) (hsa : Fi.Ord a) (hs : ∀ f ∈ b, f.1.length ≤ 9223372036854775807) :
    Calls Try.prog 27 #[va, vb] w fun e w' => ∃ v', e = .returned (.tuple #[v', .int .i64 (Fi.merge a b).2]) ∧ Rf w' v' (Fi.merge a b).1 ∧ Below w.heap.size w w' := by
  obtain ⟨aa, ca, rfl⟩ := ha.shape
  obtain ⟨ab, cb, rfl⟩ := hb.shape
  have HA := Lib.hid ha
  have HB := Lib.hid hb
  have HS := Lib.hid hs
  have HO0 := Lib.hid hsa
  clear ha hb hs hsa
  go_enter Try.func27, Try.ntmps27
  go_wp2_with fail
  go_loopw [0, 6] (fun v i wr => ∃ (k : Nat) (out : List Fl), k ≤ b.length ∧ i = .int .i64 k ∧ Hid (Fi.merge a b = Fi.merge out (b.drop k)) ∧ Hid (Fi.Ord out) ∧ out.length ≤ a.length + k ∧ Hid (Rf wr v out) ∧ Below w.heap.size w wr) (fun _ i _ => b.length - (intOf i).toNat)
  case atStart => exact ⟨0, a, Nat.zero_le _, rfl, Lib.hid rfl, HO0, Nat.le_refl _, HA, Below.refl _ _⟩
  case round =>
    obtain ⟨k, out, hk, rfl, HE, HO, hol, RO, hbw⟩ := hrel
    have hsz := hbw.size
    by_cases hlt : k < b.length
    · obtain ⟨b3, o3, rfl, d10, d11⟩ := (HB.out.below' hbw).at hlt
      have hsk := HS.out _ (List.getElem_mem hlt)
      have HM := Lib.hid (HE.out.trans (by rw [List.drop_eq_getElem_cons hlt]))
      obtain ⟨⟨nm, tx⟩, hx⟩ : ∃ x, x = b[k] := ⟨_, rfl⟩
      rw [← hx] at d10 d11 hsk HM
      simp only at hsk
      clear hx HE
      have HPC := Lib.hid (refFput_any u0 out (nm, tx) wr RO.out (by omega) HO.out hsk)
      have HG := Lib.hid (fun h => HM.out.trans (merge_go h))
      have HT := Lib.hid (fun h => HM.out.trans (merge_stop h))
      have hpl := put_len out (nm, tx)
      have hpo := ord_put HO.out (nm, tx)
      obtain ⟨⟨po, pe⟩, hp⟩ : ∃ p, p = Fi.put out (nm, tx) := ⟨_, rfl⟩
      rw [← hp] at HPC HG HT hpl hpo
      simp only at HPC HG HT hpl
      have HPO := Lib.hid hpo
      clear hp hpo RO HM
      go_wp2_with fail
      (with_reducible refine HPC.out.mono ?_); rintro e w2 ⟨v2, rfl, o2, b2⟩
      have B2 := hbw.trans (b2.mono hsz)
      by_cases hz : pe = 0
      · subst hz
        have HM2 := Lib.hid (HG.out rfl)
        go_wp2_with fail
        go_roundw
        case rel => exact ⟨k + 1, po, by omega, by go_num, HM2, HPO, by omega, Lib.hid (rf_own o2), B2⟩
        case measure => simp [intOf]; omega
      · have hp1 : (pe == 0) = false := by simpa using hz
        have hp2 : (pe != 0) = true := by simpa using hz
        have HM2 := Lib.hid (HT.out hz)
        go_wp2_with fail
        go_ret2
        exact ⟨_, by rw [HM2.out]; rfl, by rw [HM2.out]; exact Rf.nil _, B2⟩
    · obtain rfl : k = b.length := by omega
      have HF := Lib.hid (HE.out.trans (by rw [List.drop_length, merge_end]))
      go_wp2_with fail
      go_ret2
      exact ⟨_, by rw [HF.out]; rfl, by rw [HF.out]; exact RO.out, hbw⟩

end Go.Proofs.Ytgpifaedcelnnaa
