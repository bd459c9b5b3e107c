
/- 'GraphRecords', walked: it answers true at every input. No condition. -/
import Derived.Test.YtemdhbeegheefaaGrFixed
import Derived.Test.YtemdhbeegheefaaGrOfM
import Derived.Test.YtemdhbeegheefaaGrCutR
namespace Go.Proofs.Ytemdhbeegheefaa
open Go.RowKit Gr

theorem recG_short {l : List Rcd} (hl : l.length ≤ 1000) : ∀ r ∈ (recG l).map nn, r.length ≤ 1000000 := by
  intro r hr
  obtain ⟨q, hq, rfl⟩ := List.mem_map.1 hr
  obtain ⟨x, _, rfl⟩ := List.mem_map.1 hq
  have := recRow_len l x l.length
  rw [List.length_map]
  exact Nat.le_trans this (by omega)

set_option maxRecDepth 20000 in
set_option maxHeartbeats 4000000 in
/-- 'GraphRecords' is true. -/
theorem graphRecords_any (vl : Value) (l : List Rcd) (w : World) (h : Rr w vl l) (hl : l.length ≤ 9223372036854775807)
    (hin : ∀ x ∈ l, x.1.length ≤ 9223372036854775807 ∧ x.2.1.length ≤ 9223372036854775807 ∧ x.2.2.length ≤ 9223372036854775807 ∧ (∀ s ∈ x.2.1, s.1.length ≤ 9223372036854775807 ∧ s.2.2.length ≤ 9223372036854775807) ∧ ∀ f ∈ x.2.2, f.1.length ≤ 9223372036854775807 ∧ f.2.length ≤ 9223372036854775807) :
    Calls Try.prog 7 #[vl] w fun e w' => e = .returned (.bool true) ∧ Below w.heap.size w w' := by
  have HC := Lib.hid (cutr_any vl l w h hl hin)
  obtain ⟨lc, hlc⟩ : ∃ lc, lc = (l.take 8).map cutRc := ⟨_, rfl⟩
  have hcl : lc.length ≤ 8 := by rw [hlc, List.length_map, List.length_take]; omega
  have HIN : Hid (∀ x ∈ lc, x.2.1.length ≤ 1000000 ∧ x.2.2.length ≤ 1000000) := Lib.hid (by
    intro x hx
    rw [hlc] at hx
    obtain ⟨y, _, rfl⟩ := List.mem_map.1 hx
    simp only [cutRc, List.length_map, List.length_take]
    omega)
  rw [← hlc] at HC
  clear h hin hlc hl
  go_enter Try.func7, Try.ntmps7
  go_wp2_with fail
  refine HC.out.mono ?_; rintro e w1 ⟨v1, rfl, r1, b1⟩
  have HR1 := Lib.hid r1
  have HB1 := Lib.hid b1
  have HOF := Lib.hid (of_any v1 lc w1 r1 (by omega) HIN.out)
  clear r1 b1 HC
  go_wp2_with fail
  (with_reducible refine HOF.out.mono ?_); rintro e w2 ⟨v2, rfl, r2, b2⟩
  have HR2 := Lib.hid r2
  have HB2 := Lib.hid (HB1.out.trans (b2.mono HB1.out.size))
  have HRF := Lib.hid (refs_any v1 lc w2 (HR1.out.below' b2) (by omega) (fun x hx => (HIN.out x hx).1))
  clear r2 b2 HOF
  go_wp2_with fail
  (with_reducible refine HRF.out.mono ?_); rintro e w3 ⟨v3, rfl, r3, b3⟩
  have HR2 := Lib.hid (HR2.out.below' b3)
  have HB3 := Lib.hid (HB2.out.trans (b3.mono HB2.out.size))
  have HRO := Lib.hid (rof_any v3 lc w3 r3 (by omega) HIN.out)
  clear r3 b3 HRF
  go_wp2_with fail
  (with_reducible refine HRO.out.mono ?_); rintro e w4 ⟨v4, rfl, r4, b4⟩
  have HB4 := Lib.hid (HB3.out.trans (b4.mono HB3.out.size))
  have HS := Lib.hid (lists_same v2 v4 ((recG lc).map nn) w4 (HR2.out.below' b4) r4 (by rw [List.length_map, recG_len]; omega) (recG_short (by omega)))
  clear r4 b4 HRO
  go_wp2_with fail
  (with_reducible refine HS.out.mono ?_); rintro e w5 ⟨rfl, b5⟩
  have HB5 := Lib.hid (HB4.out.trans (b5.mono HB4.out.size))
  clear b5 HS
  go_wp2_with fail
  (with_reducible refine (fixed_any _).mono ?_); rintro e w6 ⟨rfl, b6⟩
  go_wp2_with fail
  go_ret
  exact ⟨ret_bool rfl, HB5.out.trans (b6.mono HB5.out.size)⟩
end Go.Proofs.Ytemdhbeegheefaa
