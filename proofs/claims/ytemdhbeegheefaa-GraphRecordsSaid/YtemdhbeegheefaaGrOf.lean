
/- The program's graph of records: its closures, what looks through lists with them, Of. No condition. -/
import Derived.Test.YtemdhbeegheefaaGrFeed
import Derived.Test.YtemdhbeegheefaaGrRows
namespace Go.Proofs.Ytemdhbeegheefaa
open Go.RowKit

namespace Gr
def any1 (row : List Sn) (f : Fz) : Bool := row.any fun s => fits f s
theorem feeds_any1 (x y : Rcd) : feeds x y = x.2.2.any (any1 y.2.1) := rfl
end Gr

set_option maxRecDepth 20000 in
theorem of11_any (f1 f2 s1 s3 : List UInt8) (s2 : Bool) (bf : Nat) (w : World) (c1 : w.cell? ⟨bf, 0, none⟩ = some (.string (S f1))) (hb : bf < w.heap.size) :
    Calls Try.prog 39 #[.agg #[.string (S s1), .bool s2, .string (S s3)], .pointer (some ⟨bf, 0, none⟩)] w fun e w' => e = .returned (.bool (Gr.fits (f1, f2) (s1, s2, s3))) ∧ Below w.heap.size w w' := by
  have hba : Below w.heap.size w (w.alloc (.cells #[.string (S s1), .bool s2, .string (S s3)] 70)) := (Below.refl _ _).alloc (Nat.le_refl _) _
  have c2 := (hba.cell (p := ⟨bf, 0, none⟩) hb).trans c1
  have c3 := row_cell (heap_alloc_new w (.cells #[.string (S s1), .bool s2, .string (S s3)] 70)) 0
  simp only [List.getElem?_toArray, List.getElem?_cons_zero] at c3
  have HB := Lib.hid hba
  have HE : Hid ((s1 == f1) = Gr.fits (f1, f2) (s1, s2, s3)) := Lib.hid (by unfold Gr.fits; exact Bool.eq_iff_iff.2 (by rw [beq_iff_eq, beq_iff_eq]; exact eq_comm))
  clear hba
  go_enter Try.func39, Try.ntmps39
  go_wp2_with fail
  go_ret
  exact ⟨ret_bool HE.out, HB.out⟩

set_option maxRecDepth 20000 in
set_option maxHeartbeats 2000000 in
theorem idx1_any (vr : Value) (row : List Sn) (f : Fz) (bf : Nat) (w : World) (hr : Rsn w vr row) (hrl : row.length ≤ 1000000) (c1 : w.cell? ⟨bf, 0, none⟩ = some (.string (S f.1))) (hb : bf < w.heap.size) :
    Calls Try.prog 51 #[vr, .func (.func 39) #[] #[.pointer (some ⟨bf, 0, none⟩)]] w fun e w' => (∃ r : Int, e = .returned (.int .i64 r) ∧ decide (0 ≤ r) = row.any (Gr.fits f)) ∧ Below w.heap.size w w' := by
  have HF : Hid (∀ (s : Sn) (W : World), Below w.heap.size w W → Calls Try.prog 39 #[.agg #[.string (S s.1), .bool s.2.1, .string (S s.2.2)], .pointer (some ⟨bf, 0, none⟩)] W fun e w' => e = .returned (.bool (Gr.fits f s)) ∧ Below W.heap.size W w') := Lib.hid fun s W hW => of11_any f.1 f.2 s.1 s.2.2 s.2.1 bf W ((hW.cell hb).trans c1) (Nat.lt_of_lt_of_le hb hW.size)
  clear c1 hb
  have HR := Lib.hid hr
  obtain ⟨ar, cr, rfl⟩ := hr.shape
  clear hr
  go_enter Try.func51, Try.ntmps51
  go_wp2_with fail
  go_loopg [8] (row.length - 0) (fun n v8 wr => ∃ j : Nat, v8 = .int .i64 j ∧ Hid (Below w.heap.size w wr) ∧ Hid (j ≤ row.length ∧ row.length - j = n) ∧ Hid (∀ (t : Nat) (z : Sn), t < j → row[t]? = some z → Gr.fits f z = false))
  case atStart => exact ⟨0, rfl, Lib.hid (Below.refl _ _), Lib.hid ⟨Nat.zero_le _, rfl⟩, Lib.hid fun t z ht => by omega⟩
  case round =>
    obtain ⟨j, rfl, HB, HJ, HN⟩ := hrel
    by_cases hj : j < row.length
    · have hjj : (j : Int) < (row.length : Int) := by omega
      obtain ⟨b3, o3, rfl, c1, c2, c3, hb3⟩ := HR.out.at hj
      obtain ⟨z, hz⟩ : ∃ z, z = row[j] := ⟨_, rfl⟩
      have HZ : Hid (row[j]? = some z) := Lib.hid (by rw [hz]; simp [hj])
      rw [← hz] at c1 c2 c3
      obtain ⟨s1, s2, s3⟩ := z
      have d1 := (HB.out.cell hb3).trans c1
      have d2 := (HB.out.cell hb3).trans c2
      have d3 := (HB.out.cell hb3).trans c3
      clear c1 c2 c3 hz
      have hf := HF.out (s1, s2, s3) wr HB.out
      cases hq : Gr.fits f (s1, s2, s3)
      · rw [hq] at hf
        have HFF := Lib.hid hf
        have HNN : Hid (∀ (t : Nat) (y : Sn), t < j + 1 → row[t]? = some y → Gr.fits f y = false) := Lib.hid fun t y ht hy => by
          rcases Nat.lt_or_eq_of_le (Nat.le_of_lt_succ ht) with h | h
          · exact HN.out t y h hy
          · subst h; rw [HZ.out] at hy; injection hy with hy; rw [← hy]; exact hq
        clear hf hq
        go_wp2_with fail
        (with_reducible refine HFF.out.mono ?_); rintro e w1 ⟨rfl, b1⟩
        have HB1 := Lib.hid (HB.out.trans (b1.mono HB.out.size))
        clear b1
        go_wp2_with fail
        go_roundg (row.length - (j + 1))
        case measure => have := HJ.out.2; omega
        case rel => exact ⟨j + 1, by simp, HB1, Lib.hid ⟨hj, rfl⟩, HNN⟩
      · rw [hq] at hf
        have HFF := Lib.hid hf
        have HA : Hid (row.any (Gr.fits f) = true) := Lib.hid (List.any_eq_true.2 ⟨_, List.mem_of_getElem? HZ.out, hq⟩)
        clear hf hq
        go_wp2_with fail
        (with_reducible refine HFF.out.mono ?_); rintro e w1 ⟨rfl, b1⟩
        have HB1 := Lib.hid (HB.out.trans (b1.mono HB.out.size))
        clear b1
        go_wp2_with fail
        go_ret
        exact ⟨⟨_, rfl, by rw [HA.out]; exact decide_eq_true (by omega)⟩, HB1.out⟩
    · obtain rfl : j = row.length := by have := HJ.out.1; omega
      have HA : Hid (row.any (Gr.fits f) = false) := Lib.hid (by
        rw [← Bool.not_eq_true, List.any_eq_true]
        rintro ⟨z, hz, hq⟩
        obtain ⟨t, ht⟩ := List.getElem?_of_mem hz
        rw [HN.out t z (List.getElem?_eq_some_iff.1 ht).1 ht] at hq
        cases hq)
      go_wp2_with fail
      go_ret
      exact ⟨⟨_, rfl, by rw [HA.out]; decide⟩, HB.out⟩

set_option maxRecDepth 20000 in
theorem cont1_any (vr : Value) (row : List Sn) (f : Fz) (bf : Nat) (w : World) (hr : Rsn w vr row) (hrl : row.length ≤ 1000000) (c1 : w.cell? ⟨bf, 0, none⟩ = some (.string (S f.1))) (hb : bf < w.heap.size) :
    Calls Try.prog 38 #[vr, .func (.func 39) #[] #[.pointer (some ⟨bf, 0, none⟩)]] w fun e w' => e = .returned (.bool (row.any (Gr.fits f))) ∧ Below w.heap.size w w' := by
  have HI := Lib.hid (idx1_any vr row f bf w hr hrl c1 hb)
  clear hr
  go_enter Try.func38, Try.ntmps38
  go_wp2_with fail
  (with_reducible refine HI.out.mono ?_); rintro e w1 ⟨⟨r, rfl, hr⟩, b1⟩
  have HR := Lib.hid hr
  have HB := Lib.hid b1
  clear hr b1
  go_wp2_with fail
  go_ret
  exact ⟨ret_bool HR.out, HB.out⟩

set_option maxRecDepth 20000 in
theorem of1_any (f1 f2 : List UInt8) (vr : Value) (row : List Sn) (by_ : Nat) (w : World) (hr : Rsn w vr row) (hrl : row.length ≤ 1000000) (c1 : w.cell? ⟨by_, 1, none⟩ = some vr) (hb : by_ < w.heap.size) :
    Calls Try.prog 37 #[.agg #[.string (S f1), .string (S f2)], .pointer (some ⟨by_, 0, none⟩)] w fun e w' => e = .returned (.bool (Gr.any1 row (f1, f2))) ∧ Below w.heap.size w w' := by
  have hba : Below w.heap.size w (w.alloc (.cells #[.string (S f1), .string (S f2)] 72)) := (Below.refl _ _).alloc (Nat.le_refl _) _
  have c2 := (hba.cell (p := ⟨by_, 1, none⟩) hb).trans c1
  have c3 := row_cell (heap_alloc_new w (.cells #[.string (S f1), .string (S f2)] 72)) 0
  simp only [List.getElem?_toArray, List.getElem?_cons_zero] at c3
  have HC := Lib.hid (cont1_any vr row (f1, f2) w.heap.size _ (hr.below' hba) hrl c3 (by simp))
  have HB := Lib.hid hba
  obtain ⟨ar, cr, rfl⟩ := hr.shape
  clear hba hr c3
  go_enter Try.func37, Try.ntmps37
  go_wp2_with fail
  (with_reducible refine HC.out.mono ?_); rintro e w1 ⟨rfl, b1⟩
  have HB1 := Lib.hid (HB.out.trans (b1.mono HB.out.size))
  clear b1
  go_wp2_with fail
  go_ret
  exact ⟨rfl, HB1.out⟩

set_option maxRecDepth 20000 in
set_option maxHeartbeats 2000000 in
theorem idx2_any (vr : Value) (row : List Fz) (vy : Value) (yr : List Sn) (by_ : Nat) (w : World) (hr : Rfz w vr row) (hrl : row.length ≤ 1000000) (hy : Rsn w vy yr) (hyl : yr.length ≤ 1000000) (c1 : w.cell? ⟨by_, 1, none⟩ = some vy) (hb : by_ < w.heap.size) :
    Calls Try.prog 50 #[vr, .func (.func 37) #[] #[.pointer (some ⟨by_, 0, none⟩)]] w fun e w' => (∃ r : Int, e = .returned (.int .i64 r) ∧ decide (0 ≤ r) = row.any (Gr.any1 yr)) ∧ Below w.heap.size w w' := by
  have HF : Hid (∀ (f : Fz) (W : World), Below w.heap.size w W → Calls Try.prog 37 #[.agg #[.string (S f.1), .string (S f.2)], .pointer (some ⟨by_, 0, none⟩)] W fun e w' => e = .returned (.bool (Gr.any1 yr f)) ∧ Below W.heap.size W w') := Lib.hid fun f W hW => of1_any f.1 f.2 vy yr by_ W (hy.below' hW) hyl ((hW.cell hb).trans c1) (Nat.lt_of_lt_of_le hb hW.size)
  clear c1 hb hy
  have HR := Lib.hid hr
  obtain ⟨ar, cr, rfl⟩ := hr.shape
  clear hr
  go_enter Try.func50, Try.ntmps50
  go_wp2_with fail
  go_loopg [8] (row.length - 0) (fun n v8 wr => ∃ j : Nat, v8 = .int .i64 j ∧ Hid (Below w.heap.size w wr) ∧ Hid (j ≤ row.length ∧ row.length - j = n) ∧ Hid (∀ (t : Nat) (z : Fz), t < j → row[t]? = some z → Gr.any1 yr z = false))
  case atStart => exact ⟨0, rfl, Lib.hid (Below.refl _ _), Lib.hid ⟨Nat.zero_le _, rfl⟩, Lib.hid fun t z ht => by omega⟩
  case round =>
    obtain ⟨j, rfl, HB, HJ, HN⟩ := hrel
    by_cases hj : j < row.length
    · have hjj : (j : Int) < (row.length : Int) := by omega
      obtain ⟨b3, o3, rfl, c1, c2, hb3⟩ := HR.out.at hj
      obtain ⟨z, hz⟩ : ∃ z, z = row[j] := ⟨_, rfl⟩
      have HZ : Hid (row[j]? = some z) := Lib.hid (by rw [hz]; simp [hj])
      rw [← hz] at c1 c2
      obtain ⟨s1, s2⟩ := z
      have d1 := (HB.out.cell hb3).trans c1
      have d2 := (HB.out.cell hb3).trans c2
      clear c1 c2 hz
      have hf := HF.out (s1, s2) wr HB.out
      cases hq : Gr.any1 yr (s1, s2)
      · rw [hq] at hf
        have HFF := Lib.hid hf
        have HNN : Hid (∀ (t : Nat) (y : Fz), t < j + 1 → row[t]? = some y → Gr.any1 yr y = false) := Lib.hid fun t y ht hy => by
          rcases Nat.lt_or_eq_of_le (Nat.le_of_lt_succ ht) with h | h
          · exact HN.out t y h hy
          · subst h; rw [HZ.out] at hy; injection hy with hy; rw [← hy]; exact hq
        clear hf hq
        go_wp2_with fail
        (with_reducible refine HFF.out.mono ?_); rintro e w1 ⟨rfl, b1⟩
        have HB1 := Lib.hid (HB.out.trans (b1.mono HB.out.size))
        clear b1
        go_wp2_with fail
        go_roundg (row.length - (j + 1))
        case measure => have := HJ.out.2; omega
        case rel => exact ⟨j + 1, by simp, HB1, Lib.hid ⟨hj, rfl⟩, HNN⟩
      · rw [hq] at hf
        have HFF := Lib.hid hf
        have HA : Hid (row.any (Gr.any1 yr) = true) := Lib.hid (List.any_eq_true.2 ⟨_, List.mem_of_getElem? HZ.out, hq⟩)
        clear hf hq
        go_wp2_with fail
        (with_reducible refine HFF.out.mono ?_); rintro e w1 ⟨rfl, b1⟩
        have HB1 := Lib.hid (HB.out.trans (b1.mono HB.out.size))
        clear b1
        go_wp2_with fail
        go_ret
        exact ⟨⟨_, rfl, by rw [HA.out]; exact decide_eq_true (by omega)⟩, HB1.out⟩
    · obtain rfl : j = row.length := by have := HJ.out.1; omega
      have HA : Hid (row.any (Gr.any1 yr) = false) := Lib.hid (by
        rw [← Bool.not_eq_true, List.any_eq_true]
        rintro ⟨z, hz, hq⟩
        obtain ⟨t, ht⟩ := List.getElem?_of_mem hz
        rw [HN.out t z (List.getElem?_eq_some_iff.1 ht).1 ht] at hq
        cases hq)
      go_wp2_with fail
      go_ret
      exact ⟨⟨_, rfl, by rw [HA.out]; decide⟩, HB.out⟩

set_option maxRecDepth 20000 in
theorem cont2_any (vr : Value) (row : List Fz) (vy : Value) (yr : List Sn) (by_ : Nat) (w : World) (hr : Rfz w vr row) (hrl : row.length ≤ 1000000) (hy : Rsn w vy yr) (hyl : yr.length ≤ 1000000) (c1 : w.cell? ⟨by_, 1, none⟩ = some vy) (hb : by_ < w.heap.size) :
    Calls Try.prog 36 #[vr, .func (.func 37) #[] #[.pointer (some ⟨by_, 0, none⟩)]] w fun e w' => e = .returned (.bool (row.any (Gr.any1 yr))) ∧ Below w.heap.size w w' := by
  have HI := Lib.hid (idx2_any vr row vy yr by_ w hr hrl hy hyl c1 hb)
  clear hr
  go_enter Try.func36, Try.ntmps36
  go_wp2_with fail
  (with_reducible refine HI.out.mono ?_); rintro e w1 ⟨⟨r, rfl, hr⟩, b1⟩
  have HR := Lib.hid hr
  have HB := Lib.hid b1
  clear hr b1
  go_wp2_with fail
  go_ret
  exact ⟨ret_bool HR.out, HB.out⟩
end Go.Proofs.Ytemdhbeegheefaa
