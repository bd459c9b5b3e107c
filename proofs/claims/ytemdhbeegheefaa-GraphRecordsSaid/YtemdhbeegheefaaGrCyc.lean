
/- The program's Cyclic, walked. No condition. -/
import Derived.Test.YtemdhbeegheefaaGrRefB
import Derived.Test.YtemdhbeegheefaaGrFrom
import Derived.Test.YtemdhbeegheefaaShelf
namespace Go.Proofs.Ytemdhbeegheefaa
open Go.RowKit Gr

/-- 'slices.Contains' of numbers. -/
theorem contains_any (v : Value) (l : List Int) (x : Int) (w : World) (h : Ri w v l) (hl : l.length ≤ 1000000) :
    Calls Try.prog 35 #[v, .int .i64 x] w fun e w' => e = .returned (.bool (l.contains x)) ∧ w' = w := by
  rcases h.2 with ⟨hv, h0⟩ | ⟨b, o, cap, rfl, hlt, hc, hcap⟩
  · have hl0 : l = [] := List.eq_nil_of_length_eq_zero h0
    subst hl0
    rcases hv with rfl | ⟨p, c, rfl⟩
    · exact Try.slices_Contains_int_empty _ _ _ _
    · exact Try.slices_Contains_int_empty _ _ _ _
  · have h9 := Try.slices_Contains_int b o l.length cap l x w (Nat.le_refl _) (by omega) (fun j hj => by
      rw [hc j _ (ints_at l j hj), List.getD_eq_getElem?_getD, List.getElem?_eq_getElem hj]; rfl)
    rw [List.take_length] at h9
    exact h9

/-- What the inner question is. -/
def Gr.cq (g : G) (l : List Int) (z : Int) : Bool := (decide (0 ≤ z) && decide (z < (g.length : Int))) && l.contains z

set_option maxRecDepth 20000 in
theorem cyc1_any (vg vl : Value) (g : G) (l : List Int) (bg bl : Nat) (z : Int) (w : World) (hg : Rg w vg g) (hv : Ri w vl l) (hl : l.length ≤ 1000000) (c1 : w.cell? ⟨bg, 0, none⟩ = some vg) (c2 : w.cell? ⟨bl, 0, none⟩ = some vl) :
    Calls Try.prog 34 #[.int .i64 z, .pointer (some ⟨bg, 0, none⟩), .pointer (some ⟨bl, 0, none⟩)] w fun e w' => e = .returned (.bool (Gr.cq g l z)) ∧ w' = w := by
  have HC := Lib.hid (contains_any vl l z w hv hl)
  obtain ⟨ag, cg, rfl⟩ := hg.shape
  obtain ⟨al, cl, rfl⟩ := hv.shape
  have hhas := has_any ag g.length cg z w
  go_enter Try.func34, Try.ntmps34
  cases hz : (decide (0 ≤ z) && decide (z < (g.length : Int)))
  · rw [hz] at hhas
    have HH := Lib.hid hhas
    have HE : Hid (Gr.cq g l z = false) := Lib.hid (by unfold Gr.cq; rw [hz]; rfl)
    clear hz hhas
    go_wp2_with fail
    (with_reducible refine HH.out.mono ?_); rintro e w1 ⟨rfl, rfl⟩
    go_wp2_with fail
    go_ret
    exact ⟨ret_bool HE.out.symm, rfl⟩
  · rw [hz] at hhas
    have HH := Lib.hid hhas
    have HE : Hid (Gr.cq g l z = l.contains z) := Lib.hid (by unfold Gr.cq; rw [hz]; rfl)
    obtain ⟨x, hx⟩ : ∃ x, x = l.contains z := ⟨_, rfl⟩
    have HX := Lib.hid hx
    rw [← hx] at HC
    clear hz hhas hx
    go_wp2_with fail
    (with_reducible refine HH.out.mono ?_); rintro e w1 ⟨rfl, rfl⟩
    go_wp2_with fail
    (with_reducible refine HC.out.mono ?_); rintro e w2 ⟨rfl, rfl⟩
    go_wp2_with fail
    go_ret
    exact ⟨ret_bool (by rw [HE.out, HX.out]), rfl⟩

set_option maxRecDepth 20000 in
set_option maxHeartbeats 2000000 in
theorem idxf_any (vg vl vr : Value) (g : G) (l row : List Int) (bg bl : Nat) (w : World) (hg : Rg w vg g) (hv : Ri w vl l) (hr : Ri w vr row) (hl : l.length ≤ 1000000) (hrl : row.length ≤ 1000000) (c1 : w.cell? ⟨bg, 0, none⟩ = some vg) (c2 : w.cell? ⟨bl, 0, none⟩ = some vl) :
    Calls Try.prog 48 #[vr, .func (.func 34) #[] #[.pointer (some ⟨bg, 0, none⟩), .pointer (some ⟨bl, 0, none⟩)]] w fun e w' => (∃ r : Int, e = .returned (.int .i64 r) ∧ decide (0 ≤ r) = row.any (Gr.cq g l)) ∧ w' = w := by
  have HF := Lib.hid fun z => cyc1_any vg vl g l bg bl z w hg hv hl c1 c2
  have HR := Lib.hid hr
  obtain ⟨ar, cr, rfl⟩ := hr.shape
  clear hg hv hr c1 c2
  go_enter Try.func48, Try.ntmps48
  go_wp2_with fail
  go_loopg [8] (row.length - 0) (fun n v8 wr => ∃ j : Nat, v8 = .int .i64 j ∧ wr = w ∧ Hid (j ≤ row.length ∧ row.length - j = n) ∧ Hid (∀ (t : Nat) (z : Int), t < j → row[t]? = some z → Gr.cq g l z = false))
  case atStart => exact ⟨0, rfl, rfl, Lib.hid ⟨Nat.zero_le _, rfl⟩, Lib.hid fun t z ht => by omega⟩
  case round =>
    obtain ⟨j, rfl, rfl, HJ, HN⟩ := hrel
    by_cases hj : j < row.length
    · have hjj : (j : Int) < (row.length : Int) := by omega
      obtain ⟨b3, o3, rfl, c3⟩ := HR.out.at hj
      obtain ⟨z, hz⟩ : ∃ z, z = row[j] := ⟨_, rfl⟩
      have HZ : Hid (row[j]? = some z) := Lib.hid (by rw [hz]; simp [hj])
      rw [← hz] at c3
      clear hz
      have hf := HF.out z
      cases hq : Gr.cq g l z
      · rw [hq] at hf
        have HFF := Lib.hid hf
        have HNN : Hid (∀ (t : Nat) (y : Int), t < j + 1 → row[t]? = some y → Gr.cq g l y = false) := Lib.hid fun t y ht hy => by
          rcases Nat.lt_or_eq_of_le (Nat.le_of_lt_succ ht) with h | h
          · exact HN.out t y h hy
          · subst h; rw [HZ.out] at hy; injection hy with hy; rw [← hy]; exact hq
        clear hf hq
        go_wp2_with fail
        (with_reducible refine HFF.out.mono ?_); rintro e w1 ⟨rfl, rfl⟩
        go_wp2_with fail
        go_roundg (row.length - (j + 1))
        case measure => have := HJ.out.2; omega
        case rel => exact ⟨j + 1, by simp, rfl, Lib.hid ⟨hj, rfl⟩, HNN⟩
      · rw [hq] at hf
        have HFF := Lib.hid hf
        have HA : Hid (row.any (Gr.cq g l) = true) := Lib.hid (List.any_eq_true.2 ⟨z, List.mem_of_getElem? HZ.out, hq⟩)
        clear hf hq
        go_wp2_with fail
        (with_reducible refine HFF.out.mono ?_); rintro e w1 ⟨rfl, rfl⟩
        go_wp2_with fail
        go_ret
        exact ⟨⟨_, rfl, by rw [HA.out]; exact decide_eq_true (by omega)⟩, rfl⟩
    · obtain rfl : j = row.length := by have := HJ.out.1; omega
      have HA : Hid (row.any (Gr.cq g l) = false) := Lib.hid (by
        rw [← Bool.not_eq_true, List.any_eq_true]
        rintro ⟨z, hz, hq⟩
        obtain ⟨t, ht⟩ := List.getElem?_of_mem hz
        rw [HN.out t z (List.getElem?_eq_some_iff.1 ht).1 ht] at hq
        cases hq)
      go_wp2_with fail
      go_ret
      exact ⟨⟨_, rfl, by rw [HA.out]; decide⟩, rfl⟩

set_option maxRecDepth 20000 in
theorem contf_any (vg vl vr : Value) (g : G) (l row : List Int) (bg bl : Nat) (w : World) (hg : Rg w vg g) (hv : Ri w vl l) (hr : Ri w vr row) (hl : l.length ≤ 1000000) (hrl : row.length ≤ 1000000) (c1 : w.cell? ⟨bg, 0, none⟩ = some vg) (c2 : w.cell? ⟨bl, 0, none⟩ = some vl) :
    Calls Try.prog 33 #[vr, .func (.func 34) #[] #[.pointer (some ⟨bg, 0, none⟩), .pointer (some ⟨bl, 0, none⟩)]] w fun e w' => e = .returned (.bool (row.any (Gr.cq g l))) ∧ w' = w := by
  have HI := Lib.hid (idxf_any vg vl vr g l row bg bl w hg hv hr hl hrl c1 c2)
  clear hg hv hr c1 c2
  go_enter Try.func33, Try.ntmps33
  go_wp2_with fail
  (with_reducible refine HI.out.mono ?_); rintro e w1 ⟨⟨r, rfl, hr⟩, rfl⟩
  have HR := Lib.hid hr
  clear hr
  go_wp2_with fail
  go_ret
  exact ⟨ret_bool HR.out, rfl⟩

namespace Gr
def cycP (g : G) (l : List Int) : Bool := l.any fun i => (decide (0 ≤ i) && decide (i < (g.length : Int))) && (g.getD i.toNat []).any (cq g l)
theorem cycP_eq (g : G) (l : List Int) : cycP g l = cyc g l := by
  rw [Bool.eq_iff_iff]
  simp only [cycP, cyc, cq, List.any_eq_true, Bool.and_eq_true, decide_eq_true_eq, edgeZ, List.contains_iff_mem]
  constructor
  · rintro ⟨i, hi, ⟨h1, h2⟩, k, hk, ⟨h3, h4⟩, h5⟩
    exact ⟨i, hi, k, h5, h1, h2, h3, h4, hk⟩
  · rintro ⟨i, hi, k, hk, h1, h2, h3, h4, h5⟩
    exact ⟨i, hi, ⟨h1, h2⟩, k, h5, ⟨h3, h4⟩, hk⟩
end Gr

set_option maxRecDepth 20000 in
set_option maxHeartbeats 4000000 in
/-- 'Cyclic'. -/
theorem cyclic_any (vg vl : Value) (g : G) (l : List Int) (w : World) (hg : Rg w vg g) (hv : Ri w vl l) (hn : l.length ≤ 1000) (hl : ∀ l ∈ g, l.length ≤ 1000) :
    Calls Try.prog 15 #[vg, vl] w fun e w' => e = .returned (.bool (Gr.cyc g l)) ∧ Below w.heap.size w w' := by
  have HG := Lib.hid hg
  have HV := Lib.hid hv
  have HL := Lib.hid hl
  obtain ⟨ag, cg, rfl⟩ := hg.shape
  obtain ⟨al, cl, rfl⟩ := hv.shape
  obtain ⟨W, hW⟩ : ∃ W, W = (w.alloc (.cells #[.slice ag g.length cg] 22)).alloc (.cells #[.slice al l.length cl] 23) := ⟨_, rfl⟩
  have hB : Below w.heap.size w W := by rw [hW]; exact ((Kw.alloc w _ (fun _ => False)).trans (Kw.alloc _ _ (fun _ => False)) fun _ _ => id).below (fun _ h => h.elim) (Nat.le_refl _)
  have hq0 : W.heap[w.heap.size]? = some (.cells #[.slice ag g.length cg] 22 (0, 0)) := by rw [hW]; exact alloc_lt _ _ _ (by simp only [alloc_size]; omega) (alloc_at _ _ _ rfl)
  have hq1 : W.heap[w.heap.size + 1]? = some (.cells #[.slice al l.length cl] 23 (0, 0)) := by rw [hW]; exact alloc_at _ _ _ (by simp)
  obtain ⟨bg, hbg⟩ : ∃ bg, bg = w.heap.size := ⟨_, rfl⟩
  have HB := Lib.hid hB
  have b0 := row_cell hq0 0
  have b1 := row_cell hq1 0
  simp at b0 b1
  rw [← hbg] at b0 b1
  have HCY := Lib.hid (cycP_eq g l)
  clear hg hv hl hB hq0 hq1
  go_enter Try.func15, Try.ntmps15
  go_upto_region 1 with fail
  (try simp only [alloc_size])
  rw [← hW, ← hbg]
  clear hW
  have HBG := Lib.hid hbg
  clear hbg
  go_wp2_with fail
  go_loopg [9] (l.length - 0) (fun n v9 wr => ∃ j : Nat, v9 = .int .i64 j ∧ wr = W ∧ Hid (j ≤ l.length ∧ l.length - j = n) ∧ Hid (∀ (t : Nat) (z : Int), t < j → l[t]? = some z → ((decide (0 ≤ z) && decide (z < (g.length : Int))) && (g.getD z.toNat []).any (cq g l)) = false))
  case atStart => exact ⟨0, rfl, rfl, Lib.hid ⟨Nat.zero_le _, rfl⟩, Lib.hid fun t z ht => by omega⟩
  case round =>
    obtain ⟨j, rfl, rfl, HJ, HN⟩ := hrel
    by_cases hj : j < l.length
    · have hjj : (j : Int) < (l.length : Int) := by omega
      obtain ⟨b3, o3, rfl, c3⟩ := (HV.out.below' HB.out).at hj
      obtain ⟨z, hz⟩ : ∃ z, z = l[j] := ⟨_, rfl⟩
      have HZ : Hid (l[j]? = some z) := Lib.hid (by rw [hz]; simp [hj])
      rw [← hz] at c3
      clear hz
      have hhas := has_any ag g.length cg z wr
      by_cases hz : 0 ≤ z ∧ z < (g.length : Int)
      · rw [decide_eq_true hz.1, decide_eq_true hz.2] at hhas
        have HH := Lib.hid hhas
        have hz1 := decide_eq_true hz.1
        have hz2 := decide_eq_true hz.2
        obtain ⟨kk, rfl⟩ : ∃ kk : Nat, z = (kk : Int) := ⟨z.toNat, by omega⟩
        have hkk : kk < g.length := by omega
        have hki : (kk : Int) < (g.length : Int) := by omega
        obtain ⟨b5, o5, u5, rfl, c5, r5, _, _⟩ := (HG.out.below' HB.out).at hkk
        have hgk : g.getD kk [] = g[kk] := by simp [hkk]
        have hrl := HL.out _ (List.getElem_mem hkk)
        have HCF := Lib.hid (contf_any _ _ _ g l g[kk] bg (bg + 1) wr (HG.out.below' HB.out) (HV.out.below' HB.out) r5 (by omega) (by omega) b0 b1)
        obtain ⟨row, hrw⟩ : ∃ row, row = g[kk] := ⟨_, rfl⟩
        have HQE : Hid (((decide (0 ≤ (kk : Int)) && decide ((kk : Int) < (g.length : Int))) && (g.getD (kk : Int).toNat []).any (cq g l)) = row.any (cq g l)) := Lib.hid (by rw [hz1, hz2, Int.toNat_natCast, hgk, hrw]; rfl)
        rw [← hrw] at r5 HCF
        obtain ⟨au, cu, rfl⟩ := r5.shape
        have hmf : ∀ (fn : Fn) (first cap : Array Value) (w : World), (Instr.makeFunc fn first cap).run Try.prog w = .ok (.func fn first cap) w := fun _ _ _ _ => rfl
        clear hhas hz hz1 hz2 hgk hrl hrw r5
        cases ha : row.any (cq g l)
        · rw [ha] at HCF
          have hq := HQE.out.trans ha
          have HNN : Hid (∀ (t : Nat) (y : Int), t < j + 1 → l[t]? = some y → ((decide (0 ≤ y) && decide (y < (g.length : Int))) && (g.getD y.toNat []).any (cq g l)) = false) := Lib.hid fun t y ht hy => by
            rcases Nat.lt_or_eq_of_le (Nat.le_of_lt_succ ht) with h | h
            · exact HN.out t y h hy
            · subst h
              rw [HZ.out] at hy
              injection hy with hy
              rw [← hy]
              exact hq
          clear ha hq
          go_wp2_with fail
          (with_reducible refine HH.out.mono ?_); rintro e w1 ⟨rfl, rfl⟩
          go_wp2_with fail
          (with_reducible refine HCF.out.mono ?_); rintro e w2 ⟨rfl, rfl⟩
          go_wp2_with fail
          go_roundg (l.length - (j + 1))
          case measure => have := HJ.out.2; omega
          case rel => exact ⟨j + 1, by simp, rfl, Lib.hid ⟨hj, rfl⟩, HNN⟩
        · rw [ha] at HCF
          have hq := HQE.out.trans ha
          have HT : Hid (Gr.cyc g l = true) := Lib.hid (by
            rw [← HCY.out]
            exact List.any_eq_true.2 ⟨_, List.mem_of_getElem? HZ.out, hq⟩)
          clear ha hq
          go_wp2_with fail
          (with_reducible refine HH.out.mono ?_); rintro e w1 ⟨rfl, rfl⟩
          go_wp2_with fail
          (with_reducible refine HCF.out.mono ?_); rintro e w2 ⟨rfl, rfl⟩
          go_wp2_with fail
          go_ret
          exact ⟨ret_bool HT.out.symm, HB.out⟩
      · have hbf : (decide (0 ≤ z) && decide (z < (g.length : Int))) = false := by
          rw [Bool.and_eq_false_iff, decide_eq_false_iff_not, decide_eq_false_iff_not]
          exact Classical.not_and_iff_not_or_not.1 hz
        rw [hbf] at hhas
        have HH := Lib.hid hhas
        have HNN : Hid (∀ (t : Nat) (y : Int), t < j + 1 → l[t]? = some y → ((decide (0 ≤ y) && decide (y < (g.length : Int))) && (g.getD y.toNat []).any (cq g l)) = false) := Lib.hid fun t y ht hy => by
          rcases Nat.lt_or_eq_of_le (Nat.le_of_lt_succ ht) with h | h
          · exact HN.out t y h hy
          · subst h
            rw [HZ.out] at hy
            injection hy with hy
            rw [← hy, hbf]
            rfl
        clear hhas hz hbf
        go_wp2_with fail
        (with_reducible refine HH.out.mono ?_); rintro e w1 ⟨rfl, rfl⟩
        go_wp2_with fail
        go_roundg (l.length - (j + 1))
        case measure => have := HJ.out.2; omega
        case rel => exact ⟨j + 1, by simp, rfl, Lib.hid ⟨hj, rfl⟩, HNN⟩
    · obtain rfl : j = l.length := by have := HJ.out.1; omega
      have HF : Hid (Gr.cyc g l = false) := Lib.hid (by
        rw [← HCY.out, ← Bool.not_eq_true]
        unfold cycP
        rw [List.any_eq_true]
        rintro ⟨z, hz, hq⟩
        obtain ⟨t, ht⟩ := List.getElem?_of_mem hz
        rw [HN.out t z (List.getElem?_eq_some_iff.1 ht).1 ht] at hq
        cases hq)
      go_wp2_with fail
      go_ret
      exact ⟨ret_bool HF.out.symm, HB.out⟩
end Go.Proofs.Ytemdhbeegheefaa
