
/- The reference's Edge and Ways, walked. No condition. -/
import Derived.Test.YtemdhbeegheefaaGrMake
import Derived.Test.YtemdhbeegheefaaGrPure
import Derived.Deep.LoopGhost
import Derived.Deep.CutBlock
import Derived.Deep.DeepCutAuto
namespace Go.Proofs.Ytemdhbeegheefaa
open Go.RowKit Gr
namespace Gr
/-- An edge, whatever the numbers. -/
def edgeZ (g : G) (i k : Int) : Bool := decide (0 ≤ i ∧ i < (g.length : Int) ∧ 0 ≤ k ∧ k < (g.length : Int) ∧ k ∈ g.getD i.toNat [])
theorem edgeZ_nat (g : G) (i k : Nat) : edgeZ g i k = edge g i k := by
  rw [Bool.eq_iff_iff, edge_iff]
  unfold edgeZ E
  rw [decide_eq_true_iff]
  constructor
  · rintro ⟨_, h2, _, h4, h5⟩
    exact ⟨by omega, by omega, by simpa using h5⟩
  · rintro ⟨h1, h2, h3⟩
    exact ⟨by omega, by omega, by omega, by omega, by simpa using h3⟩
def waysZ (g : G) (i : Int) : List Bool := sweeps g (tab g.length fun k => edgeZ g i k) g.length
theorem waysZ_nat (g : G) (i : Nat) : waysZ g i = ways g i := by
  unfold waysZ ways
  rw [tab_congr fun k _ => edgeZ_nat g i k]
/-- A sweep, half done. -/
theorem look_no (g : G) (b : List Bool) (k : Nat) (hb : b.length = g.length) (h : b.getD k false = false) : look g b k = b := by
  apply List.ext_getElem?
  intro j
  by_cases hj : j < g.length
  · rw [look, tab_at _ _ _ hj, h, Bool.false_and, Bool.or_false, List.getD_eq_getElem?_getD, List.getElem?_eq_getElem (by omega)]; rfl
  · rw [List.getElem?_eq_none (by rw [look_length]; omega), List.getElem?_eq_none (by omega)]
def lookJ (g : G) (b : List Bool) (k j : Nat) : List Bool := tab g.length fun x => if x < j then b.getD x false || edge g k x else b.getD x false
theorem lookJ_zero (g : G) (b : List Bool) (k : Nat) (hb : b.length = g.length) : lookJ g b k 0 = b := by
  apply List.ext_getElem?
  intro j
  by_cases hj : j < g.length
  · rw [lookJ, tab_at _ _ _ hj, if_neg (Nat.not_lt_zero _), List.getD_eq_getElem?_getD, List.getElem?_eq_getElem (by omega)]; rfl
  · rw [List.getElem?_eq_none (by rw [lookJ, tab_length]; omega), List.getElem?_eq_none (by omega)]
theorem lookJ_step (g : G) (b : List Bool) (k j : Nat) : (lookJ g b k j).set j (b.getD j false || edge g k j) = lookJ g b k (j + 1) := by
  unfold lookJ
  rw [tab_set]
  apply tab_congr
  intro x _
  by_cases e : x = j
  · subst e; simp
  · by_cases h : x < j
    · rw [if_neg e, if_pos h, if_pos (by omega)]
    · rw [if_neg e, if_neg h, if_neg (by omega)]
theorem lookJ_all (g : G) (b : List Bool) (k : Nat) (h : b.getD k false = true) : lookJ g b k g.length = look g b k := by
  unfold lookJ look
  apply tab_congr
  intro x hx
  rw [if_pos hx, h, Bool.true_and]
theorem lookJ_get (g : G) (b : List Bool) (k j x : Nat) (hx : x < g.length) : (lookJ g b k j)[x]? = some (if x < j then b.getD x false || edge g k x else b.getD x false) := tab_at _ _ _ hx
theorem lookJ_len (g : G) (b : List Bool) (k j : Nat) : (lookJ g b k j).length = g.length := tab_length _ _
end Gr

set_option maxRecDepth 20000 in
set_option maxHeartbeats 4000000 in
/-- 'Edge'. -/
theorem edge_any (vg : Value) (g : G) (i k : Int) (w : World) (hg : Rg w vg g) (hl : ∀ l ∈ g, l.length ≤ 1000) :
    Calls Try.prog 18 #[vg, .int .i64 i, .int .i64 k] w fun e w' => e = .returned (.bool (edgeZ g i k)) ∧ w' = w := by
  have HG := Lib.hid hg
  have HL := Lib.hid hl
  obtain ⟨ag, cg, rfl⟩ := hg.shape
  clear hg hl
  go_enter Try.func18, Try.ntmps18
  by_cases h1 : i < 0
  · have hE : Hid (edgeZ g i k = false) := Lib.hid (decide_eq_false (by rintro ⟨h, _⟩; omega))
    go_wp2_with fail
    go_ret
    exact ⟨ret_bool hE.out.symm, rfl⟩
  by_cases h2 : i ≥ (g.length : Int)
  · have hE : Hid (edgeZ g i k = false) := Lib.hid (decide_eq_false (by rintro ⟨_, h, _⟩; omega))
    go_wp2_with fail
    go_ret
    exact ⟨ret_bool hE.out.symm, rfl⟩
  by_cases h3 : k < 0
  · have hE : Hid (edgeZ g i k = false) := Lib.hid (decide_eq_false (by rintro ⟨_, _, h, _⟩; omega))
    go_wp2_with fail
    go_ret
    exact ⟨ret_bool hE.out.symm, rfl⟩
  by_cases h4 : k ≥ (g.length : Int)
  · have hE : Hid (edgeZ g i k = false) := Lib.hid (decide_eq_false (by rintro ⟨_, _, _, h, _⟩; omega))
    go_wp2_with fail
    go_ret
    exact ⟨ret_bool hE.out.symm, rfl⟩
  obtain ⟨ii, rfl⟩ : ∃ ii : Nat, i = (ii : Int) := ⟨i.toNat, by omega⟩
  have hii : ii < g.length := by omega
  obtain ⟨b1, o1, u1, rfl, c1, r1, _, _⟩ := HG.out.at hii
  obtain ⟨row, hrw⟩ : ∃ row, row = g[ii] := ⟨_, rfl⟩
  have hrl : row.length ≤ 1000 := by rw [hrw]; exact HL.out _ (List.getElem_mem hii)
  have HE : Hid (edgeZ g ii k = decide (k ∈ row)) := Lib.hid (by
    unfold edgeZ
    rw [decide_eq_decide, hrw, Int.toNat_natCast, List.getD_eq_getElem?_getD, List.getElem?_eq_getElem hii]
    exact ⟨fun h => h.2.2.2.2, fun h => ⟨by omega, by omega, by omega, by omega, h⟩⟩)
  rw [← hrw] at r1
  clear hrw HL HG
  have HR := Lib.hid r1
  obtain ⟨au, cu, rfl⟩ := r1.shape
  clear r1
  go_wp2_with fail
  go_loopg [7] (row.length - 0) (fun n v7 wr => ∃ j : Nat, v7 = .int .i64 j ∧ wr = w ∧ Hid (j ≤ row.length ∧ row.length - j = n) ∧ Hid (∀ t, t < j → row[t]? ≠ some k))
  case atStart => exact ⟨0, rfl, rfl, Lib.hid ⟨Nat.zero_le _, rfl⟩, Lib.hid fun t ht => by omega⟩
  case round =>
    obtain ⟨j, rfl, rfl, HJ, HN⟩ := hrel
    by_cases hj : j < row.length
    · have hjj : (j : Int) < (row.length : Int) := by omega
      obtain ⟨b3, o3, rfl, c3⟩ := HR.out.at hj
      obtain ⟨z, hz⟩ : ∃ z, z = row[j] := ⟨_, rfl⟩
      have HZ : Hid (row[j]? = some z) := Lib.hid (by rw [hz]; simp [hj])
      rw [← hz] at c3
      clear hz
      by_cases hzk : z = k
      · subst hzk
        have hE : Hid (edgeZ g ii z = true) := Lib.hid (by rw [HE.out]; exact decide_eq_true (List.mem_of_getElem? HZ.out))
        go_wp2_with fail
        go_ret
        exact ⟨ret_bool hE.out.symm, rfl⟩
      · have hne : (z == k) = false := by simp [hzk]
        go_wp2_with fail
        go_roundg (row.length - (j + 1))
        case measure => have := HJ.out.2; omega
        case rel => exact ⟨j + 1, by simp, rfl, Lib.hid ⟨hj, rfl⟩, Lib.hid fun t ht => by
          rcases Nat.lt_or_eq_of_le (Nat.le_of_lt_succ ht) with h | h
          · exact HN.out t h
          · rw [h, HZ.out]; intro e; injection e with e; exact hzk e⟩
    · obtain rfl : j = row.length := by have := HJ.out.1; omega
      have hE : Hid (edgeZ g ii k = false) := Lib.hid (by
        rw [HE.out]
        refine decide_eq_false fun hm => ?_
        obtain ⟨t, ht⟩ := List.getElem?_of_mem hm
        exact HN.out t (List.getElem?_eq_some_iff.1 ht).1 ht)
      go_wp2_with fail
      go_ret
      exact ⟨ret_bool hE.out.symm, rfl⟩

theorem bls_at (l : List Bool) (i : Nat) (h : i < l.length) : (bls l)[i]? = some (.bool (l.getD i false)) := by
  rw [List.getElem?_map, List.getElem?_eq_getElem h, List.getD_eq_getElem?_getD, List.getElem?_eq_getElem h]; rfl
theorem bls_set (l : List Bool) (i : Nat) (x : Bool) : (bls l).set i (.bool x) = bls (l.set i x) := by simp [bls, List.map_set]

set_option maxRecDepth 20000 in
set_option maxHeartbeats 4000000 in
/-- 'Ways'. -/
theorem ways_any (vg : Value) (g : G) (i : Int) (w : World) (hg : Rg w vg g) (hn : g.length ≤ 1000) (hl : ∀ l ∈ g, l.length ≤ 1000) :
    Calls Try.prog 28 #[vg, .int .i64 i] w fun e w' => e = .returned (.slice (some ⟨w.heap.size, 0, none⟩) g.length g.length) ∧ Ro w' w.heap.size 4 (bls (waysZ g i)) ∧ Below w.heap.size w w' := by
  have HG := Lib.hid hg
  have HL := Lib.hid hl
  obtain ⟨ag, cg, rfl⟩ := hg.shape
  clear hg hl
  have hmb := mkBools g.length (by omega)
  go_enter Try.func28, Try.ntmps28
  have HA0 : Hid (Ro (w.alloc (.cells (Array.replicate g.length (.bool false)) 4)) w.heap.size 4 (bls (tab g.length fun x => if x < 0 then edgeZ g i x else false))) := Lib.hid (by
    have h := Ro.falses (heap_alloc_new w (.cells (Array.replicate g.length (.bool false)) 4))
    have e : (tab g.length fun x => if x < 0 then edgeZ g i x else false) = List.replicate g.length false := by
      unfold tab
      simp [List.map_const']
    rw [e]; exact h)
  have HK0 : Hid (Kw w (w.alloc (.cells (Array.replicate g.length (.bool false)) 4)) (fun j => j = w.heap.size)) := Lib.hid (Kw.alloc _ _ _)
  obtain ⟨b, hb⟩ : ∃ b, b = w.heap.size := ⟨_, rfl⟩
  have HB := Lib.hid hb
  rw [← hb] at HA0 HK0
  go_upto_block 0 with fail
  rw [← hb]
  go_cut [5] (fun s5 w' => s5 = .slice (some ⟨b, 0, none⟩) g.length g.length ∧ Hid (Ro w' b 4 (bls (tab g.length fun x => edgeZ g i x))) ∧ Hid (Kw w w' (fun j => j = b)))
  case first =>
    clear hb
    go_wp2_with fail
    go_loopg [6] (g.length - 0) (fun n v6 wr => ∃ k : Nat, v6 = .int .i64 k ∧ Hid (k ≤ g.length ∧ g.length - k = n) ∧ Hid (Ro wr b 4 (bls (tab g.length fun x => if x < k then edgeZ g i x else false))) ∧ Hid (Kw w wr (fun j => j = b)))
    case atStart => exact ⟨0, rfl, Lib.hid ⟨Nat.zero_le _, rfl⟩, HA0, HK0⟩
    case round =>
      clear HA0 HK0
      obtain ⟨k, rfl, HI, HA, HK⟩ := hrel
      by_cases hk : k < g.length
      · have hkk : (k : Int) < (g.length : Int) := by omega
        have HEG := Lib.hid (edge_any (.slice ag g.length cg) g i k wr (HG.out.below' (HK.out.below (by rintro j rfl; have := HB.out; omega) (Nat.le_refl _))) HL.out)
        have c1 := HA.out.cell (bls_at _ k (by rw [tab_length]; exact hk))
        have f1 := HA.out.free k
        obtain ⟨ez, hez⟩ : ∃ ez, ez = edgeZ g i k := ⟨_, rfl⟩
        have HEZ := Lib.hid hez
        rw [← hez] at HEG
        clear hez
        go_wp2_with fail
        (with_reducible refine HEG.out.mono ?_); rintro e w2 ⟨rfl, rfl⟩
        go_wp2_with fail
        have HA2 := HA.out.set k (.bool ez)
        rw [bls_set, tab_set, HEZ.out, tab_congr (f' := fun x => if x < k + 1 then edgeZ g i x else false) (fun x _ => by
          by_cases e : x = k
          · subst e; simp
          · by_cases h : x < k
            · rw [if_neg e, if_pos h, if_pos (by omega)]
            · rw [if_neg e, if_neg h, if_neg (by omega)]), ← HEZ.out] at HA2
        go_roundg (g.length - (k + 1))
        case measure => have := HI.out.2; omega
        case rel => exact ⟨k + 1, by simp, Lib.hid ⟨hk, rfl⟩, Lib.hid HA2, Lib.hid (HK.out.trans (Kw.set w2 b k (.bool ez)) fun _ _ e => e)⟩
      · obtain rfl : k = g.length := by have := HI.out.1; omega
        go_wp2_with fail
        go_meet
        exact ⟨rfl, Lib.hid (by rw [tab_congr (f' := fun x => if x < g.length then edgeZ g i x else false) fun x hx => by rw [if_pos hx]]; exact HA.out), HK⟩
  case rest =>
    obtain ⟨rfl, HA, HK⟩ := hcut
    rename World => w1
    clear HA0 HK0 hmb hb
    go_wp2_with fail
    obtain ⟨B0, hB0⟩ : ∃ B0, B0 = tab g.length fun x => edgeZ g i x := ⟨_, rfl⟩
    have HB0 : Hid (B0.length = g.length) := Lib.hid (by rw [hB0, tab_length])
    have HBZ := Lib.hid hB0
    rw [← hB0] at HA
    clear hB0
    go_loopg [7] (g.length - 0) (fun n v7 wr => ∃ t : Nat, v7 = .int .i64 t ∧ Hid (t ≤ g.length ∧ g.length - t = n) ∧ Hid (Ro wr b 4 (bls (sweeps g B0 t))) ∧ Hid (Kw w wr (fun j => j = b)))
    case atStart => exact ⟨0, rfl, Lib.hid ⟨Nat.zero_le _, rfl⟩, HA, HK⟩
    case round =>
      clear HA HK
      obtain ⟨t, rfl, HT, HA, HK⟩ := hrel
      by_cases ht : t < g.length
      · have htt : (t : Int) < (g.length : Int) := by omega
        go_wp2_with fail
        go_loopg [8] (g.length - 0) (fun n v8 wr => ∃ k : Nat, v8 = .int .i64 k ∧ Hid (k ≤ g.length ∧ g.length - k = n) ∧ Hid (Ro wr b 4 (bls ((List.range k).foldl (Gr.look g) (sweeps g B0 t)))) ∧ Hid (Kw w wr (fun j => j = b)))
        case atStart => exact ⟨0, rfl, Lib.hid ⟨Nat.zero_le _, rfl⟩, HA, HK⟩
        case round =>
          clear HA HK
          obtain ⟨k, rfl, HI, HA, HK⟩ := hrel
          obtain ⟨F, hF⟩ : ∃ F, F = (List.range k).foldl (Gr.look g) (sweeps g B0 t) := ⟨_, rfl⟩
          have HF := Lib.hid hF
          have HFL : Hid (F.length = g.length) := Lib.hid (by rw [hF]; exact fold_length g _ _ (sweeps_length g B0 HB0.out t))
          rw [← hF] at HA
          clear hF
          by_cases hk : k < g.length
          · have hkk : (k : Int) < (g.length : Int) := by omega
            have HFN : Hid ((List.range (k + 1)).foldl (Gr.look g) (sweeps g B0 t) = Gr.look g F k) := Lib.hid (by rw [List.range_succ, List.foldl_append, HF.out]; rfl)
            go_wp2_with fail
            go_loopg [9] (g.length - 0) (fun n v9 wr => ∃ j : Nat, v9 = .int .i64 j ∧ Hid (j ≤ g.length ∧ g.length - j = n) ∧ Hid (j = 0 ∨ F.getD k false = true) ∧ Hid (Ro wr b 4 (bls (lookJ g F k j))) ∧ Hid (Kw w wr (fun j => j = b)))
            case atStart => exact ⟨0, rfl, Lib.hid ⟨Nat.zero_le _, rfl⟩, Lib.hid (.inl rfl), Lib.hid (by rw [lookJ_zero g F k HFL.out]; exact HA.out), HK⟩
            case round =>
              clear HA HK
              obtain ⟨j, rfl, HJ, HJ0, HA, HK⟩ := hrel
              by_cases hj : j < g.length
              · have hjj : (j : Int) < (g.length : Int) := by omega
                have c1 := HA.out.cell (bls_at _ k (by rw [lookJ_len]; exact hk))
                rw [show (lookJ g F k j).getD k false = (F.getD k false || (decide (k < j) && edge g k k)) by
                  rw [List.getD_eq_getElem?_getD, lookJ_get g F k j k hk]
                  by_cases h : k < j
                  · simp [h]
                  · simp [h]] at c1
                cases hfk : F.getD k false
                · obtain rfl : j = 0 := by
                    rcases HJ0.out with h | h
                    · exact h
                    · rw [hfk] at h; cases h
                  have e0 : (false || (decide (k < 0) && edge g k k)) = false := by simp
                  rw [hfk, e0] at c1
                  have HFK := Lib.hid hfk
                  clear hfk e0
                  go_wp2_with fail
                  go_roundg (g.length - (k + 1))
                  case measure => have := HI.out.2; omega
                  case rel => exact ⟨k + 1, by simp, Lib.hid ⟨hk, rfl⟩, Lib.hid (by rw [HFN.out, look_no g F k HFL.out HFK.out, ← lookJ_zero g F k HFL.out]; exact HA.out), HK⟩
                · rw [hfk, Bool.true_or] at c1
                  have HFK := Lib.hid hfk
                  clear hfk
                  have HEG := Lib.hid (edge_any (.slice ag g.length cg) g k j wr (HG.out.below' (HK.out.below (by rintro j rfl; have := HB.out; omega) (Nat.le_refl _))) HL.out)
                  rw [edgeZ_nat] at HEG
                  have c2 := HA.out.cell (bls_at _ j (by rw [lookJ_len]; exact hj))
                  rw [show (lookJ g F k j).getD j false = F.getD j false by
                    rw [List.getD_eq_getElem?_getD, lookJ_get g F k j j hj]
                    simp] at c2
                  have f2 := HA.out.free j
                  have HSET : Hid (Ro (wr.setCell ⟨b, j, none⟩ (.bool (F.getD j false || edge g k j))) b 4 (bls (lookJ g F k (j + 1)))) := Lib.hid (by rw [← lookJ_step, ← bls_set]; exact HA.out.set j _)
                  obtain ⟨ez, hez⟩ : ∃ ez, ez = edge g k j := ⟨_, rfl⟩
                  rw [← hez] at HEG HSET
                  clear hez
                  cases hfj : F.getD j false
                  · rw [hfj] at c2
                    rw [hfj, Bool.false_or] at HSET
                    clear hfj
                    go_wp2_with fail
                    (with_reducible refine HEG.out.mono ?_); rintro e w2 ⟨rfl, rfl⟩
                    go_wp2_with fail
                    go_roundg (g.length - (j + 1))
                    case measure => have := HJ.out.2; omega
                    case rel => exact ⟨j + 1, by simp, Lib.hid ⟨hj, rfl⟩, Lib.hid (.inr HFK.out), HSET, Lib.hid (HK.out.trans (Kw.set w2 b j (.bool ez)) fun _ _ e => e)⟩
                  · rw [hfj] at c2
                    rw [hfj, Bool.true_or] at HSET
                    clear hfj HEG
                    go_wp2_with fail
                    go_roundg (g.length - (j + 1))
                    case measure => have := HJ.out.2; omega
                    case rel => exact ⟨j + 1, by simp, Lib.hid ⟨hj, rfl⟩, Lib.hid (.inr HFK.out), HSET, Lib.hid (HK.out.trans (Kw.set wr b j (.bool true)) fun _ _ e => e)⟩
              · obtain rfl : j = g.length := by have := HJ.out.1; omega
                go_wp2_with fail
                go_roundg (g.length - (k + 1))
                case measure => have := HI.out.2; omega
                case rel => exact ⟨k + 1, by simp, Lib.hid ⟨hk, rfl⟩, Lib.hid (by
                  rw [HFN.out, ← lookJ_all g F k (by
                    rcases HJ0.out with h | h
                    · omega
                    · exact h)]; exact HA.out), HK⟩
          · obtain rfl : k = g.length := by have := HI.out.1; omega
            go_wp2_with fail
            go_roundg (g.length - (t + 1))
            case measure => have := HT.out.2; omega
            case rel => exact ⟨t + 1, by simp, Lib.hid ⟨ht, rfl⟩, Lib.hid (by rw [show sweeps g B0 (t + 1) = F by rw [HF.out]; rfl]; exact HA.out), HK⟩
      · obtain rfl : t = g.length := by have := HT.out.1; omega
        have hb := HB.out
        subst hb
        go_wp2_with fail
        go_ret
        exact ⟨rfl, by unfold waysZ; rw [← HBZ.out]; exact HA.out, HK.out.below (by rintro j rfl; have := HB.out; omega) (Nat.le_refl _)⟩
end Go.Proofs.Ytemdhbeegheefaa
