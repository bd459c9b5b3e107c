
/- The reference's Reach, Cyclic, Groups, walked. No condition. -/
import Derived.Test.YtemdhbeegheefaaGrRefA
import Derived.Deep.RegionHeld3
namespace Go.Proofs.Ytemdhbeegheefaa
open Go.RowKit Gr
namespace Gr
/-- Nodes below k of which something is true. -/
def upTo (f : Nat → Bool) (k : Nat) : List Nat := (List.range k).filter f
theorem upTo_yes {f : Nat → Bool} {k : Nat} (h : f k = true) : upTo f (k + 1) = upTo f k ++ [k] := by
  unfold upTo
  rw [List.range_succ, List.filter_append]
  simp [h]
theorem upTo_no {f : Nat → Bool} {k : Nat} (h : f k = false) : upTo f (k + 1) = upTo f k := by
  unfold upTo
  rw [List.range_succ, List.filter_append]
  simp [h]
theorem upTo_len (f : Nat → Bool) (k : Nat) : (upTo f k).length ≤ k := by
  have := List.length_filter_le f (List.range k)
  simpa [upTo] using this
/-- Does an edge lead from one of some nodes to one of them? -/
def cyc (g : G) (l : List Int) : Bool := l.any fun i => l.any fun k => edgeZ g i k
/-- What stands, half done. -/
def stoodK (g : G) (st : List Bool) (x k : Nat) : List Bool := tab g.length fun y => st.getD y false || (decide (y < k) && Gr.same g x y)
theorem stoodK_zero (g : G) (st : List Bool) (x : Nat) (h : st.length = g.length) : stoodK g st x 0 = st := by
  apply List.ext_getElem?
  intro j
  by_cases hj : j < g.length
  · rw [stoodK, tab_at _ _ _ hj, List.getD_eq_getElem?_getD, List.getElem?_eq_getElem (by omega)]; simp
  · rw [List.getElem?_eq_none (by rw [stoodK, tab_length]; omega), List.getElem?_eq_none (by omega)]
theorem stoodK_all (g : G) (st : List Bool) (x : Nat) : stoodK g st x g.length = stood g st x := tab_congr fun y hy => by simp [hy]
theorem stoodK_yes (g : G) (st : List Bool) (x k : Nat) (h : Gr.same g x k = true) : (stoodK g st x k).set k true = stoodK g st x (k + 1) := by
  unfold stoodK
  rw [tab_set]
  apply tab_congr
  intro y _
  by_cases e : y = k
  · subst e; simp [h]
  · rw [if_neg e, show decide (y < k + 1) = decide (y < k) by rw [decide_eq_decide]; omega]
theorem stoodK_no (g : G) (st : List Bool) (x k : Nat) (h : Gr.same g x k = false) : stoodK g st x k = stoodK g st x (k + 1) := by
  unfold stoodK
  apply tab_congr
  intro y _
  by_cases e : y = k
  · subst e; simp [h]
  · rw [show decide (y < k + 1) = decide (y < k) by rw [decide_eq_decide]; omega]
theorem stoodK_len (g : G) (st : List Bool) (x k : Nat) : (stoodK g st x k).length = g.length := tab_length _ _
end Gr

set_option maxRecDepth 20000 in
set_option maxHeartbeats 2000000 in
/-- 'Reach' of the reference. -/
theorem rreach_any (vg : Value) (g : G) (i : Nat) (w : World) (hg : Rg w vg g) (hn : g.length ≤ 1000) (hl : ∀ l ∈ g, l.length ≤ 1000) :
    Calls Try.prog 32 #[vg, .int .i64 i] w fun e w' => ∃ v, e = .returned v ∧ w'.ownsRow w.heap.size 3 1 v (Gr.reach g i).length (ints (nn (Gr.reach g i))) ∧ Below w.heap.size w w' := by
  have HW := Lib.hid (ways_any vg g i w hg hn hl)
  rw [waysZ_nat] at HW
  obtain ⟨ag, cg, rfl⟩ := hg.shape
  clear hg hl
  go_enter Try.func32, Try.ntmps32
  go_wp2_with fail
  (with_reducible refine HW.out.mono ?_); rintro e w1 ⟨rfl, h1, b1⟩
  have HR := Lib.hid h1
  have HB := Lib.hid b1
  have hsz : w.heap.size < w1.heap.size := h1.lt
  have HO := Lib.hid (World.ownsRow_made (e := 3) (size := 1) (base := w.heap.size) w1 #[] 0 (Nat.le_of_lt hsz) (by decide) rfl)
  have HK0 := Lib.hid (Kw.alloc w1 (.cells #[] 3) (fun j => w1.heap.size ≤ j))
  clear h1 b1 HW
  go_wp2_with fail
  go_loopg [6, 7] (g.length - 0) (fun n v6 v7 wr => ∃ (k : Nat) (v : Value), v6 = v ∧ v7 = .int .i64 k ∧ Hid (k ≤ g.length ∧ g.length - k = n) ∧ Hid (wr.ownsRow w.heap.size 3 1 v (Gr.upTo (Gr.way g i) k).length (ints (nn (Gr.upTo (Gr.way g i) k)))) ∧ Hid (∀ b, v.ownBlock = some b → w1.heap.size ≤ b) ∧ Hid (Kw w1 wr (fun j => w1.heap.size ≤ j)))
  case atStart => exact ⟨0, _, rfl, rfl, Lib.hid ⟨Nat.zero_le _, rfl⟩, HO, Lib.hid fun b hb => by injection hb with hb; exact Nat.le_of_eq hb, HK0⟩
  case round =>
    clear HO HK0
    obtain ⟨k, v, rfl, rfl, HI, HO, HV, HK⟩ := hrel
    have hul := Gr.upTo_len (Gr.way g i) k
    by_cases hk : k < g.length
    · have hkk : (k : Int) < (g.length : Int) := by omega
      have c1 := (HR.out.kw HK.out (by omega)).cell (bls_at _ k (by rw [ways_length]; exact hk))
      cases hb : Gr.way g i k
      · rw [show (Gr.ways g i).getD k false = false from hb] at c1
        have HNO := Lib.hid hb
        clear hb
        go_wp2_with fail
        go_roundg (g.length - (k + 1))
        case measure => have := HI.out.2; omega
        case rel => exact ⟨k + 1, _, rfl, by simp, Lib.hid ⟨hk, rfl⟩, Lib.hid (by rw [Gr.upTo_no HNO.out]; exact HO.out), HV, HK⟩
      · rw [show (Gr.ways g i).getD k false = true from hb] at c1
        have HYES := Lib.hid hb
        clear hb
        have hown := HO.out
        obtain ⟨a6, c6, hv6⟩ := own_shape hown
        have HV6 := Lib.hid hv6
        clear hv6
        have hs1 : w.heap.size ≤ wr.heap.size := by have := HK.out.size; omega
        have hul2 : (Gr.upTo (Gr.way g i) k).length ≤ 1000 := by omega
        go_wp2_with (first
          | (at_builtin; refine wp_app2 tyInts rfl _ _ rfl w.heap.size hown rfl rfl rfl rfl (by intro u hu; simp at hu; rw [hu]; rfl) (by omega) (by omega) hs1 ?_; intro v3 w3 o3 b3 q3 n3; have k3 := Kw.of_grown q3; have HO3 : Hid (w3.ownsRow w.heap.size 3 1 v3 (Gr.upTo (Gr.way g i) (k + 1)).length (ints (nn (Gr.upTo (Gr.way g i) (k + 1))))) := Lib.hid (by rw [Gr.upTo_yes HYES.out, List.length_append, show nn (Gr.upTo (Gr.way g i) k ++ [k]) = nn (Gr.upTo (Gr.way g i) k) ++ [(k : Int)] by simp, ints_snoc]; exact o3); have HK3 := Lib.hid (HK.out.trans k3 fun j _ e => HV.out j e); have HN3 := Lib.hid n3; clear o3 b3 q3 n3 k3)
          | fail)
        go_roundg (g.length - (k + 1))
        case measure => have := HI.out.2; omega
        case rel => exact ⟨k + 1, _, rfl, by simp, Lib.hid ⟨hk, rfl⟩, HO3, Lib.hid (by
          intro b hb
          rcases HN3.out with h | ⟨g2, h, hle⟩
          · exact HV.out b (h ▸ hb)
          · rw [h] at hb; injection hb with hb; have := HK.out.size; omega), HK3⟩
    · obtain rfl : k = g.length := by have := HI.out.1; omega
      go_wp2_with fail
      go_ret
      exact ⟨_, rfl, HO.out, HB.out.trans (HK.out.below (fun j hj => by omega) HB.out.size)⟩

set_option maxRecDepth 20000 in
set_option maxHeartbeats 2000000 in
/-- 'Cyclic' of the reference. -/
theorem rcyclic_any (vg vl : Value) (g : G) (l : List Int) (w : World) (hg : Rg w vg g) (hv : Ri w vl l) (hn : l.length ≤ 1000) (hl : ∀ l ∈ g, l.length ≤ 1000) :
    Calls Try.prog 16 #[vg, vl] w fun e w' => e = .returned (.bool (Gr.cyc g l)) ∧ ∃ m, w' = w.drewN m := by
  have HG := Lib.hid hg
  have HV := Lib.hid hv
  have HL := Lib.hid hl
  obtain ⟨ag, cg, rfl⟩ := hg.shape
  obtain ⟨al, cl, rfl⟩ := hv.shape
  clear hg hv hl
  go_enter Try.func16, Try.ntmps16
  go_wp2_with fail
  go_loopg [5] (l.length - 0) (fun n v5 wr => ∃ (i m : Nat), v5 = .int .i64 i ∧ wr = w.drewN m ∧ Hid (i ≤ l.length ∧ l.length - i = n) ∧ Hid (∀ (x y : Nat) (a b : Int), x < i → l[x]? = some a → l[y]? = some b → edgeZ g a b = false))
  case atStart => exact ⟨0, 0, rfl, rfl, Lib.hid ⟨Nat.zero_le _, rfl⟩, Lib.hid fun x y a b hx => by omega⟩
  case round =>
    obtain ⟨i, m, rfl, hwr, HI, HN⟩ := hrel
    have HWR := Lib.hid hwr
    clear hwr
    by_cases hi : i < l.length
    · have hii : (i : Int) < (l.length : Int) := by omega
      go_wp2_with fail
      go_loopg [6] (l.length - 0) (fun n v6 wr2 => ∃ (j m : Nat), v6 = .int .i64 j ∧ wr2 = w.drewN m ∧ Hid (j ≤ l.length ∧ l.length - j = n) ∧ Hid (∀ (y : Nat) (a b : Int), y < j → l[i]? = some a → l[y]? = some b → edgeZ g a b = false))
      case atStart => exact ⟨0, m, rfl, HWR.out, Lib.hid ⟨Nat.zero_le _, rfl⟩, Lib.hid fun y a b hy => by omega⟩
      case round =>
        clear HWR
        obtain ⟨j, m2, rfl, hwr, HJ, HM⟩ := hrel
        have HWR := Lib.hid hwr
        by_cases hj : j < l.length
        · have hjj : (j : Int) < (l.length : Int) := by omega
          have hv1 : Ri wr (.slice al l.length cl) l := by rw [hwr]; exact HV.out
          have hg1 : Rg wr (.slice ag g.length cg) g := by rw [hwr]; exact HG.out.drewN m2
          clear hwr
          obtain ⟨b3, o3, rfl, c3⟩ := hv1.at hi
          obtain ⟨b4, o4, e4, c4⟩ := hv1.at hj
          injection e4 with e4
          injection e4 with e5 e6
          subst e5 e6
          obtain ⟨za, hza⟩ : ∃ za, za = l[i] := ⟨_, rfl⟩
          obtain ⟨zb, hzb⟩ : ∃ zb, zb = l[j] := ⟨_, rfl⟩
          have HZA : Hid (l[i]? = some za) := Lib.hid (by rw [hza]; simp [hi])
          have HZB : Hid (l[j]? = some zb) := Lib.hid (by rw [hzb]; simp [hj])
          rw [← hza] at c3
          rw [← hzb] at c4
          clear hza hzb hv1
          have c3m : ∀ m, (wr.drewN m).cell? ⟨b3, o3 + i, none⟩ = some (.int .i64 za) := fun _ => c3
          have c4m : ∀ m, (wr.drewN m).cell? ⟨b3, o3 + j, none⟩ = some (.int .i64 zb) := fun _ => c4
          have hE := fun m => edge_any (.slice ag g.length cg) g za zb (wr.drewN m) (hg1.drewN m) HL.out
          cases hez : edgeZ g za zb
          · rw [hez] at hE
            have HEZ := Lib.hid hez
            have HE := Lib.hid hE
            clear hez hE hg1
            go_wp2_with fail
            go_quiet (first | (go_at_call 18; refine Calls.quiet_of_same (HE.out _)) | fail)
            revert nq; intro m1
            go_wp2_with fail
            go_roundg (l.length - (j + 1))
            case measure => have := HJ.out.2; omega
            case rel => exact ⟨j + 1, m2 + m1, by simp, by rw [HWR.out, World.drewN_drewN], Lib.hid ⟨hj, rfl⟩, Lib.hid fun y a b hy ha hb => by
              rcases Nat.lt_or_eq_of_le (Nat.le_of_lt_succ hy) with h | h
              · exact HM.out y a b h ha hb
              · subst h
                rw [HZA.out] at ha; rw [HZB.out] at hb
                injection ha with ha; injection hb with hb
                rw [← ha, ← hb]; exact HEZ.out⟩
          · rw [hez] at hE
            have hR : Hid (Gr.cyc g l = true) := Lib.hid (by
              unfold Gr.cyc
              rw [List.any_eq_true]
              exact ⟨za, List.mem_of_getElem? HZA.out, List.any_eq_true.2 ⟨zb, List.mem_of_getElem? HZB.out, hez⟩⟩)
            have HE := Lib.hid hE
            clear hez hE hg1
            go_wp2_with fail
            go_quiet (first | (go_at_call 18; refine Calls.quiet_of_same (HE.out _)) | fail)
            revert nq; intro m1
            go_wp2_with fail
            go_ret
            exact ⟨ret_bool hR.out.symm, m2 + m1, by rw [HWR.out, World.drewN_drewN]⟩
        · obtain rfl : j = l.length := by have := HJ.out.1; omega
          clear hwr
          go_wp2_with fail
          go_roundg (l.length - (i + 1))
          case measure => have := HI.out.2; omega
          case rel => exact ⟨i + 1, m2, by simp, HWR.out, Lib.hid ⟨hi, rfl⟩, Lib.hid fun x y a b hx ha hb => by
            rcases Nat.lt_or_eq_of_le (Nat.le_of_lt_succ hx) with h | h
            · exact HN.out x y a b h ha hb
            · subst h
              exact HM.out y a b (List.getElem?_eq_some_iff.1 hb).1 ha hb⟩
    · obtain rfl : i = l.length := by have := HI.out.1; omega
      have hR : Hid (Gr.cyc g l = false) := Lib.hid (by
        rw [← Bool.not_eq_true]
        unfold Gr.cyc
        rw [List.any_eq_true]
        rintro ⟨a, ha, hb⟩
        obtain ⟨b, hb1, hb2⟩ := List.any_eq_true.1 hb
        obtain ⟨x, hx⟩ := List.getElem?_of_mem ha
        obtain ⟨y, hy⟩ := List.getElem?_of_mem hb1
        rw [HN.out x y a b (List.getElem?_eq_some_iff.1 hx).1 hx hy] at hb2
        cases hb2)
      go_wp2_with fail
      go_ret
      exact ⟨ret_bool hR.out.symm, m, HWR.out⟩
end Go.Proofs.Ytemdhbeegheefaa
