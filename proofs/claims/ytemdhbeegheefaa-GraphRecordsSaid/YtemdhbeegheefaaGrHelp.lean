
/- What the laws of graphs lean on, walked: Ints, Lists, in, reach, Cut. No condition. -/
import Derived.Test.YtemdhbeegheefaaGrRefB
import Derived.Test.YtemdhbeegheefaaGrReach
import Derived.StillTailTactics
import Derived.Deep.RegionHeld3
import Derived.Deep.AppendLies
namespace Go.Proofs.Ytemdhbeegheefaa
open Go.RowKit Gr

set_option maxRecDepth 20000 in
set_option maxHeartbeats 2000000 in
/-- 'Ints': the same numbers? -/
theorem ints_any (va vb : Value) (a b : List Int) (w : World) (ha : Ri w va a) (hb : Ri w vb b) (hn : a.length ≤ 1000000) :
    Calls Try.prog 12 #[va, vb] w fun e w' => e = .returned (.bool (decide (a = b))) ∧ ∃ m, w' = w.drewN m := by
  have HA := Lib.hid ha
  have HB := Lib.hid hb
  obtain ⟨aa, ca, rfl⟩ := ha.shape
  obtain ⟨ab, cb, rfl⟩ := hb.shape
  clear ha hb
  go_enter Try.func12, Try.ntmps12
  by_cases hl : a.length = b.length
  case neg =>
    have hE : Hid (decide (a = b) = false) := Lib.hid (decide_eq_false fun e => hl (by rw [e]))
    have hne : ((a.length : Int) == (b.length : Int)) = false := by simp; omega
    go_wp2_with fail
    go_ret
    exact ⟨ret_bool hE.out.symm, 0, rfl⟩
  have HLN := Lib.hid hl
  have heq : ((a.length : Int) == (b.length : Int)) = true := by simp; omega
  clear hl
  go_wp2_with fail
  clear heq
  go_loopg [5] (a.length - 0) (fun n v5 wr => ∃ (j m : Nat), v5 = .int .i64 j ∧ wr = w.drewN m ∧ Hid (j ≤ a.length ∧ a.length - j = n) ∧ Hid (a.take j = b.take j))
  case atStart => exact ⟨0, 0, rfl, rfl, Lib.hid ⟨Nat.zero_le _, rfl⟩, Lib.hid rfl⟩
  case round =>
    obtain ⟨j, m, rfl, hwr, HJ, HT⟩ := hrel
    have HWR := Lib.hid hwr
    by_cases hj : j < a.length
    · have hjj : (j : Int) < (a.length : Int) := by omega
      have hjb : j < b.length := by have := HLN.out; omega
      have hjbi : (j : Int) < (b.length : Int) := by omega
      have hra : Ri wr (.slice aa a.length ca) a := by rw [hwr]; exact HA.out
      have hrb : Ri wr (.slice ab b.length cb) b := by rw [hwr]; exact HB.out
      obtain ⟨b3, o3, rfl, c3⟩ := hra.at hj
      obtain ⟨b4, o4, rfl, c4⟩ := hrb.at hjb
      obtain ⟨x, hx⟩ : ∃ x, x = a[j] := ⟨_, rfl⟩
      obtain ⟨y, hy⟩ : ∃ y, y = b[j] := ⟨_, rfl⟩
      have HX : Hid (a[j]? = some x) := Lib.hid (by rw [hx]; simp [hj])
      have HY : Hid (b[j]? = some y) := Lib.hid (by rw [hy]; simp [hjb])
      rw [← hx] at c3
      rw [← hy] at c4
      clear hx hy hra hrb hwr
      have c3m : ∀ m, (wr.drewN m).cell? ⟨b3, o3 + j, none⟩ = some (.int .i64 x) := fun _ => c3
      have c4m : ∀ m, (wr.drewN m).cell? ⟨b4, o4 + j, none⟩ = some (.int .i64 y) := fun _ => c4
      by_cases hxy : x = y
      · subst hxy
        have hnn : (!(x == x)) = false := by simp
        have HT1 : Hid (a.take (j + 1) = b.take (j + 1)) := Lib.hid (by rw [List.take_add_one, List.take_add_one, HT.out, HX.out, HY.out])
        go_wp2_with fail
        go_quiet (fail)
        revert nq; intro m1
        go_wp2_with fail
        go_roundg (a.length - (j + 1))
        case measure => have := HJ.out.2; omega
        case rel => exact ⟨j + 1, m + m1, by simp, by rw [HWR.out, World.drewN_drewN], Lib.hid ⟨hj, rfl⟩, HT1⟩
      · have hnn : (x == y) = false := by simp [hxy]
        have hE : Hid (decide (a = b) = false) := Lib.hid (decide_eq_false fun e => by
          have h1 := HX.out
          rw [e, HY.out] at h1
          injection h1 with h1
          exact hxy h1.symm)
        go_wp2_with fail
        go_quiet (fail)
        revert nq; intro m1
        go_wp2_with fail
        go_ret
        exact ⟨ret_bool hE.out.symm, m + m1, by rw [HWR.out, World.drewN_drewN]⟩
    · obtain rfl : j = a.length := by have := HJ.out.1; omega
      clear hwr
      have hE : Hid (decide (a = b) = true) := Lib.hid (decide_eq_true (by
        have h1 := HT.out
        rw [List.take_length, HLN.out, List.take_length] at h1
        exact h1))
      go_wp2_with fail
      go_ret
      exact ⟨ret_bool hE.out.symm, m, HWR.out⟩

set_option maxRecDepth 20000 in
set_option maxHeartbeats 2000000 in
/-- 'Lists': the same lists? -/
theorem lists_any (va vb : Value) (a b : List (List Int)) (w : World) (ha : Rg w va a) (hb : Rg w vb b) (hn : a.length ≤ 1000000) (hla : ∀ l ∈ a, l.length ≤ 1000000) :
    Calls Try.prog 9 #[va, vb] w fun e w' => e = .returned (.bool (decide (a = b))) ∧ ∃ m, w' = w.drewN m := by
  have HA := Lib.hid ha
  have HB := Lib.hid hb
  have HL := Lib.hid hla
  obtain ⟨aa, ca, rfl⟩ := ha.shape
  obtain ⟨ab, cb, rfl⟩ := hb.shape
  clear ha hb hla
  go_enter Try.func9, Try.ntmps9
  by_cases hl : a.length = b.length
  case neg =>
    have hE : Hid (decide (a = b) = false) := Lib.hid (decide_eq_false fun e => hl (by rw [e]))
    have hne : ((a.length : Int) == (b.length : Int)) = false := by simp; omega
    go_wp2_with fail
    go_ret
    exact ⟨ret_bool hE.out.symm, 0, rfl⟩
  have HLN := Lib.hid hl
  have heq : ((a.length : Int) == (b.length : Int)) = true := by simp; omega
  clear hl
  go_wp2_with fail
  clear heq
  go_loopg [5] (a.length - 0) (fun n v5 wr => ∃ (j m : Nat), v5 = .int .i64 j ∧ wr = w.drewN m ∧ Hid (j ≤ a.length ∧ a.length - j = n) ∧ Hid (a.take j = b.take j))
  case atStart => exact ⟨0, 0, rfl, rfl, Lib.hid ⟨Nat.zero_le _, rfl⟩, Lib.hid rfl⟩
  case round =>
    obtain ⟨j, m, rfl, hwr, HJ, HT⟩ := hrel
    have HWR := Lib.hid hwr
    by_cases hj : j < a.length
    · have hjj : (j : Int) < (a.length : Int) := by omega
      have hjb : j < b.length := by have := HLN.out; omega
      have hjbi : (j : Int) < (b.length : Int) := by omega
      have hra : Rg wr (.slice aa a.length ca) a := by rw [hwr]; exact HA.out.drewN m
      have hrb : Rg wr (.slice ab b.length cb) b := by rw [hwr]; exact HB.out.drewN m
      obtain ⟨b3, o3, u3, rfl, c3, r3, _, _⟩ := hra.at hj
      obtain ⟨b4, o4, u4, rfl, c4, r4, _, _⟩ := hrb.at hjb
      have hxl := HL.out _ (List.getElem_mem hj)
      obtain ⟨x, hx⟩ : ∃ x, x = a[j] := ⟨_, rfl⟩
      obtain ⟨y, hy⟩ : ∃ y, y = b[j] := ⟨_, rfl⟩
      have HX : Hid (a[j]? = some x) := Lib.hid (by rw [hx]; simp [hj])
      have HY : Hid (b[j]? = some y) := Lib.hid (by rw [hy]; simp [hjb])
      rw [← hx] at r3 hxl
      rw [← hy] at r4
      have HI := fun m => ints_any u3 u4 x y (wr.drewN m) r3 r4 hxl
      clear hx hy hra hrb hwr r3 r4
      have c3m : ∀ m, (wr.drewN m).cell? ⟨b3, o3 + j, none⟩ = some u3 := fun _ => c3
      have c4m : ∀ m, (wr.drewN m).cell? ⟨b4, o4 + j, none⟩ = some u4 := fun _ => c4
      by_cases hxy : x = y
      · subst hxy
        rw [decide_eq_true rfl] at HI
        have HII := Lib.hid HI
        clear HI
        have HT1 : Hid (a.take (j + 1) = b.take (j + 1)) := Lib.hid (by rw [List.take_add_one, List.take_add_one, HT.out, HX.out, HY.out])
        go_wp2_with fail
        go_quiet (first | (go_at_call 12; refine Calls.quiet_of (HII.out _)) | fail)
        revert nq; intro m1
        go_wp2_with fail
        go_roundg (a.length - (j + 1))
        case measure => have := HJ.out.2; omega
        case rel => exact ⟨j + 1, m + m1, by simp, by rw [HWR.out, World.drewN_drewN], Lib.hid ⟨hj, rfl⟩, HT1⟩
      · rw [decide_eq_false hxy] at HI
        have HII := Lib.hid HI
        clear HI
        have hE : Hid (decide (a = b) = false) := Lib.hid (decide_eq_false fun e => by
          have h1 := HX.out
          rw [e, HY.out] at h1
          injection h1 with h1
          exact hxy h1.symm)
        go_wp2_with fail
        go_quiet (first | (go_at_call 12; refine Calls.quiet_of (HII.out _)) | fail)
        revert nq; intro m1
        go_wp2_with fail
        go_ret
        exact ⟨ret_bool hE.out.symm, m + m1, by rw [HWR.out, World.drewN_drewN]⟩
    · obtain rfl : j = a.length := by have := HJ.out.1; omega
      clear hwr
      have hE : Hid (decide (a = b) = true) := Lib.hid (decide_eq_true (by
        have h1 := HT.out
        rw [List.take_length, HLN.out, List.take_length] at h1
        exact h1))
      go_wp2_with fail
      go_ret
      exact ⟨ret_bool hE.out.symm, m, HWR.out⟩

set_option maxRecDepth 20000 in
/-- 'in': is a number in a list? -/
theorem in_any (v : Value) (l : List Int) (z : Int) (w : World) (h : Ri w v l) (hn : l.length ≤ 1000000) :
    Calls Try.prog 19 #[v, .int .i64 z] w fun e w' => e = .returned (.bool (l.contains z)) ∧ w' = w := by
  have HV := Lib.hid h
  obtain ⟨a, c, rfl⟩ := h.shape
  clear h
  go_enter Try.func19, Try.ntmps19
  go_wp2_with fail
  go_loopg [5] (l.length - 0) (fun n v5 wr => ∃ j : Nat, v5 = .int .i64 j ∧ wr = w ∧ Hid (j ≤ l.length ∧ l.length - j = n) ∧ Hid (∀ t, t < j → l[t]? ≠ some z))
  case atStart => exact ⟨0, rfl, rfl, Lib.hid ⟨Nat.zero_le _, rfl⟩, Lib.hid fun t ht => by omega⟩
  case round =>
    obtain ⟨j, rfl, rfl, HJ, HN⟩ := hrel
    by_cases hj : j < l.length
    · have hjj : (j : Int) < (l.length : Int) := by omega
      obtain ⟨b3, o3, rfl, c3⟩ := HV.out.at hj
      obtain ⟨x, hx⟩ : ∃ x, x = l[j] := ⟨_, rfl⟩
      have HX : Hid (l[j]? = some x) := Lib.hid (by rw [hx]; simp [hj])
      rw [← hx] at c3
      clear hx
      by_cases hxz : x = z
      · subst hxz
        have hE : Hid (l.contains x = true) := Lib.hid (by rw [List.contains_iff_mem]; exact List.mem_of_getElem? HX.out)
        go_wp2_with fail
        go_ret
        exact ⟨ret_bool hE.out.symm, rfl⟩
      · have hnn : (x == z) = false := by simp [hxz]
        go_wp2_with fail
        go_roundg (l.length - (j + 1))
        case measure => have := HJ.out.2; omega
        case rel => exact ⟨j + 1, by simp, rfl, Lib.hid ⟨hj, rfl⟩, Lib.hid fun t ht => by
          rcases Nat.lt_or_eq_of_le (Nat.le_of_lt_succ ht) with h | h
          · exact HN.out t h
          · rw [h, HX.out]; intro e; injection e with e; exact hxz e⟩
    · obtain rfl : j = l.length := by have := HJ.out.1; omega
      have hE : Hid (l.contains z = false) := Lib.hid (by
        rw [← Bool.not_eq_true, List.contains_iff_mem]
        intro hm
        obtain ⟨t, ht⟩ := List.getElem?_of_mem hm
        exact HN.out t (List.getElem?_eq_some_iff.1 ht).1 ht)
      go_wp2_with fail
      go_ret
      exact ⟨ret_bool hE.out.symm, rfl⟩

set_option maxRecDepth 20000 in
/-- 'reach' of the law. -/
theorem lreach_any (vg : Value) (g : G) (i : Int) (w : World) (hg : Rg w vg g) (hn : g.length ≤ 1000) (hl : ∀ l ∈ g, l.length ≤ 1000) :
    Calls Try.prog 14 #[vg, .int .i64 i] w fun e w' => ∃ v, e = .returned v ∧ w'.ownsRow w.heap.size 3 1 v (reachZ g i).length (ints (nn (reachZ g i))) ∧ Below w.heap.size w w' := by
  have HG := Lib.hid hg
  have HL := Lib.hid hl
  obtain ⟨ag, cg, rfl⟩ := hg.shape
  clear hg hl
  go_enter Try.func14, Try.ntmps14
  by_cases h1 : i < 0
  · have hE : Hid (reachZ g i = []) := Lib.hid (by unfold reachZ; rw [if_neg (by omega)])
    go_wp2_with fail
    go_ret
    exact ⟨_, rfl, by rw [hE.out]; exact World.ownsRow_nil _ _ _ _, Below.refl _ _⟩
  by_cases h2 : i ≥ (g.length : Int)
  · have hE : Hid (reachZ g i = []) := Lib.hid (by unfold reachZ; rw [if_neg (by omega)])
    go_wp2_with fail
    go_ret
    exact ⟨_, rfl, by rw [hE.out]; exact World.ownsRow_nil _ _ _ _, Below.refl _ _⟩
  have hE : Hid (reachZ g i = reach g i.toNat) := Lib.hid (by unfold reachZ; rw [if_pos (by omega)])
  obtain ⟨ii, rfl⟩ : ∃ ii : Nat, i = (ii : Int) := ⟨i.toNat, by omega⟩
  rw [Int.toNat_natCast] at hE
  have HR := Lib.hid (rreach_any (.slice ag g.length cg) g ii w HG.out hn HL.out)
  go_wp2_with fail
  (with_reducible refine HR.out.mono ?_); rintro e w1 ⟨v, rfl, o1, b1⟩
  go_wp2_with fail
  go_ret
  exact ⟨_, rfl, by rw [hE.out]; exact o1, b1⟩

/-- A beginning of a row. -/
theorem Ri.take {w : World} {a : Option Addr} {c : Nat} {l : List Int} (h : Ri w (.slice a l.length c) l) (m : Nat) : Ri w (.slice a (l.take m).length c) (l.take m) := by
  refine ⟨by simp [ints], ?_⟩
  rcases h.2 with ⟨h1, h2⟩ | ⟨b, o, cap, hv, hlt, hc, hcap⟩
  · left
    have hl : l = [] := List.eq_nil_of_length_eq_zero h2
    subst hl
    exact ⟨by simpa using h1, by simp⟩
  · cases hv
    right
    refine ⟨b, o, c, rfl, fun hp => hlt (by simp at hp; omega), fun j u hj => hc j u ?_, by rw [List.length_take]; omega⟩
    have h3 : (ints (l.take m)) = (ints l).take m := by simp [ints, List.map_take]
    rw [h3] at hj
    rw [List.getElem?_take] at hj
    split at hj
    · exact hj
    · cases hj
theorem take_minG {α : Type} (l : List α) (n : Nat) : l.take (min (l.length : Int) (n : Int)).toNat = l.take n := by
  rw [show (min (l.length : Int) (n : Int)).toNat = min l.length n by omega]
  by_cases h : l.length ≤ n
  · rw [Nat.min_eq_left h, List.take_length, List.take_of_length_le h]
  · rw [Nat.min_eq_right (by omega)]
namespace Gr
def cutG (g : G) (most : Nat) : G := (g.take most).map fun l => l.take 12
end Gr
/-- A list whose values are read in an elder world. -/
structure Gq (w0 w : World) (B : Nat) (v : Value) (us : List Value) (ls : List (List Int)) : Prop where
  len : us.length = ls.length
  row : w.ownsRow B 23 1 v ls.length us
  each : ∀ (i : Nat) (u : Value) (l : List Int), us[i]? = some u → ls[i]? = some l → Ri w0 u l
theorem Gq.rg {w0 w : World} {B : Nat} {v : Value} {us : List Value} {ls : List (List Int)} (h : Gq w0 w B v us ls) (hb : Below w0.heap.size w0 w) : Rg w v ls :=
  ⟨us, own_rd h.row, fun i u l h1 h2 => (h.each i u l h1 h2).below' hb⟩

theorem Gq.more {w0 w w' : World} {B : Nat} {v v' u : Value} {us : List Value} {ls : List (List Int)} {l : List Int} (h : Gq w0 w B v us ls) (ho : w'.ownsRow B 23 1 v' (ls.length + 1) (us ++ [u])) (hu : Ri w0 u l) : Gq w0 w' B v' (us ++ [u]) (ls ++ [l]) := by
  refine ⟨by simp [h.len], by simpa using ho, fun i u' l' h1 h2 => ?_⟩
  by_cases hi : i < us.length
  · rw [List.getElem?_append_left hi] at h1
    rw [List.getElem?_append_left (by rw [← h.len]; exact hi)] at h2
    exact h.each i u' l' h1 h2
  · rw [List.getElem?_append_right (by omega)] at h1
    rw [List.getElem?_append_right (by rw [← h.len]; omega)] at h2
    have e1 : i - us.length = 0 := by
      have := (List.getElem?_eq_some_iff.1 h1).1
      simpa using this
    have e2 : i - ls.length = 0 := by rw [← h.len]; exact e1
    rw [e1] at h1
    rw [e2] at h2
    simp at h1 h2
    subst h1 h2
    exact hu
theorem cutG_succ {g : G} {k : Nat} {row : List Int} (h : g[k]? = some row) : cutG g (k + 1) = cutG g k ++ [row.take 12] := by
  unfold cutG
  rw [List.take_add_one, h, List.map_append]
  rfl
theorem cutG_len (g : G) (most : Nat) : (cutG g most).length ≤ most := by unfold cutG; rw [List.length_map, List.length_take]; omega
theorem cutG_each (g : G) (most : Nat) : ∀ l ∈ cutG g most, l.length ≤ 12 := by
  intro l hl
  obtain ⟨x, _, rfl⟩ := List.mem_map.1 hl
  rw [List.length_take]; omega

set_option maxRecDepth 20000 in
set_option maxHeartbeats 4000000 in
/-- 'Cut'. -/
theorem cut_any (vg : Value) (g : G) (most : Nat) (w : World) (hg : Rg w vg g) (hm : most ≤ 1000) (hll : ∀ l ∈ g, l.length ≤ 9223372036854775807) :
    Calls Try.prog 8 #[vg, .int .i64 most] w fun e w' => ∃ v, e = .returned v ∧ Rg w' v (cutG g most) ∧ Below w.heap.size w w' := by
  have HG := Lib.hid hg
  have HL := Lib.hid hll
  obtain ⟨ag, cg, rfl⟩ := hg.shape
  have tyGrid : SlTy Try.prog 22 23 1 24 := SlTy.mk' (z := .slice none 0 0) Try.underlying22 (by kernel_rfl) rfl (by decide)
  clear hg hll
  have HO := Lib.hid (World.ownsRow_made (e := 23) (size := 1) (base := w.heap.size) w #[] 0 (Nat.le_refl _) (by decide) rfl)
  have HB0 := Lib.hid ((Below.refl w.heap.size w).alloc (Nat.le_refl _) (.cells #[] 23))
  go_enter Try.func8, Try.ntmps8
  go_wp2_with fail
  go_loopg [5, 6] (g.length - 0) (fun n v5 v6 wr => ∃ (k : Nat) (v : Value) (us : List Value), v = v5 ∧ v6 = .int .i64 k ∧ Hid (k ≤ g.length ∧ g.length - k = n ∧ k ≤ most) ∧ Hid (Gq w wr w.heap.size v us (cutG g k)) ∧ Hid (Below w.heap.size w wr))
  case atStart => exact ⟨0, _, [], rfl, rfl, Lib.hid ⟨Nat.zero_le _, rfl, Nat.zero_le _⟩, Lib.hid ⟨rfl, HO.out, fun i u l h1 h2 => by simp at h1⟩, HB0⟩
  case round =>
    clear HO HB0
    obtain ⟨k, v, us, rfl, rfl, HI, HQ, HB⟩ := hrel
    have hki : (k : Int) ≤ 1000 := by have := HI.out; omega
    have hkl : Hid ((cutG g k).length = k) := Lib.hid (by have := HI.out; simp [cutG]; omega)
    by_cases hk : k < g.length
    · have hkk : (k : Int) < (g.length : Int) := by omega
      by_cases hkm : k < most
      · have hkmi : (k : Int) < (most : Int) := by omega
        obtain ⟨b1, o1, u1, rfl, c0, r1, hb1, _⟩ := HG.out.at hk
        have c1 := (HB.out.cell (p := ⟨b1, o1 + k, none⟩) hb1).trans c0
        have hrl := HL.out _ (List.getElem_mem hk)
        obtain ⟨row, hrw⟩ : ∃ row, row = g[k] := ⟨_, rfl⟩
        have HRW : Hid (g[k]? = some row) := Lib.hid (by rw [hrw]; simp [hk])
        rw [← hrw] at r1 hrl
        clear hrw c0
        have HRI := Lib.hid r1
        obtain ⟨au, cu, rfl⟩ := r1.shape
        have hcap := r1.cap
        clear r1
        have hm1 : (0 : Int) ≤ min (row.length : Int) 12 := by omega
        have hm2 : min (row.length : Int) 12 ≤ (cu : Int) := by omega
        go_wp2_with fail
        have htk := take_minG row 12
        simp only [Int.cast_ofNat_Int] at htk
        have HTK := Lib.hid htk
        have hown := HQ.out.row
        obtain ⟨av, cv, hvs⟩ := own_shape hown
        subst hvs
        have hsz : w.heap.size ≤ wr.heap.size := HB.out.size
        have hlk : (cutG g k).length ≤ 1000 := by have := hkl.out; omega
        obtain ⟨i0, z0, hi0, hz0, hsz0, hby0, hzs0⟩ := tyGrid.hi
        have hne : (Value.slice av (cutG g k).length cv).ownBlock ≠ some b1 := fun e => by have := (hown.lt _ e).1; omega
        have hb1r : b1 < wr.heap.size := by omega
        clear htk
        go_region_held3 (fun w' => w'.cell? ⟨b1, o1 + k, none⟩ = some (.slice au row.length cu))
          (first
            | exact k0
            | go_keep
            | fail)
          (first
            | ((refine step_append_lies _ (by rfl) _ _ _ (by rfl) w.heap.size 23 i0 _ 1 24 Try.underlying22 hi0 hz0 hsz0 hby0 hzs0 (by omega) (.slice av (cutG g k).length cv) (cutG g k).length _ (by rfl) ((hown.alloc (.cells #[.slice au (min (row.length : Int) 12).toNat cu] 23)).drew) ⟨wr.heap.size, 0, none⟩ 1 1 [.slice au (min (row.length : Int) 12).toNat cu] (by rfl) (by rfl) (World.news_of_block (cs := #[.slice au (min (row.length : Int) 12).toNat cu]) (t := 23) (fr := (0, 0)) (heap_alloc_new wr _)) (by simp [Value.oneCell']) (by omega) (by unfold maxLen; omega) (by omega) (by simp; omega) (wr.heap.size + 1) (by simp) ?_; intro gg cap w1 hown1 hgrow hat hlt1; have k3 : Kw wr w1 (fun j => (Value.slice av (cutG g k).length cv).ownBlock = some j) := ((Kw.alloc wr (.cells #[.slice au (min (row.length : Int) 12).toNat cu] 23) (fun j => (Value.slice av (cutG g k).length cv).ownBlock = some j)).trans (Kw.drewN _ 1 (fun j => (Value.slice av (cutG g k).length cv).ownBlock = some j)) fun _ _ h => h).trans (Kw.of_grown hgrow) fun _ _ h => h; have k0 : w1.cell? ⟨b1, o1 + k, none⟩ = some (.slice au row.length cu) := (World.cell?_of_block (w := wr) (k3.block b1 hb1r hne)).trans c1))
            | fail)
        have HQ1 : Hid (Gq w w1 w.heap.size (.slice (some ⟨gg, 0, none⟩) ((cutG g k).length + 1) cap) (us ++ [.slice au (min (row.length : Int) 12).toNat cu]) (cutG g (k + 1))) := Lib.hid (by
          rw [cutG_succ HRW.out]
          refine HQ.out.more hown1 ?_
          have h9 := HRI.out.take 12
          rw [show (row.take 12).length = (min (row.length : Int) 12).toNat by rw [List.length_take]; omega] at h9
          exact h9)
        have HB1 := Lib.hid (HB.out.trans (k3.below (fun j e => (hown.lt j e).1) hsz))
        clear hown1 hgrow hat hlt1 k3 k0 c1
        go_wp2_with fail
        go_roundg (g.length - (k + 1))
        case measure => have := HI.out.2; omega
        case rel => exact ⟨k + 1, _, _, rfl, by simp, Lib.hid ⟨hk, rfl, hkm⟩, HQ1, HB1⟩
      · have hkmi : ¬ (k : Int) < (most : Int) := by omega
        have HE : Hid (cutG g k = cutG g most) := Lib.hid (by rw [show k = most by have := HI.out; omega])
        go_wp2_with fail
        go_ret
        exact ⟨_, rfl, by rw [← HE.out]; exact HQ.out.rg HB.out, HB.out⟩
    · have HE : Hid (cutG g k = cutG g most) := Lib.hid (by
        unfold cutG
        rw [List.take_of_length_le (by omega), List.take_of_length_le (by have := HI.out; omega)])
      have hki2 : ¬ (k : Int) < (g.length : Int) := by omega
      go_wp2_with fail
      go_ret
      exact ⟨_, rfl, by rw [← HE.out]; exact HQ.out.rg HB.out, HB.out⟩
end Go.Proofs.Ytemdhbeegheefaa
