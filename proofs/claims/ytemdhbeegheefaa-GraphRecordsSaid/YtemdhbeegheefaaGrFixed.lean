
/- The laws' fixed calls: each answers as the document says. No condition. -/
import Derived.Test.YtemdhbeegheefaaGrHelp
import Derived.Test.YtemdhbeegheefaaGrGroups
import Derived.Test.YtemdhbeegheefaaGrRefC
import Derived.Test.YtemdhbeegheefaaGrCyc
namespace Go.Proofs.Ytemdhbeegheefaa
open Go.RowKit Gr

theorem ri_block {w : World} {b n : Nat} {l : List Int} (h : w.heap[b]? = some (.cells (ints l).toArray 3 (0, 0))) (hn : n = l.length) : Ri w (.slice (some ⟨b, 0, none⟩) n n) l := by
  subst hn
  exact ⟨by simp [ints], .inr ⟨b, 0, l.length, rfl, fun _ => row_lt h, fun j u hj => by rw [Nat.zero_add, row_cell h]; simpa using hj, Nat.le_refl _⟩⟩
theorem rg_block {w : World} {b n : Nat} {us : List Value} {ls : List (List Int)} (h : w.heap[b]? = some (.cells us.toArray 23 (0, 0))) (hn : n = ls.length) (hu : us.length = ls.length) (he : ∀ (i : Nat) (u : Value) (l : List Int), us[i]? = some u → ls[i]? = some l → Ri w u l) : Rg w (.slice (some ⟨b, 0, none⟩) n n) ls := by
  subst hn
  exact ⟨us, ⟨by simp [hu], .inr ⟨b, 0, ls.length, rfl, fun _ => row_lt h, fun j u hj => by rw [Nat.zero_add, row_cell h]; simpa using hj, Nat.le_refl _⟩⟩, he⟩
/-- A row that is written out. -/
theorem lit1 (w : World) (a : List Int) {n : Nat} (hn : n = a.length) : Ri (w.alloc (.cells (ints a).toArray 3)) (.slice (some ⟨w.heap.size, 0, none⟩) n n) a := ri_block (alloc_at _ _ _ rfl) hn
/-- Two rows that are written out. -/
theorem lit2 (w : World) (a b : List Int) {n m : Nat} (hn : n = a.length) (hm : m = b.length) :
    Rg (((w.alloc (.cells (ints a).toArray 3)).alloc (.cells (ints b).toArray 3)).alloc (.cells #[.slice (some ⟨w.heap.size, 0, none⟩) n n, .slice (some ⟨w.heap.size + 1, 0, none⟩) m m] 23)) (.slice (some ⟨w.heap.size + 1 + 1, 0, none⟩) 2 2) [a, b] := by
  refine rg_block (us := [.slice (some ⟨w.heap.size, 0, none⟩) n n, .slice (some ⟨w.heap.size + 1, 0, none⟩) m m]) (alloc_at _ _ _ (by simp)) rfl rfl fun i u l h1 h2 => ?_
  match i, h1, h2 with
  | 0, h1, h2 =>
    injection h1 with h1; injection h2 with h2
    subst h1 h2
    exact ri_block (alloc_lt _ _ _ (by simp only [alloc_size]; omega) (alloc_lt _ _ _ (by simp only [alloc_size]; omega) (alloc_at _ _ _ rfl))) hn
  | 1, h1, h2 =>
    injection h1 with h1; injection h2 with h2
    subst h1 h2
    exact ri_block (alloc_lt _ _ _ (by simp only [alloc_size]; omega) (alloc_at _ _ _ (by simp))) hm
/-- Three rows that are written out. -/
theorem lit3 (w : World) (a b c : List Int) {n m k : Nat} (hn : n = a.length) (hm : m = b.length) (hk : k = c.length) :
    Rg ((((w.alloc (.cells (ints a).toArray 3)).alloc (.cells (ints b).toArray 3)).alloc (.cells (ints c).toArray 3)).alloc (.cells #[.slice (some ⟨w.heap.size, 0, none⟩) n n, .slice (some ⟨w.heap.size + 1, 0, none⟩) m m, .slice (some ⟨w.heap.size + 1 + 1, 0, none⟩) k k] 23)) (.slice (some ⟨w.heap.size + 1 + 1 + 1, 0, none⟩) 3 3) [a, b, c] := by
  refine rg_block (us := [.slice (some ⟨w.heap.size, 0, none⟩) n n, .slice (some ⟨w.heap.size + 1, 0, none⟩) m m, .slice (some ⟨w.heap.size + 1 + 1, 0, none⟩) k k]) (alloc_at _ _ _ (by simp)) rfl rfl fun i u l h1 h2 => ?_
  match i, h1, h2 with
  | 0, h1, h2 =>
    injection h1 with h1; injection h2 with h2
    subst h1 h2
    exact ri_block (alloc_lt _ _ _ (by simp only [alloc_size]; omega) (alloc_lt _ _ _ (by simp only [alloc_size]; omega) (alloc_lt _ _ _ (by simp only [alloc_size]; omega) (alloc_at _ _ _ rfl)))) hn
  | 1, h1, h2 =>
    injection h1 with h1; injection h2 with h2
    subst h1 h2
    exact ri_block (alloc_lt _ _ _ (by simp only [alloc_size]; omega) (alloc_lt _ _ _ (by simp only [alloc_size]; omega) (alloc_at _ _ _ (by simp)))) hm
  | 2, h1, h2 =>
    injection h1 with h1; injection h2 with h2
    subst h1 h2
    exact ri_block (alloc_lt _ _ _ (by simp only [alloc_size]; omega) (alloc_at _ _ _ (by simp))) hk
theorem below1 {B : Nat} {w0 w : World} (h : Below B w0 w) (hB : B ≤ w.heap.size) (a : Obj) : Below B w0 (w.alloc a) := h.alloc hB a
theorem below3 {B : Nat} {w0 w : World} (h : Below B w0 w) (hB : B ≤ w.heap.size) (a b c : Obj) : Below B w0 (((w.alloc a).alloc b).alloc c) := ((h.alloc hB a).alloc (by simp; omega) b).alloc (by simp; omega) c
theorem below4 {B : Nat} {w0 w : World} (h : Below B w0 w) (hB : B ≤ w.heap.size) (a b c d : Obj) : Below B w0 ((((w.alloc a).alloc b).alloc c).alloc d) := (below3 h hB a b c).alloc (by simp; omega) d

theorem rest_len (g : G) : ∀ (t : Nat) (st : List Bool), (rest g t st).length ≤ t
  | 0, _ => Nat.le_refl _
  | t + 1, st => by
    unfold rest
    split
    · exact Nat.zero_le _
    · have := rest_len g t (stood g st ‹_›); simp; omega
theorem groups_len (g : G) : (groups g).length ≤ g.length := rest_len g _ _
theorem rest_each (g : G) : ∀ (t : Nat) (st : List Bool), ∀ x ∈ rest g t st, ∃ v, x = grp g v
  | 0, _, x, hx => by simp [rest] at hx
  | t + 1, st, x, hx => by
    unfold rest at hx
    split at hx
    · simp at hx
    · rcases List.mem_cons.1 hx with h | h
      · exact ⟨_, h⟩
      · exact rest_each g t _ x h
theorem groups_each (g : G) (hg : g.length ≤ 1000000) : ∀ l ∈ (groups g).map nn, l.length ≤ 1000000 := by
  intro l hl
  obtain ⟨x, hx, rfl⟩ := List.mem_map.1 hl
  obtain ⟨v, rfl⟩ := rest_each g _ _ x hx
  rw [List.length_map]
  have := List.length_filter_le (fun k => Gr.same g v k) (List.range g.length)
  unfold grp
  simp at this ⊢
  omega
theorem reachZ_len (g : G) (i : Int) : (reachZ g i).length ≤ g.length := by
  unfold reachZ
  split
  · have := List.length_filter_le (fun k => way g i.toNat k) (List.range g.length)
    unfold reach
    simpa using this
  · exact Nat.zero_le _

/-- The document's own examples. -/
abbrev gA : G := [[1], [0, 2], [2]]
abbrev gB : G := [[9, -1], [0], [0, 0]]
theorem gA_groups : (groups gA).map nn = [[0, 1], [2]] := by decide +kernel
theorem gB_groups : (groups gB).map nn = [[1], [2], [0]] := by decide +kernel
theorem gN_groups : (groups []).map nn = [] := by decide +kernel
theorem gA_reach0 : nn (reachZ gA 0) = [0, 1, 2] := by decide +kernel
theorem gA_reach3 : reachZ gA 3 = [] := by decide +kernel
theorem gB_reach0 : reachZ gB 0 = [] := by decide +kernel
theorem gA_c1 : cyc gA [0, 1] = true := by decide +kernel
theorem gA_c2 : cyc gA [2] = true := by decide +kernel
theorem gA_c3 : cyc gA [0] = false := by decide +kernel
theorem gB_c4 : cyc gB [1, 2, 7] = false := by decide +kernel

theorem lists_same (va vb : Value) (a : List (List Int)) (w : World) (ha : Rg w va a) (hb : Rg w vb a) (hn : a.length ≤ 1000000) (hla : ∀ l ∈ a, l.length ≤ 1000000) :
    Calls Try.prog 9 #[va, vb] w fun e w' => e = .returned (.bool true) ∧ Below w.heap.size w w' :=
  (lists_any va vb a a w ha hb hn hla).mono fun _ _ ⟨h, m, hm⟩ => ⟨by rw [h, decide_eq_true rfl], by rw [hm]; exact below_drewN (Below.refl _ _) m⟩
theorem ints_same (va vb : Value) (a : List Int) (w : World) (ha : Ri w va a) (hb : Ri w vb a) (hn : a.length ≤ 1000000) :
    Calls Try.prog 12 #[va, vb] w fun e w' => e = .returned (.bool true) ∧ Below w.heap.size w w' :=
  (ints_any va vb a a w ha hb hn).mono fun _ _ ⟨h, m, hm⟩ => ⟨by rw [h, decide_eq_true rfl], by rw [hm]; exact below_drewN (Below.refl _ _) m⟩

set_option maxRecDepth 20000 in
set_option maxHeartbeats 8000000 in
/-- 'fixed' is true. -/
theorem fixed_any (w : World) : Calls Try.prog 17 #[] w fun e w' => e = .returned (.bool true) ∧ Below w.heap.size w w' := by
  have HA := Lib.hid (lit3 w [1] [0, 2] [2] (n := 1) (m := 2) (k := 1) rfl rfl rfl)
  have HB := lit3 ((((w.alloc (.cells (ints [1]).toArray 3)).alloc (.cells (ints [0, 2]).toArray 3)).alloc (.cells (ints [2]).toArray 3)).alloc (.cells #[.slice (some ⟨w.heap.size, 0, none⟩) 1 1, .slice (some ⟨w.heap.size + 1, 0, none⟩) 2 2, .slice (some ⟨w.heap.size + 1 + 1, 0, none⟩) 1 1] 23)) [9, -1] [0] [0, 0] (n := 2) (m := 1) (k := 2) rfl rfl rfl
  have hbel := below4 (below4 (Below.refl w.heap.size w) (Nat.le_refl _) (.cells (ints [1]).toArray 3) (.cells (ints [0, 2]).toArray 3) (.cells (ints [2]).toArray 3) (.cells #[.slice (some ⟨w.heap.size, 0, none⟩) 1 1, .slice (some ⟨w.heap.size + 1, 0, none⟩) 2 2, .slice (some ⟨w.heap.size + 1 + 1, 0, none⟩) 1 1] 23)) (by simp only [alloc_size]; omega) (.cells (ints [9, -1]).toArray 3) (.cells (ints [0]).toArray 3) (.cells (ints [0, 0]).toArray 3) (.cells #[.slice (some ⟨w.heap.size + 1 + 1 + 1 + 1, 0, none⟩) 2 2, .slice (some ⟨w.heap.size + 1 + 1 + 1 + 1 + 1, 0, none⟩) 1 1, .slice (some ⟨w.heap.size + 1 + 1 + 1 + 1 + 1 + 1, 0, none⟩) 2 2] 23)
  simp only [alloc_size] at HB
  have HA8 := Lib.hid (HA.out.below' (below4 (Below.refl _ _) (Nat.le_refl _) (.cells (ints [9, -1]).toArray 3) (.cells (ints [0]).toArray 3) (.cells (ints [0, 0]).toArray 3) (.cells #[.slice (some ⟨w.heap.size + 1 + 1 + 1 + 1, 0, none⟩) 2 2, .slice (some ⟨w.heap.size + 1 + 1 + 1 + 1 + 1, 0, none⟩) 1 1, .slice (some ⟨w.heap.size + 1 + 1 + 1 + 1 + 1 + 1, 0, none⟩) 2 2] 23)))
  have HB8 := Lib.hid HB
  have HW8 := Lib.hid hbel
  clear HA HB hbel
  go_enter Try.func17, Try.ntmps17
  go_wp2_with fail
  refine (groups_any gA _ _ HA8.out (by decide) (by decide)).mono ?_; rintro e w1 ⟨v1, rfl, r1, b1⟩
  rw [gA_groups] at r1
  have HGA := Lib.hid (HA8.out.below' b1)
  have HGB := Lib.hid (HB8.out.below' b1)
  have HWW := Lib.hid (HW8.out.trans (b1.mono HW8.out.size))
  have HR := Lib.hid r1
  clear r1 b1 HA8 HB8 HW8
  --STEPS
  go_wp2_with fail
  refine (lists_same _ _ [[0, 1], [2]] _ (HR.out.below' (below3 (Below.refl _ _) (Nat.le_refl _) _ _ _)) (lit2 _ [0, 1] [2] rfl rfl) (by decide) (by decide)).mono ?_; rintro e w2 ⟨rfl, b2⟩
  have b2 := (below3 (Below.refl w1.heap.size w1) (Nat.le_refl _) _ _ _).trans (b2.mono (by simp only [alloc_size]; omega))
  have HGA := Lib.hid (HGA.out.below' b2)
  have HGB := Lib.hid (HGB.out.below' b2)
  have HWW := Lib.hid (HWW.out.trans (b2.mono HWW.out.size))
  clear b2 HR
  go_wp2_with fail
  refine (groups_any gB _ _ HGB.out (by decide) (by decide)).mono ?_; rintro e w3 ⟨v3, rfl, r3, b3⟩
  rw [gB_groups] at r3
  have HGA := Lib.hid (HGA.out.below' b3)
  have HGB := Lib.hid (HGB.out.below' b3)
  have HWW := Lib.hid (HWW.out.trans (b3.mono HWW.out.size))
  have HR := Lib.hid r3
  clear r3 b3
  go_wp2_with fail
  refine (lists_same _ _ [[1], [2], [0]] _ (HR.out.below' (below4 (Below.refl _ _) (Nat.le_refl _) _ _ _ _)) (lit3 _ [1] [2] [0] rfl rfl rfl) (by decide) (by decide)).mono ?_; rintro e w4 ⟨rfl, b4⟩
  have b4 := (below4 (Below.refl w3.heap.size w3) (Nat.le_refl _) _ _ _ _).trans (b4.mono (by simp only [alloc_size]; omega))
  have HGA := Lib.hid (HGA.out.below' b4)
  have HGB := Lib.hid (HGB.out.below' b4)
  have HWW := Lib.hid (HWW.out.trans (b4.mono HWW.out.size))
  clear b4 HR
  go_wp2_with fail
  refine (reach_any _ gA 0 _ HGA.out (by decide) (by decide)).mono ?_; rintro e w5 ⟨v5, rfl, r5, b5⟩
  have HGA := Lib.hid (HGA.out.below' b5)
  have HGB := Lib.hid (HGB.out.below' b5)
  have HWW := Lib.hid (HWW.out.trans (b5.mono HWW.out.size))
  have r5 : Ri w5 v5 (nn (reachZ gA 0)) := ri_own (by simpa using r5)
  rw [gA_reach0] at r5
  have HR := Lib.hid r5
  clear r5 b5
  go_wp2_with fail
  refine (ints_same _ _ [0, 1, 2] _ (HR.out.below' (below1 (Below.refl _ _) (Nat.le_refl _) _)) (lit1 _ [0, 1, 2] rfl) (by decide)).mono ?_; rintro e w6 ⟨rfl, b6⟩
  have b6 := (below1 (Below.refl w5.heap.size w5) (Nat.le_refl _) _).trans (b6.mono (by simp only [alloc_size]; omega))
  have HGA := Lib.hid (HGA.out.below' b6)
  have HGB := Lib.hid (HGB.out.below' b6)
  have HWW := Lib.hid (HWW.out.trans (b6.mono HWW.out.size))
  clear b6 HR
  go_wp2_with fail
  refine (reach_any _ gA 3 _ HGA.out (by decide) (by decide)).mono ?_; rintro e w7 ⟨v7, rfl, r7, b7⟩
  have HGA := Lib.hid (HGA.out.below' b7)
  have HGB := Lib.hid (HGB.out.below' b7)
  have HWW := Lib.hid (HWW.out.trans (b7.mono HWW.out.size))
  rw [gA_reach3] at r7
  obtain ⟨a7, c7, rfl⟩ := own_shape r7
  simp only [List.length_nil]
  clear r7 b7
  go_wp2_with fail
  refine (reach_any _ gB 0 _ HGB.out (by decide) (by decide)).mono ?_; rintro e w8 ⟨v8, rfl, r8, b8⟩
  have HGA := Lib.hid (HGA.out.below' b8)
  have HGB := Lib.hid (HGB.out.below' b8)
  have HWW := Lib.hid (HWW.out.trans (b8.mono HWW.out.size))
  rw [gB_reach0] at r8
  obtain ⟨a8, c8, rfl⟩ := own_shape r8
  simp only [List.length_nil]
  clear r8 b8
  go_wp2_with fail
  refine (cyclic_any _ _ gA [0, 1] _ (HGA.out.below' (below1 (Below.refl _ _) (Nat.le_refl _) _)) (lit1 _ [0, 1] rfl) (by decide) (by decide)).mono ?_; rintro e w9 ⟨rfl, b9⟩
  rw [gA_c1]
  have b9 := (below1 (Below.refl w8.heap.size w8) (Nat.le_refl _) _).trans (b9.mono (by simp only [alloc_size]; omega))
  have HGA := Lib.hid (HGA.out.below' b9)
  have HGB := Lib.hid (HGB.out.below' b9)
  have HWW := Lib.hid (HWW.out.trans (b9.mono HWW.out.size))
  clear b9
  go_wp2_with fail
  refine (cyclic_any _ _ gA [2] _ (HGA.out.below' (below1 (Below.refl _ _) (Nat.le_refl _) _)) (lit1 _ [2] rfl) (by decide) (by decide)).mono ?_; rintro e w10 ⟨rfl, b10⟩
  rw [gA_c2]
  have b10 := (below1 (Below.refl w9.heap.size w9) (Nat.le_refl _) _).trans (b10.mono (by simp only [alloc_size]; omega))
  have HGA := Lib.hid (HGA.out.below' b10)
  have HGB := Lib.hid (HGB.out.below' b10)
  have HWW := Lib.hid (HWW.out.trans (b10.mono HWW.out.size))
  clear b10
  go_wp2_with fail
  refine (cyclic_any _ _ gA [0] _ (HGA.out.below' (below1 (Below.refl _ _) (Nat.le_refl _) _)) (lit1 _ [0] rfl) (by decide) (by decide)).mono ?_; rintro e w11 ⟨rfl, b11⟩
  rw [gA_c3]
  have b11 := (below1 (Below.refl w10.heap.size w10) (Nat.le_refl _) _).trans (b11.mono (by simp only [alloc_size]; omega))
  have HGA := Lib.hid (HGA.out.below' b11)
  have HGB := Lib.hid (HGB.out.below' b11)
  have HWW := Lib.hid (HWW.out.trans (b11.mono HWW.out.size))
  clear b11
  go_wp2_with fail
  refine (cyclic_any _ _ gB [1, 2, 7] _ (HGB.out.below' (below1 (Below.refl _ _) (Nat.le_refl _) _)) (lit1 _ [1, 2, 7] rfl) (by decide) (by decide)).mono ?_; rintro e w12 ⟨rfl, b12⟩
  rw [gB_c4]
  have b12 := (below1 (Below.refl w11.heap.size w11) (Nat.le_refl _) _).trans (b12.mono (by simp only [alloc_size]; omega))
  have HGA := Lib.hid (HGA.out.below' b12)
  have HGB := Lib.hid (HGB.out.below' b12)
  have HWW := Lib.hid (HWW.out.trans (b12.mono HWW.out.size))
  clear b12
  go_wp2_with fail
  refine (groups_any [] _ _ (Rg.nil _) (by decide) (by decide)).mono ?_; rintro e w13 ⟨v13, rfl, r13, b13⟩
  rw [gN_groups] at r13
  have HWW := Lib.hid (HWW.out.trans (b13.mono HWW.out.size))
  obtain ⟨a13, c13, rfl⟩ := r13.shape
  simp only [List.length_nil]
  clear r13 b13
  go_wp2_with fail
  go_ret
  exact ⟨ret_bool rfl, HWW.out⟩
end Go.Proofs.Ytemdhbeegheefaa
