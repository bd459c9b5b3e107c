
/- Looks into the maps of commands and names, at the operation; 'key', walked. No condition. -/
import Derived.Test.YtcdclkgfgieppaaItNames
import Derived.Test.YtcdclkgfgieppaaItRef
import Derived.Test.YtcdclkgfgieppaaMacFlat
namespace Go.Proofs.Ytcdclkgfgieppaa
open Go.RowKit Go.Maps

theorem zeroN (w : World) : (zeroValue 82).run Try.prog w = .ok (.agg #[.string (S []), .int .i64 0]) w := by kernel_rfl
theorem zeroC (w : World) : (zeroValue 65).run Try.prog w = .ok (.agg #[.int .i64 0, .int .i64 0]) w := by kernel_rfl

section
variable (w : World) {ops : Array Oper} {rest : List Oper} {o : Oper} {a : Act} {Q : Exit → Act → World → Prop}
/-- 'c, is := of[z]', z a kind that has a name. -/
theorem wp_name_hit (hg : o.guard = none) (m x : Operand) (hop : o.op = Op.lookup 79 m x true) (b : Nat) (D : DataW Unit)
    (hm : a.eval m = .map (some b)) (hown : w.ownsMap Try.prog 3 readN b 13 D) (hD : NamesOk D) (z : Int) (hx : a.eval x = .int .i64 z) (hz : 4 ≤ z ∧ z ≤ 16)
    (hK : wpList Try.prog ops Q rest (a.put o.dst (.tuple #[.agg #[.string (S (It.nameOf z.toNat)), .int .i64 (It.grp z.toNat)], .bool true])) w) :
    wpList Try.prog ops Q (o :: rest) a w := by
  have hwf : (Lit.int .i64 z).wf = true := WalkArith.wf_i64 (by omega)
  refine wpList_lookup_own_ok w hg m x _ hop 3 82 lawI Try.underlying79 readN (zeroN w) (dN [] 0) [] (readN_mk _ _) b 13 D hm hown _ _ hx (keyOf_int_mk Try.underlying3 hwf) fun v ps hv => ?_
  obtain ⟨h1, h2⟩ := hD z
  rw [h2, if_pos hz] at hv
  obtain ⟨s, g, rfl, hy⟩ := readN_inv hv
  have he : dN (It.nameOf z.toNat) (It.grp z.toNat) = dN s g := by injection hy
  simp only [dN, DataW.agg.injEq, List.cons.injEq, DataW.lit.injEq, Lit.string.injEq, Lit.int.injEq, true_and, and_true] at he
  obtain ⟨rfl, rfl⟩ := he
  rw [h1]
  have hb : (decide (4 ≤ z) && decide (z ≤ 16)) = true := by simp; omega
  rw [hb]
  exact hK
/-- .. a kind that has none. -/
theorem wp_name_miss (hg : o.guard = none) (m x : Operand) (hop : o.op = Op.lookup 79 m x true) (b : Nat) (D : DataW Unit)
    (hm : a.eval m = .map (some b)) (hown : w.ownsMap Try.prog 3 readN b 13 D) (hD : NamesOk D) (z : Int) (hx : a.eval x = .int .i64 z) (hwf : (Lit.int .i64 z).wf = true) (hz : ¬ (4 ≤ z ∧ z ≤ 16))
    (hK : wpList Try.prog ops Q rest (a.put o.dst (.tuple #[.agg #[.string (S []), .int .i64 0], .bool false])) w) :
    wpList Try.prog ops Q (o :: rest) a w := by
  refine wpList_lookup_own_ok w hg m x _ hop 3 82 lawI Try.underlying79 readN (zeroN w) (dN [] 0) [] (readN_mk _ _) b 13 D hm hown _ _ hx (keyOf_int_mk Try.underlying3 hwf) fun v ps hv => ?_
  obtain ⟨h1, h2⟩ := hD z
  rw [h2, if_neg hz] at hv
  obtain ⟨s, g, rfl, hy⟩ := readN_inv hv
  have he : dN [] 0 = dN s g := by injection hy
  simp only [dN, DataW.agg.injEq, List.cons.injEq, DataW.lit.injEq, Lit.string.injEq, Lit.int.injEq, true_and, and_true] at he
  obtain ⟨rfl, rfl⟩ := he
  rw [h1]
  have hb : (decide (4 ≤ z) && decide (z ≤ 16)) = false := by simp; omega
  rw [hb]
  exact hK
/-- 'c, is := all[s]', s a command. -/
theorem wp_com_hit (hg : o.guard = none) (m x : Operand) (hop : o.op = Op.lookup 55 m x true) (b : Nat)
    (hm : a.eval m = .map (some b)) (hown : w.ownsMap Try.prog 9 readC b 13 comD) (s : List UInt8) (hx : a.eval x = .string (S s)) (hs : s.length ≤ 1000000000) (hz : It.kindOf s ≠ 0)
    (hK : wpList Try.prog ops Q rest (a.put o.dst (.tuple #[.agg #[.int .i64 (It.kindOf s : Int), .int .i64 (It.grp (It.kindOf s))], .bool true])) w) :
    wpList Try.prog ops Q (o :: rest) a w := by
  refine wpList_lookup_own_ok w hg m x _ hop 9 65 lawS Try.underlying55 readC (zeroC w) (dC 0 0) [] (readC_mk _ _) b 13 comD hm hown _ _ hx (key_S s (by unfold maxLen; omega)) fun v ps hv => ?_
  obtain ⟨h1, h2⟩ := com_at s
  rw [h2, if_neg hz] at hv
  obtain ⟨k, g, rfl, hy⟩ := readC_inv hv
  have he : dC (It.kindOf s) (It.grp (It.kindOf s)) = dC k g := by injection hy
  simp only [dC, DataW.agg.injEq, List.cons.injEq, DataW.lit.injEq, Lit.int.injEq, true_and, and_true] at he
  obtain ⟨rfl, rfl⟩ := he
  rw [h1]
  have hb : decide (It.kindOf s ≠ 0) = true := by simp [hz]
  rw [hb]
  exact hK
/-- .. s none. -/
theorem wp_com_miss (hg : o.guard = none) (m x : Operand) (hop : o.op = Op.lookup 55 m x true) (b : Nat)
    (hm : a.eval m = .map (some b)) (hown : w.ownsMap Try.prog 9 readC b 13 comD) (s : List UInt8) (hx : a.eval x = .string (S s)) (hs : s.length ≤ 1000000000) (hz : It.kindOf s = 0)
    (hK : wpList Try.prog ops Q rest (a.put o.dst (.tuple #[.agg #[.int .i64 0, .int .i64 0], .bool false])) w) :
    wpList Try.prog ops Q (o :: rest) a w := by
  refine wpList_lookup_own_ok w hg m x _ hop 9 65 lawS Try.underlying55 readC (zeroC w) (dC 0 0) [] (readC_mk _ _) b 13 comD hm hown _ _ hx (key_S s (by unfold maxLen; omega)) fun v ps hv => ?_
  obtain ⟨h1, h2⟩ := com_at s
  rw [h2, if_pos hz] at hv
  obtain ⟨k, g, rfl, hy⟩ := readC_inv hv
  have he : dC 0 0 = dC k g := by injection hy
  simp only [dC, DataW.agg.injEq, List.cons.injEq, DataW.lit.injEq, Lit.int.injEq, true_and, and_true] at he
  obtain ⟨rfl, rfl⟩ := he
  rw [h1]
  have hb : decide (It.kindOf s ≠ 0) = false := by simp [hz]
  rw [hb]
  exact hK
end

theorem flatOf_one (s : List UInt8) : Mx.flatOf [(1, s)] = Mx.sqz s := by
  unfold Mx.flatOf
  congr 1
  simp [Mx.bare]

set_option maxHeartbeats 800000 in
/-- 'key'. -/
theorem key_any (s : List UInt8) (hs : s.length ≤ 1000000000) (w : World) :
    Calls Try.prog 36 #[.string (S s)] w fun e w' => e = .returned (.bool (It.key s)) ∧ Below w.heap.size w w' := by
  by_cases h0 : s = []
  · subst h0
    go_enter Try.func36, Try.ntmps36
    simp only [S_lit]
    go_wp2_with fail
    go_ret
    exact ⟨rfl, Below.refl _ _⟩
  · have hie : s.isEmpty = false := by cases s with | nil => exact absurd rfl h0 | cons _ _ => rfl
    by_cases h1 : 60 < s.length
    · have hd : decide ((s.length : Int) ≤ 60) = false := by simp; omega
      have hk : It.key s = false := by simp [It.key, It.noKey, h1]
      go_enter Try.func36, Try.ntmps36
      simp only [S_lit]
      go_wp2_with fail
      go_ret
      exact ⟨ret_bool hk.symm, Below.refl _ _⟩
    · have hd : (s.length : Int) ≤ 60 := by omega
      have hk : It.key s = (Mx.sqz s == s) := by simp [It.key, It.noKey, h0, h1]
      have hrt : Rt (w.alloc (.cells #[.int .i64 1, .string (S s)] 48)) (.slice (some ⟨w.heap.size, 0, none⟩) 1 1) [(1, s)] := rt_made w [(1, s)] _
      have hbw : Below w.heap.size w (w.alloc (.cells #[.int .i64 1, .string (S s)] 48)) := (Below.refl _ _).alloc (Nat.le_refl _) _
      go_enter Try.func36, Try.ntmps36
      simp only [S_lit]
      go_wp2_with fail
      (with_reducible refine (flat_any _ _ _ hrt (by simp) (fun t ht => by simp at ht; subst ht; simp; omega)).mono ?_); rintro e w1 ⟨rfl, b1⟩
      rw [flatOf_one]
      go_wp2_with fail
      go_ret
      exact ⟨ret_bool (by rw [hk]), hbw.trans (b1.mono hbw.size)⟩

end Go.Proofs.Ytcdclkgfgieppaa
