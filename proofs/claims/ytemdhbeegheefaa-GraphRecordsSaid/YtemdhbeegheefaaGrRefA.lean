
/- The reference's same, free, Reach, Cyclic, walked. No condition. -/
import Derived.Test.YtemdhbeegheefaaGrEdge
import Derived.Deep.QuietTactic
import Derived.BigQuiet
namespace Go.Proofs.Ytemdhbeegheefaa
open Go.RowKit Gr

/-- A truth value of a row. -/
theorem Rd.atB {w : World} {a : Option Addr} {n c : Nat} {l : List Bool} (h : Rd w 1 (.slice a n c) n (bls l)) {i : Nat} (hi : i < n) : ∃ b o, a = some ⟨b, o, none⟩ ∧ w.cell? ⟨b, o + i, none⟩ = some (.bool (l.getD i false)) := by
  have hl : l.length = n := by have := h.1; simpa using this
  rcases h.2 with ⟨_, h2⟩ | ⟨b, o, cap, hv, hlt, hc, _⟩
  · omega
  · cases hv
    exact ⟨b, o, rfl, hc _ _ (bls_at l i (by omega))⟩
theorem Ro.rdB {w : World} {b n : Nat} {l : List Bool} (h : Ro w b 4 (bls l)) (hl : l.length = n) : Rd w 1 (.slice (some ⟨b, 0, none⟩) n n) n (bls l) :=
  ⟨by simp [hl], .inr ⟨b, 0, n, rfl, fun _ => h.lt, fun j u hj => by rw [Nat.zero_add]; exact h.cell hj, Nat.le_refl _⟩⟩

/-- v reads as the ways of the first m nodes. -/
def Rw (w : World) (v : Value) (g : G) (m : Nat) : Prop := ∃ vs, Rd w 1 v m vs ∧ ∀ (i : Nat) (u : Value), vs[i]? = some u → Rd w 1 u g.length (bls (Gr.ways g i))
theorem Rw.shape {w : World} {v : Value} {g : G} {m : Nat} (h : Rw w v g m) : ∃ a c, v = .slice a m c := by
  obtain ⟨vs, h1, _⟩ := h
  exact h1.shape
theorem Rw.below' {w w' : World} {v : Value} {g : G} {m : Nat} (h : Rw w v g m) (hb : Below w.heap.size w w') : Rw w' v g m := by
  obtain ⟨vs, h1, h2⟩ := h
  exact ⟨vs, h1.below' hb, fun i u hu => (h2 i u hu).below' hb⟩
theorem Rw.at {w : World} {a : Option Addr} {m c : Nat} {g : G} (h : Rw w (.slice a m c) g m) {i : Nat} (hi : i < m) : ∃ b o u, a = some ⟨b, o, none⟩ ∧ w.cell? ⟨b, o + i, none⟩ = some u ∧ Rd w 1 u g.length (bls (Gr.ways g i)) := by
  obtain ⟨vs, h1, h2⟩ := h
  have hl : vs.length = m := by have := h1.1; omega
  rcases h1.2 with ⟨_, h0⟩ | ⟨b, o, cap, hv, hlt, hc, _⟩
  · omega
  · cases hv
    exact ⟨b, o, vs[i]'(by omega), rfl, hc _ _ (List.getElem?_eq_getElem (by omega)), h2 i _ (List.getElem?_eq_getElem (by omega))⟩

set_option maxRecDepth 20000 in
set_option maxHeartbeats 2000000 in
/-- 'same'. -/
theorem same_any (v : Value) (g : G) (i k : Nat) (w : World) (h : Rw w v g g.length) (hi : i < g.length) (hk : k < g.length) :
    Calls Try.prog 30 #[v, .int .i64 i, .int .i64 k] w fun e w' => e = .returned (.bool (Gr.same g i k)) ∧ w' = w := by
  obtain ⟨a, c, rfl⟩ := h.shape
  obtain ⟨b1, o1, u1, rfl, c1, r1⟩ := h.at hi
  obtain ⟨b2, o2, u2, e2, c2, r2⟩ := h.at hk
  injection e2 with e2
  injection e2 with e3 e4
  subst e3 e4
  obtain ⟨a1, k1, rfl⟩ := r1.shape
  obtain ⟨a2, k2, rfl⟩ := r2.shape
  obtain ⟨b3, o3, rfl, d1⟩ := r1.atB hk
  obtain ⟨b4, o4, rfl, d2⟩ := r2.atB hi
  have hii : (i : Int) < (g.length : Int) := by omega
  have hkk : (k : Int) < (g.length : Int) := by omega
  have HS : Hid (Gr.same g i k = (i == k || ((Gr.ways g i).getD k false && (Gr.ways g k).getD i false))) := Lib.hid rfl
  clear r1 r2 h
  go_enter Try.func30, Try.ntmps30
  by_cases hik : i = k
  · subst hik
    have hE : Hid (Gr.same g i i = true) := Lib.hid (by rw [HS.out]; simp)
    have hee : ((i : Int) == (i : Int)) = true := by simp
    go_wp2_with fail
    go_ret
    exact ⟨ret_bool hE.out.symm, rfl⟩
  · have hne : ((i : Int) == (k : Int)) = false := by simp; omega
    have hne2 : (i == k) = false := by simp [hik]
    have HS2 : Hid (Gr.same g i k = ((Gr.ways g i).getD k false && (Gr.ways g k).getD i false)) := Lib.hid (by rw [HS.out, hne2, Bool.false_or])
    clear hne2
    cases h1 : (Gr.ways g i).getD k false
    · rw [h1] at d1
      have hE : Hid (Gr.same g i k = false) := Lib.hid (by rw [HS2.out, h1]; rfl)
      clear h1
      go_wp2_with fail
      go_ret
      exact ⟨ret_bool hE.out.symm, rfl⟩
    · rw [h1] at d1
      have hE : Hid (Gr.same g i k = (Gr.ways g k).getD i false) := Lib.hid (by rw [HS2.out, h1]; rfl)
      clear h1
      obtain ⟨x, hx⟩ : ∃ x, x = (Gr.ways g k).getD i false := ⟨_, rfl⟩
      have HX := Lib.hid hx
      rw [← hx] at d2
      clear hx
      go_wp2_with fail
      go_ret
      exact ⟨ret_bool (by rw [hE.out, HX.out]), rfl⟩

set_option maxRecDepth 20000 in
set_option maxHeartbeats 4000000 in
/-- 'free'. -/
theorem free_any (vg vw vs : Value) (g : G) (st : List Bool) (i : Nat) (w : World) (hg : Rg w vg g) (hw : Rw w vw g g.length) (hs : Rd w 1 vs g.length (bls st)) (hi : i < g.length) (hn : g.length ≤ 1000) (hl : ∀ l ∈ g, l.length ≤ 1000) :
    Calls Try.prog 29 #[vg, vw, vs, .int .i64 i] w fun e w' => e = .returned (.bool (Gr.free g st i)) ∧ w' = w := by
  have HG := Lib.hid hg
  have HW := Lib.hid hw
  have HS := Lib.hid hs
  have HL := Lib.hid hl
  obtain ⟨ag, cg, rfl⟩ := hg.shape
  obtain ⟨aw, cw, rfl⟩ := hw.shape
  obtain ⟨ast, cst, rfl⟩ := hs.shape
  clear hg hw hs hl
  go_enter Try.func29, Try.ntmps29
  go_wp2_with fail
  go_loopg [9] (g.length - 0) (fun n v9 wr => ∃ k : Nat, v9 = .int .i64 k ∧ wr = w ∧ Hid (k ≤ g.length ∧ g.length - k = n) ∧ Hid (∀ x y, x < k → y < g.length → ¬ (Gr.same g i y = true ∧ Gr.same g i x = false ∧ st.getD x false = false ∧ E g x y)))
  case atStart => exact ⟨0, rfl, rfl, Lib.hid ⟨Nat.zero_le _, rfl⟩, Lib.hid fun x y hx => by omega⟩
  case round =>
    obtain ⟨k, rfl, rfl, HK, HN⟩ := hrel
    by_cases hk : k < g.length
    · have hkk : (k : Int) < (g.length : Int) := by omega
      go_wp2_with fail
      go_loopg [10] (g.length - 0) (fun n v10 wr2 => ∃ j : Nat, v10 = .int .i64 j ∧ wr2 = wr ∧ Hid (j ≤ g.length ∧ g.length - j = n) ∧ Hid (∀ y, y < j → ¬ (Gr.same g i y = true ∧ Gr.same g i k = false ∧ st.getD k false = false ∧ E g k y)))
      case atStart => exact ⟨0, rfl, rfl, Lib.hid ⟨Nat.zero_le _, rfl⟩, Lib.hid fun y hy => by omega⟩
      case round =>
        obtain ⟨j, rfl, rfl, HJ, HM⟩ := hrel
        by_cases hj : j < g.length
        · have hjj : (j : Int) < (g.length : Int) := by omega
          have S1 := same_any (.slice aw g.length cw) g i j wr HW.out hi hj
          have S2 := same_any (.slice aw g.length cw) g i k wr HW.out hi hk
          have S4 := edge_any (.slice ag g.length cg) g k j wr HG.out HL.out
          rw [edgeZ_nat] at S4
          obtain ⟨b3, o3, e3, d3⟩ := HS.out.atB hk
          subst e3
          cases h1 : Gr.same g i j
          · rw [h1] at S1
            have HS1 := Lib.hid S1
            have HNN : Hid (∀ y, y < j + 1 → ¬ (Gr.same g i y = true ∧ Gr.same g i k = false ∧ st.getD k false = false ∧ E g k y)) := Lib.hid fun y hy => by
              rcases Nat.lt_or_eq_of_le (Nat.le_of_lt_succ hy) with h | h
              · exact HM.out y h
              · rw [h, h1]; rintro ⟨h, _⟩; cases h
            clear h1 S1 S2 S4
            go_wp2_with fail
            (with_reducible refine HS1.out.mono ?_); rintro e w2 ⟨rfl, rfl⟩
            go_wp2_with fail
            go_roundg (g.length - (j + 1))
            case measure => have := HJ.out.2; omega
            case rel => exact ⟨j + 1, by simp, rfl, Lib.hid ⟨hj, rfl⟩, HNN⟩
          · rw [h1] at S1
            have HS1 := Lib.hid S1
            have H1 := Lib.hid h1
            clear h1 S1
            cases h2 : Gr.same g i k
            · rw [h2] at S2
              have HS2 := Lib.hid S2
              have H2 := Lib.hid h2
              clear h2 S2
              cases h3 : st.getD k false
              · rw [h3] at d3
                have H3 := Lib.hid h3
                clear h3
                cases h4 : edge g k j
                · rw [h4] at S4
                  have HS4 := Lib.hid S4
                  have HNN : Hid (∀ y, y < j + 1 → ¬ (Gr.same g i y = true ∧ Gr.same g i k = false ∧ st.getD k false = false ∧ E g k y)) := Lib.hid fun y hy => by
                    rcases Nat.lt_or_eq_of_le (Nat.le_of_lt_succ hy) with h | h
                    · exact HM.out y h
                    · rw [h]; rintro ⟨_, _, _, h⟩; rw [edge_iff.2 h] at h4; cases h4
                  clear h4 S4
                  go_wp2_with fail
                  (with_reducible refine HS1.out.mono ?_); rintro e w2 ⟨rfl, rfl⟩
                  go_wp2_with fail
                  (with_reducible refine HS2.out.mono ?_); rintro e w2 ⟨rfl, rfl⟩
                  go_wp2_with fail
                  (with_reducible refine HS4.out.mono ?_); rintro e w2 ⟨rfl, rfl⟩
                  go_wp2_with fail
                  go_roundg (g.length - (j + 1))
                  case measure => have := HJ.out.2; omega
                  case rel => exact ⟨j + 1, by simp, rfl, Lib.hid ⟨hj, rfl⟩, HNN⟩
                · rw [h4] at S4
                  have HS4 := Lib.hid S4
                  have hF : Hid (Gr.free g st i = false) := Lib.hid (by
                    rw [← Bool.not_eq_true, free_iff]
                    exact fun h => h k j H1.out H2.out H3.out (edge_iff.1 h4))
                  clear h4 S4
                  go_wp2_with fail
                  (with_reducible refine HS1.out.mono ?_); rintro e w2 ⟨rfl, rfl⟩
                  go_wp2_with fail
                  (with_reducible refine HS2.out.mono ?_); rintro e w2 ⟨rfl, rfl⟩
                  go_wp2_with fail
                  (with_reducible refine HS4.out.mono ?_); rintro e w2 ⟨rfl, rfl⟩
                  go_wp2_with fail
                  go_ret
                  exact ⟨ret_bool hF.out.symm, rfl⟩
              · rw [h3] at d3
                have HNN : Hid (∀ y, y < j + 1 → ¬ (Gr.same g i y = true ∧ Gr.same g i k = false ∧ st.getD k false = false ∧ E g k y)) := Lib.hid fun y hy => by
                  rcases Nat.lt_or_eq_of_le (Nat.le_of_lt_succ hy) with h | h
                  · exact HM.out y h
                  · rw [h3]; rintro ⟨_, _, h, _⟩; cases h
                clear h3 S4
                go_wp2_with fail
                (with_reducible refine HS1.out.mono ?_); rintro e w2 ⟨rfl, rfl⟩
                go_wp2_with fail
                (with_reducible refine HS2.out.mono ?_); rintro e w2 ⟨rfl, rfl⟩
                go_wp2_with fail
                go_roundg (g.length - (j + 1))
                case measure => have := HJ.out.2; omega
                case rel => exact ⟨j + 1, by simp, rfl, Lib.hid ⟨hj, rfl⟩, HNN⟩
            · rw [h2] at S2
              have HS2 := Lib.hid S2
              have HNN : Hid (∀ y, y < j + 1 → ¬ (Gr.same g i y = true ∧ Gr.same g i k = false ∧ st.getD k false = false ∧ E g k y)) := Lib.hid fun y hy => by
                rcases Nat.lt_or_eq_of_le (Nat.le_of_lt_succ hy) with h | h
                · exact HM.out y h
                · rw [h2]; rintro ⟨_, h, _⟩; cases h
              clear h2 S2 S4
              go_wp2_with fail
              (with_reducible refine HS1.out.mono ?_); rintro e w2 ⟨rfl, rfl⟩
              go_wp2_with fail
              (with_reducible refine HS2.out.mono ?_); rintro e w2 ⟨rfl, rfl⟩
              go_wp2_with fail
              go_roundg (g.length - (j + 1))
              case measure => have := HJ.out.2; omega
              case rel => exact ⟨j + 1, by simp, rfl, Lib.hid ⟨hj, rfl⟩, HNN⟩
        · obtain rfl : j = g.length := by have := HJ.out.1; omega
          go_wp2_with fail
          go_roundg (g.length - (k + 1))
          case measure => have := HK.out.2; omega
          case rel => exact ⟨k + 1, by simp, rfl, Lib.hid ⟨hk, rfl⟩, Lib.hid fun x y hx hy => by
            rcases Nat.lt_or_eq_of_le (Nat.le_of_lt_succ hx) with h | h
            · exact HN.out x y h hy
            · rw [h]; exact HM.out y hy⟩
    · obtain rfl : k = g.length := by have := HK.out.1; omega
      have hF : Hid (Gr.free g st i = true) := Lib.hid (free_iff.2 fun x y h1 h2 h3 h4 => HN.out x y h4.1 h4.2.1 ⟨h1, h2, h3, h4⟩)
      go_wp2_with fail
      go_ret
      exact ⟨ret_bool hF.out.symm, rfl⟩
end Go.Proofs.Ytemdhbeegheefaa
