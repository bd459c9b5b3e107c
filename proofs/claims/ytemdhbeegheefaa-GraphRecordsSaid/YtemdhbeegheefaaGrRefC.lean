
/- The reference's Groups, walked. No condition. -/
import Derived.Test.YtemdhbeegheefaaGrRefB
import Derived.Test.YtemdhbeegheefaaGrRows
import Derived.BigRegion
namespace Go.Proofs.Ytemdhbeegheefaa
open Go.RowKit Gr

/-- The ways of the first m nodes, in rows of their own. -/
structure Wk (w : World) (B0 lo : Nat) (v : Value) (g : G) (bs : List Nat) : Prop where
  row : w.ownsRow B0 45 1 v bs.length (bs.map fun b => .slice (some ⟨b, 0, none⟩) g.length g.length)
  each : ∀ (i b : Nat), bs[i]? = some b → Ro w b 4 (bls (Gr.ways g i)) ∧ lo ≤ b
theorem Wk.kw {w w' : World} {p : Nat → Prop} {B0 lo : Nat} {v : Value} {g : G} {bs : List Nat} (h : Wk w B0 lo v g bs) (hk : Kw w w' p) (hv : ∀ b, v.ownBlock = some b → ¬ p b) (hb : ∀ b, lo ≤ b → b < w.heap.size → ¬ p b) : Wk w' B0 lo v g bs :=
  ⟨hk.row h.row hv, fun i b hi => ⟨(h.each i b hi).1.kw hk (hb b (h.each i b hi).2 (h.each i b hi).1.lt), (h.each i b hi).2⟩⟩
theorem Wk.rw {w : World} {B0 lo : Nat} {v : Value} {g : G} {bs : List Nat} (h : Wk w B0 lo v g bs) : Rw w v g bs.length :=
  ⟨_, own_rd h.row, fun i u hu => by
    rw [List.getElem?_map] at hu
    cases hb : bs[i]? with
    | none => rw [hb] at hu; cases hu
    | some b =>
      rw [hb] at hu
      injection hu with hu
      rw [← hu]
      exact (h.each i b hb).1.rdB (ways_length g i)⟩
/-- Groups that are out, in rows of their own. -/
structure Gl (w : World) (B0 : Nat) (v : Value) (us : List Value) (outs : List (List Nat)) : Prop where
  len : us.length = outs.length
  row : w.ownsRow B0 23 1 v outs.length us
  each : ∀ (i : Nat) (u : Value) (l : List Nat), us[i]? = some u → outs[i]? = some l → w.ownsRow B0 3 1 u l.length (ints (nn l))
theorem Gl.lt {w : World} {B0 : Nat} {v : Value} {us : List Value} {outs : List (List Nat)} (h : Gl w B0 v us outs) {i : Nat} {u : Value} (hu : us[i]? = some u) : ∀ b, u.ownBlock = some b → b < w.heap.size := fun b hb => by
  have hl : i < outs.length := by rw [← h.len]; exact (List.getElem?_eq_some_iff.1 hu).1
  exact ((h.each i u _ hu (List.getElem?_eq_getElem hl)).lt b hb).2
theorem Gl.kw {w w' : World} {p : Nat → Prop} {B0 : Nat} {v : Value} {us : List Value} {outs : List (List Nat)} (h : Gl w B0 v us outs) (hk : Kw w w' p) (hv : ∀ b, v.ownBlock = some b → ¬ p b) (hu : ∀ (i : Nat) (u : Value), us[i]? = some u → ∀ b, u.ownBlock = some b → ¬ p b) : Gl w' B0 v us outs :=
  ⟨h.len, hk.row h.row hv, fun i u l h1 h2 => hk.row (h.each i u l h1 h2) (hu i u h1)⟩
/-- What stands, and new blocks, turn: the groups stay. -/
theorem Gl.turn {w w' : World} {B0 b4 : Nat} {v : Value} {us : List Value} {outs : List (List Nat)} {cs : List Value} (h : Gl w B0 v us outs) (hr : Ro w b4 4 cs) (hk : Kw w w' (fun j => j = b4 ∨ w.heap.size ≤ j)) : Gl w' B0 v us outs := by
  refine h.kw hk (fun b hb => ?_) fun i u hu b hb => ?_
  · rintro (e | e)
    · exact hr.ne_own (by decide) h.row (e ▸ hb)
    · have := (h.row.lt b hb).2; omega
  · have hl : i < outs.length := by rw [← h.len]; exact (List.getElem?_eq_some_iff.1 hu).1
    rintro (e | e)
    · exact hr.ne_own (by decide) (h.each i u _ hu (List.getElem?_eq_getElem hl)) (e ▸ hb)
    · have := h.lt hu b hb; omega
/-- One more. -/
theorem Gl.more {w w' : World} {B0 : Nat} {v v' u : Value} {us : List Value} {outs : List (List Nat)} {l : List Nat} (h : Gl w B0 v us outs) (hl : w.ownsRow B0 3 1 u l.length (ints (nn l))) (hg : Kw w w' (fun j => v.ownBlock = some j)) (ho : w'.ownsRow B0 23 1 v' (outs.length + 1) (us ++ [u])) : Gl w' B0 v' (us ++ [u]) (outs ++ [l]) := by
  refine ⟨by simp [h.len], by simpa using ho, fun i u' l' h1 h2 => ?_⟩
  by_cases hi : i < us.length
  · rw [List.getElem?_append_left hi] at h1
    rw [List.getElem?_append_left (by rw [← h.len]; exact hi)] at h2
    exact hg.row (h.each i u' l' h1 h2) fun b hb => own_apart2 (h.each i u' l' h1 h2) h.row (by decide) b hb
  · rw [List.getElem?_append_right (by omega)] at h1
    rw [List.getElem?_append_right (by rw [← h.len]; omega)] at h2
    have e1 : i - us.length = 0 := by
      have := (List.getElem?_eq_some_iff.1 h1).1
      simpa using this
    have e2 : i - outs.length = 0 := by rw [← h.len]; exact e1
    rw [e1] at h1
    rw [e2] at h2
    simp at h1 h2
    subst h1 h2
    exact hg.row hl fun b hb => own_apart2 hl h.row (by decide) b hb
theorem Gl.rg {w : World} {B0 : Nat} {v : Value} {us : List Value} {outs : List (List Nat)} (h : Gl w B0 v us outs) : Rg w v (outs.map nn) :=
  ⟨us, by simpa using own_rd h.row, fun i u l h1 h2 => by
    rw [List.getElem?_map] at h2
    cases hl : outs[i]? with
    | none => rw [hl] at h2; cases h2
    | some l0 =>
      rw [hl] at h2
      injection h2 with h2
      rw [← h2]
      exact ri_own (by simpa using h.each i u l0 h1 hl)⟩

/-- Three blocks. -/
theorem three (w : World) (a0 a1 a2 : Obj) : ∃ W, W = (((w.alloc a0).alloc a1).alloc a2).drew ∧ W.heap[w.heap.size]? = some a0 ∧ W.heap[w.heap.size + 1]? = some a1 ∧ W.heap[w.heap.size + 1 + 1]? = some a2 ∧ W.heap.size = w.heap.size + 3 ∧ Kw w W (fun _ => False) := by
  refine ⟨_, rfl, ?_, ?_, ?_, ?_, ?_⟩
  · exact alloc_lt _ _ _ (by simp only [alloc_size]; omega) (alloc_lt _ _ _ (by simp only [alloc_size]; omega) (alloc_at _ _ _ rfl))
  · exact alloc_lt _ _ _ (by simp only [alloc_size]; omega) (alloc_at _ _ _ (by simp))
  · exact alloc_at _ _ _ (by simp)
  · show (((w.alloc a0).alloc a1).alloc a2).heap.size = _
    simp
  · exact (((Kw.alloc w a0 (fun _ => False)).trans (Kw.alloc _ a1 (fun _ => False)) fun _ _ => id).trans (Kw.alloc _ a2 (fun _ => False)) fun _ _ => id).trans (Kw.drewN _ 1 (fun _ => False)) fun _ _ => id
theorem own_none {w : World} {B e k b : Nat} (h : w.heap[b]? = some (.cells #[] e (0, 0))) (hb : B ≤ b) : w.ownsRow B e k (.slice (some ⟨b, 0, none⟩) 0 0) 0 [] :=
  ⟨by simp, .inr ⟨b, 0, #[], rfl, hb, h, Nat.le_refl _, by decide, by simp, by simp⟩⟩

namespace Gr
/-- What is known of the next group's node, once the nodes from m on are looked at. -/
def Nx (g : G) (st : List Bool) (m : Nat) (nx : Int) : Prop :=
  (nx = -1 ∧ ∀ y, m ≤ y → y < g.length → ¬ (st.getD y false = false ∧ free g st y = true)) ∨
  ∃ x : Nat, nx = (x : Int) ∧ m ≤ x ∧ x < g.length ∧ (st.getD x false = false ∧ free g st x = true) ∧ ∀ y, m ≤ y → y < x → ¬ (st.getD y false = false ∧ free g st y = true)
theorem Nx.start (g : G) (st : List Bool) : Nx g st g.length (-1) := .inl ⟨rfl, fun y h1 h2 => by omega⟩
theorem Nx.no {g : G} {st : List Bool} {m : Nat} {nx : Int} (h : Nx g st (m + 1) nx) (hc : ¬ (st.getD m false = false ∧ free g st m = true)) : Nx g st m nx := by
  rcases h with ⟨h1, h2⟩ | ⟨x, h1, h2, h3, h4, h5⟩
  · refine .inl ⟨h1, fun y hy => ?_⟩
    rcases Nat.lt_or_eq_of_le hy with h | h
    · exact h2 y h
    · intro _; rw [← h]; exact hc
  · refine .inr ⟨x, h1, by omega, h3, h4, fun y hy => ?_⟩
    rcases Nat.lt_or_eq_of_le hy with h | h
    · exact h5 y h
    · intro _; rw [← h]; exact hc
theorem Nx.yes {g : G} {st : List Bool} {m : Nat} (hm : m < g.length) (hc : st.getD m false = false ∧ free g st m = true) : Nx g st m (m : Int) :=
  .inr ⟨m, rfl, Nat.le_refl _, hm, hc, fun y h1 h2 => by omega⟩
theorem Nx.fin {g : G} {st : List Bool} {nx : Int} (h : Nx g st 0 nx) : (nx = -1 ∧ nextB g st = none) ∨ ∃ x : Nat, nx = (x : Int) ∧ x < g.length ∧ nextB g st = some x := by
  rcases h with ⟨h1, h2⟩ | ⟨x, h1, _, h3, h4, h5⟩
  · refine .inl ⟨h1, nextB_none fun i hi hs => ?_⟩
    have := h2 i (Nat.zero_le _) hi
    cases hf : free g st i
    · rfl
    · exact absurd ⟨hs, hf⟩ this
  · exact .inr ⟨x, h1, h3, nextB_some h3 h4.1 h4.2 fun j hj => h5 j (Nat.zero_le _) hj⟩
end Gr

set_option maxRecDepth 20000 in
set_option maxHeartbeats 8000000 in
/-- 'Groups' of the reference. -/
theorem rgroups_any (vg : Value) (g : G) (w : World) (hg : Rg w vg g) (hn : g.length ≤ 1000) (hl : ∀ l ∈ g, l.length ≤ 1000) :
    Calls Try.prog 11 #[vg] w fun e w' => ∃ v, e = .returned v ∧ Rg w' v ((groups g).map nn) ∧ Below w.heap.size w w' := by
  have HG := Lib.hid hg
  have HL := Lib.hid hl
  obtain ⟨ag, cg, rfl⟩ := hg.shape
  clear hg hl
  have hmb := mkBools g.length (by omega)
  go_enter Try.func11, Try.ntmps11
  go_upto_region 1 with fail
  go_cut [3, 4, 5] (fun s3 s4 s5 w' => ∃ b3 b4 b5 : Nat, s3 = .slice (some ⟨b3, 0, none⟩) 0 0 ∧ s4 = .slice (some ⟨b4, 0, none⟩) g.length g.length ∧ s5 = .slice (some ⟨b5, 0, none⟩) 0 0 ∧ Hid (w'.ownsRow w.heap.size 45 1 (.slice (some ⟨b3, 0, none⟩) 0 0) 0 []) ∧ Hid (Ro w' b4 4 (bls (List.replicate g.length false))) ∧ Hid (w'.ownsRow w.heap.size 23 1 (.slice (some ⟨b5, 0, none⟩) 0 0) 0 []) ∧ Hid (w.heap.size ≤ b4) ∧ Hid (Kw w w' (fun _ => False)))
  case first =>
    --BEGIN 1
    go_region
    all_goals (
      go_wp2_with fail
      go_meet
      obtain ⟨W, hW, q0, q1, q2, q3, q4⟩ := three w _ _ _
      rw [← hW]
      clear hW
      exact ⟨_, _, _, rfl, rfl, rfl, Lib.hid (own_none (by first | exact q0 | exact q1 | exact q2) (by omega)), Lib.hid (Ro.falses (by first | exact q0 | exact q1 | exact q2)), Lib.hid (own_none (by first | exact q0 | exact q1 | exact q2) (by omega)), Lib.hid (by omega), Lib.hid q4⟩)
    --END 1
  case rest =>
    obtain ⟨b3, b4, b5, rfl, rfl, rfl, HO3, HB4, HO5, HLO, HK1⟩ := hcut
    rename World => w1
    have HBW := Lib.hid (HK1.out.below (B := w.heap.size) (fun _ h => h.elim) (Nat.le_refl _))
    clear HK1 hmb
    go_upto_block 0 with fail
    go_cut [3] (fun v3 w' => ∃ (bs : List Nat) (vw : Value), vw = v3 ∧ Hid (bs.length = g.length) ∧ Hid (Wk w' w.heap.size w1.heap.size vw g bs) ∧ Hid (Kw w1 w' (fun j => j = b3 ∨ w1.heap.size ≤ j)) ∧ Hid (b3 ≠ b4 ∧ b3 ≠ b5))
    case first =>
      --BEGIN 2
      have tyBB : SlTy Try.prog 58 45 1 24 := SlTy.mk' (z := .slice none 0 0) Try.underlying58 (by kernel_rfl) rfl (by decide)
      have HNE : Hid (b3 ≠ b4 ∧ b3 ≠ b5) := Lib.hid ⟨fun e => HB4.out.ne_own (by decide) HO3.out (by rw [← e]; rfl), fun e => own_apart2 HO3.out HO5.out (by decide) b3 rfl (by rw [e]; rfl)⟩
      go_wp2_with fail
      go_loopg [3, 6] (g.length - 0) (fun n v3 v6 wr => ∃ (k : Nat) (bs : List Nat) (v : Value), v = v3 ∧ v6 = .int .i64 k ∧ Hid (bs.length = k) ∧ Hid (k ≤ g.length ∧ g.length - k = n) ∧ Hid (Wk wr w.heap.size w1.heap.size v g bs) ∧ Hid (∀ b, v.ownBlock = some b → b = b3 ∨ w1.heap.size ≤ b) ∧ Hid (Kw w1 wr (fun j => j = b3 ∨ w1.heap.size ≤ j)))
      case atStart => exact ⟨0, [], _, rfl, rfl, Lib.hid rfl, Lib.hid ⟨Nat.zero_le _, rfl⟩, Lib.hid ⟨HO3.out, fun i b h => by simp at h⟩, Lib.hid fun b hb => .inl (by injection hb with hb; exact hb.symm), Lib.hid (Kw.refl _ _)⟩
      case round =>
        obtain ⟨k, bs, v, rfl, rfl, HBL, HI, HWK, HV, HK⟩ := hrel
        by_cases hk : k < g.length
        · have hkk : (k : Int) < (g.length : Int) := by omega
          have HBr := Lib.hid (HBW.out.trans (HK.out.below (by have := HBW.out.size; have := (HO3.out.lt b3 rfl).1; rintro j (e | e) <;> omega) HBW.out.size))
          have HW := Lib.hid (ways_any (.slice ag g.length cg) g k wr (HG.out.below' HBr.out) hn HL.out)
          rw [waysZ_nat] at HW
          obtain ⟨av, cv, rfl⟩ := own_shape HWK.out.row
          have hbl : bs.length ≤ 1000 := by have := HBL.out; omega
          go_wp2_with fail
          (with_reducible refine HW.out.mono ?_); rintro e w2 ⟨rfl, r2, b2⟩
          have hk2 := Kw.of_below b2
          have HW2 := Lib.hid (HWK.out.kw hk2 (fun b hb e => by have := (HWK.out.row.lt b hb).2; omega) fun b _ hb e => by omega)
          have HR2 := Lib.hid r2
          have HK2 := Lib.hid (HK.out.trans hk2 fun j hj e => Or.inr (by have := HK.out.size; omega))
          have hown := HW2.out.row
          have hs2 : w.heap.size ≤ w2.heap.size := by have := HBr.out.size; have := b2.size; omega
          have hsr : w1.heap.size ≤ wr.heap.size := HK.out.size
          clear r2 b2 hk2 HWK HK
          go_wp2_with (first
            | (at_builtin; refine wp_app2 (news := [.slice (some ⟨wr.heap.size, 0, none⟩) g.length g.length]) tyBB rfl _ _ rfl w.heap.size hown rfl rfl rfl rfl (by intro u hu; simp at hu; rw [hu]; rfl) (by omega) (by omega) hs2 ?_; intro v5 w5 o5 c5 q5 n5; have k5 := Kw.of_grown q5; have HW5 : Hid (Wk w5 w.heap.size w1.heap.size v5 g (bs ++ [wr.heap.size])) := Lib.hid ⟨by rw [List.map_append, List.length_append]; exact o5, fun i b hi => by (by_cases h : i < bs.length); (· rw [List.getElem?_append_left h] at hi; exact ⟨(HW2.out.each i b hi).1.kw k5 ((HW2.out.each i b hi).1.ne_own (by decide) hown), (HW2.out.each i b hi).2⟩); (· have hi2 := hi; rw [List.getElem?_append_right (by omega)] at hi; have hz : i - bs.length = 0 := (by have := (List.getElem?_eq_some_iff.1 hi).1; simpa using this); rw [hz] at hi; simp at hi; subst hi; have e9 : i = k := (by have := HBL.out; omega); rw [e9]; exact ⟨HR2.out.kw k5 (HR2.out.ne_own (by decide) hown), hsr⟩)⟩; have HK5 := Lib.hid (HK2.out.trans k5 fun j _ e => HV.out j e); have HN5 := Lib.hid n5; clear o5 c5 q5 n5 k5)
            | fail)
          go_roundg (g.length - (k + 1))
          case measure => have := HI.out.2; omega
          case rel => exact ⟨k + 1, bs ++ [wr.heap.size], _, rfl, by simp, Lib.hid (by have := HBL.out; simp; omega), Lib.hid ⟨hk, rfl⟩, HW5, Lib.hid (by
            intro b hb
            rcases HN5.out with h | ⟨g2, h, hle⟩
            · exact HV.out b (h ▸ hb)
            · rw [h] at hb; injection hb with hb; have := HK2.out.size; right; omega), HK5⟩
        · obtain rfl : k = g.length := by have := HI.out.1; omega
          go_wp2_with fail
          go_meet
          exact ⟨bs, _, rfl, HBL, HWK, HK, HNE⟩
      --END 2
    case rest =>
      obtain ⟨bs, vw, rfl, HBL, HWK, HK2, HNE⟩ := hcut
      rename World => w2
      have HS1 : Hid (b3 < w1.heap.size ∧ b4 < w1.heap.size ∧ b5 < w1.heap.size ∧ w.heap.size ≤ b5) := Lib.hid ⟨(HO3.out.lt b3 rfl).2, HB4.out.lt, (HO5.out.lt b5 rfl).2, (HO5.out.lt b5 rfl).1⟩
      have HB4a := Lib.hid (HB4.out.kw HK2.out (by have := HNE.out; have := HS1.out; omega))
      have HO5a := Lib.hid (HK2.out.row HO5.out fun b hb e => by injection hb with hb; have := HNE.out; have := HS1.out; simp only at hb; omega)
      have HBW2 := Lib.hid (HBW.out.trans (HK2.out.below (by have := HBW.out.size; have := (HO3.out.lt b3 rfl).1; rintro j (e | e) <;> omega) HBW.out.size))
      have hs12 : w1.heap.size ≤ w2.heap.size := HK2.out.size
      have HST : Hid (∀ b, vw.ownBlock = some b → b ≠ b4 ∧ b ≠ b5) := Lib.hid fun b hb => ⟨fun e => HB4a.out.ne_own (by decide) HWK.out.row (e ▸ hb), fun e => own_apart2 HWK.out.row HO5a.out (by decide) b hb (by rw [e]; rfl)⟩
      have HGL0 : Hid (Gl w2 w.heap.size (.slice (some ⟨b5, 0, none⟩) 0 0) [] []) := Lib.hid ⟨rfl, HO5a.out, fun i u l h1 h2 => by simp at h1⟩
      have HBL0 : Hid (Ro w2 b4 4 (bls (tab g.length fun _ => false))) := Lib.hid (by rw [show (tab g.length fun _ => false) = List.replicate g.length false by unfold tab; simp [List.map_const']]; exact HB4a.out)
      have HWK2 : Hid (∀ W, Kw w2 W (fun j => j = b4 ∨ j = b5 ∨ w2.heap.size ≤ j) → Rw W vw g g.length) := Lib.hid fun W hk => by
        have h9 := (HWK.out.kw hk (fun b hb e => by have h1 := HST.out b hb; have h2 := (HWK.out.row.lt b hb).2; omega) fun b h1 h2 e => by have := HS1.out; omega).rw
        rw [HBL.out] at h9
        exact h9
      clear HO3 HB4 HO5 HWK HK2 HB4a HO5a HBW HBL HNE HST
      --BEGIN 3
      have tyGrid : SlTy Try.prog 22 23 1 24 := SlTy.mk' (z := .slice none 0 0) Try.underlying22 (by kernel_rfl) rfl (by decide)
      go_wp2_with fail
      go_loopg [5, 7] (g.length - 0) (fun n v5 v7 wr => ∃ (t : Nat) (vo : Value) (us : List Value) (outs : List (List Nat)) (st : List Bool), vo = v5 ∧ v7 = .int .i64 t ∧ Hid (t ≤ g.length ∧ g.length - t = n) ∧ Hid (st.length = g.length) ∧ Hid (Ro wr b4 4 (bls st)) ∧ Hid (Gl wr w.heap.size vo us outs) ∧ Hid (outs ++ Gr.rest g (g.length - t) st = groups g) ∧ Hid (outs.length ≤ t) ∧ Hid (∀ b, vo.ownBlock = some b → b = b5 ∨ w2.heap.size ≤ b) ∧ Hid (Kw w2 wr (fun j => j = b4 ∨ j = b5 ∨ w2.heap.size ≤ j)))
      case atStart => exact ⟨0, _, [], [], tab g.length fun _ => false, rfl, rfl, Lib.hid ⟨Nat.zero_le _, rfl⟩, Lib.hid (tab_length _ _), HBL0, HGL0, Lib.hid rfl, Lib.hid (Nat.le_refl _), Lib.hid fun b hb => .inl (by injection hb with hb; exact hb.symm), Lib.hid (Kw.refl _ _)⟩
      case round =>
        clear HGL0 HBL0
        obtain ⟨t, vo, us, outs, st, rfl, rfl, HT, HSL, HAH, HGL, HRS, HOL, HVO, HK⟩ := hrel
        rename World => wt
        by_cases ht : t < g.length
        · have htt : (t : Int) < (g.length : Int) := by omega
          have HBr := Lib.hid (HBW2.out.trans (HK.out.below (by have := HS1.out; have := HLO.out; have := HBW2.out.size; rintro j (e | e | e) <;> omega) HBW2.out.size))
          have HRW := Lib.hid (HWK2.out wt HK.out)
          have hn1 : (0 : Int) ≤ (g.length : Int) - 1 := by omega
          go_wp2_with fail
          go_loopg [8, 9] g.length (fun n v8 v9 wr3 => ∃ (m : Nat) (nx : Int), v8 = .int .i64 nx ∧ v9 = .int .i64 ((m : Int) - 1) ∧ wt = wr3 ∧ Hid (m ≤ g.length ∧ m = n) ∧ Hid (Nx g st m nx))
          case atStart => exact ⟨g.length, -1, rfl, rfl, rfl, Lib.hid ⟨Nat.le_refl _, rfl⟩, Lib.hid (Nx.start g st)⟩
          case round =>
            obtain ⟨m, nx, rfl, rfl, rfl, HM, HNX⟩ := hrel
            rcases m with _ | m
            · have hm0 : ¬ ((0 : Nat) : Int) - 1 ≥ 0 := by omega
              have hm1 : decide (((0 : Nat) : Int) - 1 ≥ 0) = false := by decide
              rcases HNX.out.fin with ⟨hx, hnb⟩ | ⟨x, hx, hxg, hnb⟩
              · subst hx
                have HNB := Lib.hid hnb
                clear hnb
                go_wp2_with fail
                go_loopg [10, 11] 0 (fun n v10 v11 wr4 => v10 = .slice (some ⟨wt.heap.size, 0, none⟩) 0 0 ∧ v11 = .int .i64 0 ∧ Hid (Kw wt wr4 (fun _ => False)))
                case atStart => exact ⟨rfl, rfl, Lib.hid (Kw.alloc _ _ _)⟩
                case round =>
                  obtain ⟨rfl, rfl, HK4⟩ := hrel
                  have hg0 : (0 : Int) < (g.length : Int) := by omega
                  go_wp2_with fail
                  go_roundg (g.length - (t + 1))
                  case measure => have := HT.out.2; omega
                  case rel => exact ⟨t + 1, _, us, outs, st, rfl, by simp, Lib.hid ⟨ht, rfl⟩, HSL, Lib.hid (HAH.out.kw HK4.out id), Lib.hid (HGL.out.turn HAH.out (HK4.out.mono fun _ h => h.elim)), Lib.hid (by have h9 := HRS.out; rw [rest_none HNB.out] at h9; rw [rest_none HNB.out]; exact h9), Lib.hid (by have := HOL.out; omega), HVO, Lib.hid (HK.out.trans HK4.out fun _ _ h => h.elim)⟩
              · subst hx
                have HNB := Lib.hid hnb
                have hx0 : (0 : Int) ≤ (x : Int) := by omega
                clear hnb
                go_wp2_with fail
                go_loopg [10, 11] (g.length - 0) (fun n v10 v11 wr4 => ∃ (k : Nat) (v : Value), v = v10 ∧ v11 = .int .i64 k ∧ Hid (k ≤ g.length ∧ g.length - k = n) ∧ Hid (wr4.ownsRow w.heap.size 3 1 v (Gr.upTo (Gr.same g x) k).length (ints (nn (Gr.upTo (Gr.same g x) k)))) ∧ Hid (∀ b, v.ownBlock = some b → wt.heap.size ≤ b) ∧ Hid (Ro wr4 b4 4 (bls (stoodK g st x k))) ∧ Hid (Kw wt wr4 (fun j => j = b4 ∨ wt.heap.size ≤ j)))
                case atStart => exact ⟨0, _, rfl, rfl, Lib.hid ⟨Nat.zero_le _, rfl⟩, Lib.hid (World.ownsRow_made wt #[] 0 HBr.out.size (by decide) rfl), Lib.hid fun b hb => by injection hb with hb; exact Nat.le_of_eq hb, Lib.hid (by rw [stoodK_zero g st x HSL.out]; exact HAH.out.kw (Kw.alloc wt _ (fun _ => False)) id), Lib.hid (Kw.alloc _ _ _)⟩
                case round =>
                  obtain ⟨k, v, rfl, rfl, HI, HO, HV, HA4, HK4⟩ := hrel
                  have hul := Gr.upTo_len (Gr.same g x) k
                  obtain ⟨av, cv, hvs⟩ := own_shape HO.out
                  subst hvs
                  rename World => w4
                  have hs4 : w.heap.size ≤ w4.heap.size := by have := HBr.out.size; have := HK4.out.size; omega
                  by_cases hk : k < g.length
                  · have hkk : (k : Int) < (g.length : Int) := by omega
                    have HSM := Lib.hid (same_any vw g x k w4 (HWK2.out w4 (HK.out.trans HK4.out fun j hj e => by rcases e with e | e; exact .inl e; exact .inr (.inr (by have := HK.out.size; omega)))) hxg hk)
                    cases hb : Gr.same g x k
                    · rw [hb] at HSM
                      have HNO := Lib.hid hb
                      clear hb
                      go_wp2_with fail
                      (with_reducible refine HSM.out.mono ?_); rintro e w5 ⟨rfl, rfl⟩
                      go_wp2_with fail
                      go_roundg (g.length - (k + 1))
                      case measure => have := HI.out.2; omega
                      case rel => exact ⟨k + 1, _, rfl, by simp, Lib.hid ⟨hk, rfl⟩, Lib.hid (by rw [Gr.upTo_no HNO.out]; exact HO.out), HV, Lib.hid (by rw [← stoodK_no g st x k HNO.out]; exact HA4.out), HK4⟩
                    · rw [hb] at HSM
                      have HYES := Lib.hid hb
                      clear hb
                      have hown := HO.out
                      have hul2 : (Gr.upTo (Gr.same g x) k).length ≤ 1000 := by omega
                      go_wp2_with fail
                      (with_reducible refine HSM.out.mono ?_); rintro e w5 ⟨rfl, rfl⟩
                      go_wp2_with (first
                        | (at_builtin; refine wp_app2 tyInts rfl _ _ rfl w.heap.size hown rfl rfl rfl rfl (by intro u hu; simp at hu; rw [hu]; rfl) (by omega) (by omega) hs4 ?_; intro v6 w6 o6 d6 q6 n6; have k6 := Kw.of_grown q6; have HO6 : Hid (w6.ownsRow w.heap.size 3 1 v6 (Gr.upTo (Gr.same g x) (k + 1)).length (ints (nn (Gr.upTo (Gr.same g x) (k + 1))))) := Lib.hid (by rw [Gr.upTo_yes HYES.out, List.length_append, show nn (Gr.upTo (Gr.same g x) k ++ [k]) = nn (Gr.upTo (Gr.same g x) k) ++ [(k : Int)] by simp, ints_snoc]; exact o6); have HK6 := Lib.hid (HK4.out.trans k6 fun j _ e => Or.inr (HV.out j e)); have HN6 := Lib.hid n6; have HA6 := Lib.hid (HA4.out.kw k6 (HA4.out.ne_own (by decide) hown)); have c6 := HA6.out.cell (bls_at _ k (by rw [stoodK_len]; exact hk)); have f6 := HA6.out.free k; clear o6 d6 q6 n6 k6)
                        | fail)
                      have HA7 : Hid (Ro (w6.setCell ⟨b4, k, none⟩ (.bool true)) b4 4 (bls (stoodK g st x (k + 1)))) := Lib.hid (by rw [← stoodK_yes g st x k HYES.out, ← bls_set]; exact HA6.out.set k _)
                      have HK7 := Lib.hid (HK6.out.trans (Kw.set w6 b4 k (.bool true)) fun j _ e => Or.inl e)
                      have HO7 := Lib.hid ((Kw.set w6 b4 k (.bool true)).row HO6.out fun b hb e => HA6.out.ne_own (by decide) HO6.out (e ▸ hb))
                      go_roundg (g.length - (k + 1))
                      case measure => have := HI.out.2; omega
                      case rel => exact ⟨k + 1, _, rfl, by simp, Lib.hid ⟨hk, rfl⟩, HO7, Lib.hid (by
                        intro b hb
                        rcases HN6.out with h | ⟨g2, h, hle⟩
                        · exact HV.out b (h ▸ hb)
                        · rw [h] at hb; injection hb with hb; have := HK4.out.size; omega), HA7, HK7⟩
                  · obtain rfl : k = g.length := by have := HI.out.1; omega
                    have HGR : Hid (Gr.upTo (Gr.same g x) g.length = grp g x) := Lib.hid rfl
                    have hgl : 0 < (Gr.upTo (Gr.same g x) g.length).length := List.length_pos_of_mem (a := x) (by
                      show x ∈ (List.range g.length).filter _
                      rw [List.mem_filter, List.mem_range]
                      exact ⟨hxg, Gr.same_iff.2 ⟨.refl x, .refl x⟩⟩)
                    have hgi : (0 : Int) < ((Gr.upTo (Gr.same g x) g.length).length : Int) := by omega
                    have HG4 := Lib.hid (HGL.out.turn HAH.out HK4.out)
                    obtain ⟨ao, co, hos⟩ := own_shape HG4.out.row
                    subst hos
                    have hown := HG4.out.row
                    have hol : outs.length ≤ 1000 := by have := HOL.out; omega
                    go_wp2_with (first
                      | (at_builtin; refine wp_app2 (news := [.slice av (Gr.upTo (Gr.same g x) g.length).length cv]) tyGrid rfl _ _ rfl w.heap.size hown rfl rfl rfl rfl (by intro u hu; simp at hu; rw [hu]; rfl) (by omega) (by omega) hs4 ?_; intro v6 w6 o6 d6 q6 n6; have k6 := Kw.of_grown q6; have HG6 := Lib.hid (HG4.out.more HO.out k6 o6); have HA6 := Lib.hid (HA4.out.kw k6 (HA4.out.ne_own (by decide) hown)); have HK6 := Lib.hid ((HK.out.trans HK4.out fun j hj e => by rcases e with e | e; exact .inl e; exact .inr (.inr (by have := HK.out.size; omega))).trans k6 fun j _ e => Or.inr (HVO.out j e)); have HN6 := Lib.hid n6; clear o6 d6 q6 n6 k6)
                      | fail)
                    go_roundg (g.length - (t + 1))
                    case measure => have := HT.out.2; omega
                    case rel => exact ⟨t + 1, _, _, outs ++ [Gr.upTo (Gr.same g x) g.length], stood g st x, rfl, by simp, Lib.hid ⟨ht, rfl⟩, Lib.hid (tab_length _ _), Lib.hid (by rw [← stoodK_all]; exact HA6.out), HG6, Lib.hid (by
                      have h9 := HRS.out
                      rw [show g.length - t = (g.length - (t + 1)) + 1 by omega, rest_some HNB.out, ← HGR.out] at h9
                      simpa using h9), Lib.hid (by have := HOL.out; simp; omega), Lib.hid (by
                      intro b hb
                      rcases HN6.out with h | ⟨g2, h, hle⟩
                      · exact HVO.out b (h ▸ hb)
                      · rw [h] at hb; injection hb with hb; have := HK4.out.size; have := HK.out.size; right; omega), HK6⟩
            · have hmi : ((m + 1 : Nat) : Int) - 1 = (m : Int) := by omega
              have hmg : m < g.length := by have := HM.out.1; omega
              have hmm : (m : Int) < (g.length : Int) := by omega
              have hm0 : (0 : Int) ≤ (m : Int) := by omega
              rw [hmi]
              have c1 := HAH.out.cell (bls_at st m (by rw [HSL.out]; exact hmg))
              cases hs : st.getD m false
              · rw [hs] at c1
                have HSS := Lib.hid hs
                have HFR := Lib.hid (free_any (.slice ag g.length cg) vw (.slice (some ⟨b4, 0, none⟩) g.length g.length) g st m wt (HG.out.below' HBr.out) HRW.out (HAH.out.rdB HSL.out) hmg hn HL.out)
                clear hs hmi
                cases hf : Gr.free g st m
                · rw [hf] at HFR
                  have HN1 := Lib.hid (HNX.out.no (by rw [hf]; rintro ⟨_, h⟩; cases h))
                  clear hf
                  go_wp2_with fail
                  (with_reducible refine HFR.out.mono ?_); rintro e w5 ⟨rfl, rfl⟩
                  go_wp2_with fail
                  go_roundg m
                  case measure => have := HM.out.2; omega
                  case rel => exact ⟨m, nx, rfl, rfl, rfl, Lib.hid ⟨by omega, rfl⟩, HN1⟩
                · rw [hf] at HFR
                  have HN1 := Lib.hid (Nx.yes hmg ⟨HSS.out, hf⟩)
                  clear hf
                  go_wp2_with fail
                  (with_reducible refine HFR.out.mono ?_); rintro e w5 ⟨rfl, rfl⟩
                  go_wp2_with fail
                  go_roundg m
                  case measure => have := HM.out.2; omega
                  case rel => exact ⟨m, m, rfl, rfl, rfl, Lib.hid ⟨by omega, rfl⟩, HN1⟩
              · rw [hs] at c1
                have HN1 := Lib.hid (HNX.out.no (by rw [hs]; rintro ⟨h, _⟩; cases h))
                clear hs hmi
                go_wp2_with fail
                go_roundg m
                case measure => have := HM.out.2; omega
                case rel => exact ⟨m, nx, rfl, rfl, rfl, Lib.hid ⟨by omega, rfl⟩, HN1⟩
        · obtain rfl : t = g.length := by have := HT.out.1; omega
          go_wp2_with fail
          go_ret
          have h9 := HRS.out
          rw [Nat.sub_self, show Gr.rest g 0 st = [] from rfl, List.append_nil] at h9
          exact ⟨_, rfl, h9 ▸ HGL.out.rg, HBW2.out.trans (HK.out.below (by have := HS1.out; have := HLO.out; have := HBW2.out.size; rintro j (e | e | e) <;> omega) HBW2.out.size)⟩
      --END 3
end Go.Proofs.Ytemdhbeegheefaa
